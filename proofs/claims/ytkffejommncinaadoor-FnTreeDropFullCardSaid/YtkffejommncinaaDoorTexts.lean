/- The walks of the words' tests. -/
import Derived.Test.YtkffejommncinaaDoorIn
import Derived.Test.YtkffejommncinaaDoorTexts0
import Derived.Test.YtkffejommncinaaDoorSlash
import Derived.Deep.LoopGhost
namespace Go.Proofs.YtkffejommncinaaDoor
open Go.RowKit

theorem byte_at (s : ByteArray) (k : Nat) (h : k < s.size) : s.data.toList[k]? = some s[k] := Lib.data_getElem? s k h
theorem size_len (s : ByteArray) : s.data.toList.length = s.size := (Lib.size_eq s).symm

theorem word_bad {l : List UInt8} {k : Nat} {c : UInt8} (h : l[k]? = some c) (hc : small c = false) : l.all small = false := by
  rw [List.all_eq_false]
  exact ⟨c, List.mem_of_getElem? h, by simp [hc]⟩
theorem all_step {l : List UInt8} {k : Nat} {c : UInt8} (h : l[k]? = some c) (hc : small c = true) (ha : (l.take k).all small = true) : (l.take (k + 1)).all small = true := by
  obtain ⟨hk, rfl⟩ := List.getElem?_eq_some_iff.1 h
  rw [List.take_succ_eq_append_getElem hk, List.all_append, ha]
  simp [hc]
theorem small_lo {c : UInt8} (h : (c.toNat : Int) < 97) : small c = false := by
  simp [small]; intro _; omega
theorem small_hi {c : UInt8} (h : (122 : Int) < (c.toNat : Int)) : small c = false := by
  simp [small]; intro _; omega
theorem small_in {c : UInt8} (h : ¬ (c.toNat : Int) < 97) (g : ¬ (122 : Int) < (c.toNat : Int)) : small c = true := by
  simp [small]; omega

set_option maxRecDepth 4000 in
set_option maxHeartbeats 400000 in
theorem implPart (s : ByteArray) (w : World) (hs : s.size ≤ 1152921504606846976) :
    Calls Tryd.prog 99 #[.string s] w fun e w' => e = .returned (.bool (wordOk s.data.toList)) ∧ w = w' := by
  have hsl := size_len s
  have Hsl := Lib.hid hsl
  clear hsl
  by_cases h1 : s.size < 1
  · have hd : decide ((s.size : Int) < 1) = true := by simp; omega
    go_enter Tryd.func99, Tryd.ntmps99
    go_wp2
    go_ret
    refine ⟨ret_bool ?_, rfl⟩
    have := Hsl.out
    unfold wordOk
    rw [decide_eq_false (show ¬ 1 ≤ s.data.toList.length from by omega)]
    rfl
  · have hd : decide ((s.size : Int) < 1) = false := by simp; omega
    by_cases h5 : 5 < s.size
    · have hd5 : decide ((s.size : Int) > 5) = true := by simp; omega
      go_enter Tryd.func99, Tryd.ntmps99
      go_wp2
      go_ret
      refine ⟨ret_bool ?_, rfl⟩
      have := Hsl.out
      unfold wordOk
      rw [decide_eq_false (show ¬ s.data.toList.length ≤ 5 from by omega)]
      simp
    · have hd5 : decide ((s.size : Int) > 5) = false := by simp; omega
      go_enter Tryd.func99, Tryd.ntmps99
      go_wp2
      go_loop [3] (fun i => ∃ (k : Nat), k ≤ s.size ∧ i = .int .i64 k ∧ (s.data.toList.take k).all small = true) (fun i => s.size - (intOf i).toNat)
      case atStart => exact ⟨0, Nat.zero_le _, rfl, rfl⟩
      case round =>
        obtain ⟨k, hk, rfl, ha⟩ := hrel
        have Ha := Lib.hid ha
        clear ha
        by_cases hlt : k < s.size
        · have hb := byte_at s k hlt
          have Hb := Lib.hid hb
          clear hb
          by_cases hlo : (s[k].toNat : Int) < 97
          · go_wp2
            go_ret
            exact ⟨ret_bool (by unfold wordOk; rw [word_bad Hb.out (small_lo hlo)]; simp), rfl⟩
          · by_cases hhi : (122 : Int) < (s[k].toNat : Int)
            · go_wp2
              go_ret
              exact ⟨ret_bool (by unfold wordOk; rw [word_bad Hb.out (small_hi hhi)]; simp), rfl⟩
            · go_wp2
              go_round
              case rel => exact ⟨k + 1, by omega, by go_num, all_step Hb.out (small_in hlo hhi) Ha.out⟩
              case measure => simp [intOf]; omega
        · go_wp2
          go_ret
          refine ⟨ret_bool ?_, rfl⟩
          have h := Hsl.out
          have ha := Ha.out
          rw [List.take_of_length_le (by omega)] at ha
          unfold wordOk
          rw [ha, decide_eq_true (show 1 ≤ s.data.toList.length from by omega), decide_eq_true (show s.data.toList.length ≤ 5 from by omega)]
          rfl

set_option maxRecDepth 4000 in
set_option maxHeartbeats 400000 in
theorem specWord (s : ByteArray) (w : World) (hs : s.size ≤ 1152921504606846976) :
    Calls Tryd.prog 93 #[.string s] w fun e w' => e = .returned (.bool (wordOk s.data.toList)) ∧ w = w' := by
  have hsl := size_len s
  have Hsl := Lib.hid hsl
  clear hsl
  go_enter Tryd.func93, Tryd.ntmps93
  go_wp2
  go_loop [3] (fun i => ∃ (k : Nat), k ≤ s.size ∧ i = .int .i64 k ∧ (s.data.toList.take k).all small = true) (fun i => s.size - (intOf i).toNat)
  case atStart => exact ⟨0, Nat.zero_le _, rfl, rfl⟩
  case round =>
    obtain ⟨k, hk, rfl, ha⟩ := hrel
    have Ha := Lib.hid ha
    clear ha
    by_cases hlt : k < s.size
    · have hb := byte_at s k hlt
      have Hb := Lib.hid hb
      clear hb
      by_cases hlo : (s[k].toNat : Int) < 97
      · go_wp2
        go_ret
        exact ⟨ret_bool (by unfold wordOk; rw [word_bad Hb.out (small_lo hlo)]; simp), rfl⟩
      · by_cases hhi : (122 : Int) < (s[k].toNat : Int)
        · go_wp2
          go_ret
          exact ⟨ret_bool (by unfold wordOk; rw [word_bad Hb.out (small_hi hhi)]; simp), rfl⟩
        · go_wp2
          go_round
          case rel => exact ⟨k + 1, by omega, by go_num, all_step Hb.out (small_in hlo hhi) Ha.out⟩
          case measure => simp [intOf]; omega
    · go_wp2_with fail
      refine (in_any _ 1 5 _).mono ?_
      rintro e w1 ⟨rfl, rfl⟩
      go_wp2_with fail
      go_ret
      refine ⟨ret_bool ?_, rfl⟩
      have h := Hsl.out
      have ha := Ha.out
      rw [List.take_of_length_le (by omega)] at ha
      unfold wordOk inB
      rw [ha, h]
      have e1 : decide (1 ≤ (s.size : Int)) = decide (1 ≤ s.size) := by rw [decide_eq_decide]; omega
      have e2 : decide ((s.size : Int) ≤ 5) = decide (s.size ≤ 5) := by rw [decide_eq_decide]; omega
      rw [e1, e2, Bool.and_true]

end Go.Proofs.YtkffejommncinaaDoor
