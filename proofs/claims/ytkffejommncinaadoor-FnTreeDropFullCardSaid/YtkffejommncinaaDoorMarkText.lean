/- markText: the letter m and the decimal digits of a number. -/
import Derived.Test.YtkffejommncinaaDoorRecs
import Derived.Deep.LoopGhost
namespace Go.Proofs.YtkffejommncinaaDoor
open Go.RowKit

theorem decs_small {n : Nat} (h : n < 10) : decs n = [UInt8.ofNat (48 + n)] := by rw [decs, dif_pos h]
theorem decs_big {n : Nat} (h : ¬ n < 10) : decs n = decs (n / 10) ++ [UInt8.ofNat (48 + n % 10)] := by rw [decs, dif_neg h]
theorem decs_len : ∀ (j n : Nat), n < 10 ^ (j + 1) → (decs n).length ≤ j + 1
  | 0, n, h => by rw [decs_small (by simpa using h)]; simp
  | j + 1, n, h => by
    by_cases h1 : n < 10
    · rw [decs_small h1]; simp
    · rw [decs_big h1]
      have := decs_len j (n / 10) (by rw [Nat.div_lt_iff_lt_mul (by omega)]; rw [Nat.pow_succ] at h; exact h)
      simp; omega

theorem dgRun (k : Nat) (hk : k < 10) (w' : World) (a : Addr) (hc : w'.cell? a = some (.int .u8 (48 + (k : Int)))) :
    (convert 22 9 (.slice (some a) 1 1)).run Tryd.prog w' = .ok (.string ⟨([UInt8.ofNat (48 + k)] : List UInt8).toArray⟩) w' := by
  have h48 : (UInt8.ofNat (48 + k)).toNat = 48 + k := by
    clear hc
    revert k
    decide +kernel
  exact run_convert_bytes_back (P := Tryd.prog) w' 22 9 5 a 1 [UInt8.ofNat (48 + k)] Tryd.underlying22 Tryd.underlying5 Tryd.underlying9 (by
    intro j hj
    have hj0 : j = 0 := by simpa using hj
    subst hj0
    simp only [List.getElem_cons_zero]
    rw [h48]
    have ha : a.add 0 = a := by simp [Addr.add]
    rw [ha, hc]
    simp)

theorem tAdd (a b : List UInt8) (ha : a.length ≤ 8388608) (hb : b.length ≤ 8388608) (W : World) :
    (binOp .add 9 (.string ⟨a.toArray⟩) (.string ⟨b.toArray⟩)).run Tryd.prog W = .ok (.string ⟨(a ++ b).toArray⟩) W := by
  rw [binOp_string_add]
  refine (run_string_add (P := Tryd.prog) (w := W) ⟨a.toArray⟩ ⟨b.toArray⟩ ?_ ?_).trans ?_
  · show ((a.toArray).size : Int) ≤ _
    simp
    omega
  · show ((b.toArray).size : Int) ≤ _
    simp
    omega
  · have : (⟨a.toArray⟩ : ByteArray) ++ ⟨b.toArray⟩ = ⟨(a ++ b).toArray⟩ := by
      apply ByteArray.ext
      simp
    rw [this]

set_option maxRecDepth 4000 in
set_option maxHeartbeats 1000000 in
theorem markText (k : Int) (w : World) (hk : k ≤ 1152921504606846976) :
    Calls Tryd.prog 56 #[.int .i64 k] w fun e w' => e = .returned (txt (markT k)) ∧ New w w' := by
  by_cases h0 : k ≤ 0
  · have hr : txt (markT k) = .string ⟨#[109, 48]⟩ := by
      unfold markT
      rw [show k.toNat = 0 by omega, decs_small (by omega)]
      rfl
    rw [hr]
    clear hr
    go_enter Tryd.func56, Tryd.ntmps56
    go_wp2_with fail
    go_ret
    exact ⟨rfl, New.refl _⟩
  · obtain ⟨K, rfl⟩ : ∃ K : Nat, k = K := ⟨k.toNat, by omega⟩
    have hlen := decs_len 18 K (by omega)
    have Hlen := Lib.hid hlen
    have hn0 : ¬ ((K : Int) ≤ 0) := h0
    unfold markT
    rw [Int.toNat_natCast]
    clear hlen
    go_enter Tryd.func56, Tryd.ntmps56
    go_wp2_with fail
    go_loopg [0, 3] K (fun gk s0 s3 wr => ∃ (m : Nat) (T : List UInt8), gk = m ∧ m ≤ K ∧ s0 = .int .i64 m ∧ s3 = .string ⟨T.toArray⟩ ∧ (decs K = if m = 0 then T else decs m ++ T) ∧ New w wr)
    case atStart => exact ⟨K, [], rfl, Nat.le_refl _, rfl, rfl, by rw [if_neg (by omega)]; simp, New.refl _⟩
    case round =>
      obtain ⟨m, T, hgk, hmK, rfl, rfl, hd, hn⟩ := hrel
      have hTl : T.length ≤ 19 := by
        have := Hlen.out
        rw [hd] at this
        split at this
        · exact this
        · rw [List.length_append] at this; omega
      have Hgk := Lib.hid hgk
      have Hd := Lib.hid hd
      clear hd hgk
      by_cases hm : m = 0
      · subst hm
        have hadd := tAdd [109] T (by simp) (by omega) wr
        go_wp2_with fail
        go_ret
        exact ⟨by rw [Hd.out]; rfl, hn⟩
      · have hpos : (m : Int) > 0 := by omega
        obtain ⟨q, hq⟩ : ∃ q, q = m / 10 := ⟨_, rfl⟩
        obtain ⟨d, hdd⟩ : ∃ d, d = m % 10 := ⟨_, rfl⟩
        have hd10 : d < 10 := by omega
        have q1 : IntKind.i64.wrap ((m : Int) / 10) = (q : Int) := by
          have : (m : Int) / 10 = (q : Int) := by omega
          rw [this]
          exact IntWalk.i64_in _ (by omega)
        have q2 : (m : Int).tmod 10 = (d : Int) := by
          rw [Int.tmod_eq_emod_of_nonneg (by omega)]
          omega
        have q3 : IntKind.i64.wrap (48 + (d : Int)) = 48 + (d : Int) := IntWalk.i64_in _ (by omega)
        have q4 : IntKind.u8.wrap (48 + (d : Int)) = 48 + (d : Int) := by
          clear q1 q2 q3 hdd
          revert d
          intro d hd
          exact (by decide +kernel : ∀ d : Nat, d < 10 → IntKind.u8.wrap (48 + (d : Int)) = 48 + (d : Int)) d hd
        have kb : (wr.alloc (.cells #[.int .u8 (48 + (d : Int))] 5)).cell? { block := wr.heap.size, off := 0 } = some (.int .u8 (48 + (d : Int))) := by
          have h := heap_alloc_new wr (.cells #[.int .u8 (48 + (d : Int))] 5)
          unfold World.cell?
          rw [h]; rfl
        have rb0 := dgRun d hd10 _ _ kb
        have hcat : (⟨([UInt8.ofNat (48 + d)] : List UInt8).toArray⟩ : ByteArray) ++ ⟨T.toArray⟩ = ⟨([UInt8.ofNat (48 + d)] ++ T).toArray⟩ := by
          apply ByteArray.ext
          simp
        have hstep : decs K = if q = 0 then [UInt8.ofNat (48 + d)] ++ T else decs q ++ ([UInt8.ofNat (48 + d)] ++ T) := by
          rw [Hd.out, if_neg hm]
          by_cases hs : m < 10
          · rw [if_pos (by omega), decs_small hs, show d = m by omega]
          · rw [if_neg (by omega), decs_big hs, ← hq, ← hdd, List.append_assoc]
        have Hstep := Lib.hid hstep
        have Hq := Lib.hid hq
        clear hq hdd hstep kb
        have hsum : ¬ (9223372036854775807 < ([UInt8.ofNat (48 + d)] : List UInt8).length + T.length) := by simp; omega
        generalize hX : ([UInt8.ofNat (48 + d)] : List UInt8) ++ T = X at *
        generalize hY : ([UInt8.ofNat (48 + d)] : List UInt8) = Y at *
        have Hcat := Lib.hid hcat
        clear hX hY hcat
        go_wp2_with fail
        go_roundg q
        case measure => rw [Hgk.out, Hq.out]; omega
        case rel => exact ⟨q, X, rfl, by rw [Hq.out]; omega, by go_num, by rw [Hcat.out], Hstep.out, hn.alloc _⟩
end Go.Proofs.YtkffejommncinaaDoor
