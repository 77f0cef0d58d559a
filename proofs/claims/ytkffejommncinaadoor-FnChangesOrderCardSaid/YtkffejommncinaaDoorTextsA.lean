/- Several texts in one. -/
import Derived.Test.YtkffejommncinaaDoorBaseA
import Derived.Lib.Bytealg
import Derived.Lib.Strings
import Derived.Lib.IndexBytes
import Derived.Deep.LoopGhost
import Derived.Laws.Externs
import Derived.Laws.OwnMore
/- Texts as values, and slices of texts: rows of the call's own. -/
namespace Go.Proofs.YtkffejommncinaaDoor
open Go.RowKit

theorem slStr : SliceOf Tryd.prog 79 9 (.string ByteArray.empty) 1 16 := by refine ⟨by kernel_rfl, by kernel_rfl, rfl, by decide⟩

/-- A slice of texts of the call's own. -/
def OwnTexts (S : Nat → Prop) (w : World) (v : Value) (ls : List (List UInt8)) : Prop := Row 9 1 S w v ls.length (ls.map txt)
/-- A slice that reads as texts. -/
def Texts (S : Nat → Prop) (w : World) (v : Value) (ls : List (List UInt8)) : Prop :=
  ∃ a c, v = .slice a ls.length c ∧ ls.length ≤ c ∧ c ≤ maxLen ∧ (ls = [] ∨ ∃ b off, a = some ⟨b, off, none⟩ ∧ S b ∧ b < w.heap.size ∧ ∀ i l, ls[i]? = some l → w.cell? ⟨b, off + i, none⟩ = some (txt l))
theorem OwnTexts.texts {S : Nat → Prop} {w : World} {v : Value} {ls : List (List UInt8)} (h : OwnTexts S w v ls) : Texts S w v ls := by
  by_cases h0 : 0 < ls.length
  · obtain ⟨g, cap, rfl, hS, hlt, h1, h2⟩ := Row.head h h0
    refine ⟨_, cap, rfl, h1, h2, .inr ⟨g, 0, rfl, hS, hlt, fun i l hl => ?_⟩⟩
    rw [Nat.zero_add]
    exact Row.cellAt h (by simp [hl])
  · obtain rfl : ls = [] := List.eq_nil_of_length_eq_zero (by omega)
    obtain ⟨a, cap, rfl, h1, h2, _, h5⟩ := Row.shape h
    exact ⟨a, cap, rfl, h1, h2, .inl rfl⟩
theorem OwnTexts.new {S : Nat → Prop} {w w' : World} {v : Value} {ls : List (List UInt8)} (h : OwnTexts S w v ls) (g : New w w') : OwnTexts S w' v ls := Row.new h g
theorem OwnTexts.mono {S T : Nat → Prop} {w : World} {v : Value} {ls : List (List UInt8)} (h : OwnTexts S w v ls) (hs : ∀ k, k < w.heap.size → S k → T k) : OwnTexts T w v ls := Row.mono h hs
theorem OwnTexts.chg {S T : Nat → Prop} {w w' : World} {v : Value} {ls : List (List UInt8)} (h : OwnTexts S w v ls) (g : Chg T w w') (hs : ∀ k, k < w.heap.size → S k → ¬ T k) : OwnTexts S w' v ls := Row.chg h g hs
theorem OwnTexts.old {S : Nat → Prop} {w : World} {v : Value} {ls : List (List UInt8)} (h : OwnTexts S w v ls) : OwnTexts (fun j => S j ∧ j < w.heap.size) w v ls := h.mono fun _ hj hs => ⟨hs, hj⟩
theorem Texts.new {S : Nat → Prop} {w w' : World} {v : Value} {ls : List (List UInt8)} (h : Texts S w v ls) (g : New w w') : Texts S w' v ls := by
  obtain ⟨a, c, rfl, h1, h2, h4⟩ := h
  refine ⟨a, c, rfl, h1, h2, ?_⟩
  rcases h4 with h4 | ⟨b, off, rfl, hs, hb, hc⟩
  · exact .inl h4
  · exact .inr ⟨b, off, rfl, hs, Nat.lt_of_lt_of_le hb g.size, fun i x hx => g.cell (hc i x hx)⟩
theorem OwnTexts.nil (S : Nat → Prop) (w : World) : OwnTexts S w (.slice none 0 0) [] := Row.nil _ _ _ _

end Go.Proofs.YtkffejommncinaaDoor

/- Texts cut at their slashes, plain: no program in sight. -/
namespace Go.Proofs.YtkffejommncinaaDoor

/-- the parts of a text, with the part so far -/
def cutGo : List UInt8 → List UInt8 → List (List UInt8)
  | cur, [] => [cur]
  | cur, c :: r => if c = 47 then cur :: cutGo [] r else cutGo (cur ++ [c]) r
def cutS (l : List UInt8) : List (List UInt8) := cutGo [] l
def small (c : UInt8) : Bool := decide (97 ≤ c.toNat) && decide (c.toNat ≤ 122)
def wordOk (l : List UInt8) : Bool := decide (1 ≤ l.length) && decide (l.length ≤ 5) && l.all small
def pathOk (l : List UInt8) : Bool := decide ((cutS l).length ≤ 4) && (cutS l).all wordOk

theorem cutGo_ne : ∀ (cur l : List UInt8), cutGo cur l ≠ []
  | _, [] => by simp [cutGo]
  | cur, c :: r => by
    rw [cutGo]
    split
    · simp
    · exact cutGo_ne _ r
theorem cutS_pos (l : List UInt8) : 0 < (cutS l).length := List.length_pos_iff.2 (cutGo_ne [] l)
theorem cutGo_len : ∀ (cur l : List UInt8), ((cutGo cur l).map fun p => p.length + 1).sum = cur.length + l.length + 1
  | cur, [] => by simp [cutGo]
  | cur, c :: r => by
    rw [cutGo]
    split
    · rw [List.map_cons, List.sum_cons, cutGo_len [] r]; simp; omega
    · rw [cutGo_len _ r]; simp; omega
theorem cutGo_count : ∀ (cur l : List UInt8), (cutGo cur l).length = l.count 47 + 1
  | cur, [] => by simp [cutGo]
  | cur, c :: r => by
    rw [cutGo]
    split
    · rename_i h; subst h; rw [List.length_cons, cutGo_count [] r]; simp
    · rename_i h; rw [cutGo_count _ r, List.count_cons]; simp [h]
theorem cutGo_none : ∀ (cur l : List UInt8), (47 : UInt8) ∉ l → cutGo cur l = [cur ++ l]
  | cur, [], _ => by simp [cutGo]
  | cur, c :: r, h => by
    simp only [List.mem_cons, not_or] at h
    rw [cutGo, if_neg (fun e => h.1 e.symm), cutGo_none _ r h.2]
    simp
theorem cutGo_at : ∀ (cur a b : List UInt8), (47 : UInt8) ∉ a → cutGo cur (a ++ 47 :: b) = (cur ++ a) :: cutGo [] b
  | cur, [], b, _ => by simp [cutGo]
  | cur, c :: r, b, h => by
    simp only [List.mem_cons, not_or] at h
    rw [List.cons_append, cutGo, if_neg (fun e => h.1 e.symm), cutGo_at _ r b h.2]
    simp
/-- a last part behind the last slash -/
theorem cutGo_last : ∀ (cur a b : List UInt8), (47 : UInt8) ∉ b → cutGo cur (a ++ 47 :: b) = cutGo cur a ++ [b]
  | cur, [], b, h => by simp [cutGo, cutGo_none [] b h]
  | cur, c :: r, b, h => by
    rw [List.cons_append, cutGo, cutGo]
    split
    · rw [cutGo_last [] r b h]; rfl
    · exact cutGo_last _ r b h

theorem cutGo_le : ∀ (cur l x : List UInt8), x ∈ cutGo cur l → x.length ≤ cur.length + l.length
  | cur, [], x, h => by simp [cutGo] at h; subst h; simp
  | cur, c :: r, x, h => by
    rw [cutGo] at h
    split at h
    · rcases List.mem_cons.1 h with rfl | h
      · omega
      · have := cutGo_le [] r x h; simp at this ⊢; omega
    · have := cutGo_le _ r x h; simp at this ⊢; omega
theorem sum_le {l : List (List UInt8)} (h : l.all wordOk = true) : (l.map fun p => p.length + 1).sum ≤ 6 * l.length := by
  induction l with
  | nil => simp
  | cons a r ih =>
    simp only [List.all_cons, Bool.and_eq_true] at h
    have h1 := h.1
    simp only [wordOk, Bool.and_eq_true, decide_eq_true_eq] at h1
    have := ih h.2
    simp only [List.map_cons, List.sum_cons, List.length_cons]
    omega
/-- a valid path is short -/
theorem pathOk_short {l : List UInt8} (h : pathOk l = true) : l.length ≤ 23 := by
  simp only [pathOk, Bool.and_eq_true, decide_eq_true_eq] at h
  have h1 := cutGo_len [] l
  have h2 := sum_le h.2
  have h3 : (cutS l).length ≤ 4 := h.1
  unfold cutS at h2 h3
  simp at h1
  omega

/-- the first slash, as the library tells it -/
theorem index_none : ∀ (l : List UInt8), Lib.indexByte l 47 = -1 ↔ (47 : UInt8) ∉ l
  | [] => by simp [Lib.indexByte]
  | b :: r => by
    have ih := index_none r
    have hge := Lib.indexByte_ge r 47
    unfold Lib.indexByte
    by_cases hb : b = 47
    · subst hb; simp
    · rw [if_neg (by simpa using hb)]
      by_cases hr : Lib.indexByte r 47 = -1
      · rw [if_pos (by simpa using hr)]
        simp only [List.mem_cons, not_or]
        exact ⟨fun _ => ⟨fun e => hb e.symm, ih.1 hr⟩, fun _ => trivial⟩
      · rw [if_neg (by simpa using hr)]
        simp only [List.mem_cons, not_or]
        constructor
        · intro e; omega
        · intro e; exact absurd (ih.2 e.2) hr
theorem index_some : ∀ (l : List UInt8) (m : Nat), Lib.indexByte l 47 = m → m < l.length ∧ (47 : UInt8) ∉ l.take m ∧ l = l.take m ++ 47 :: l.drop (m + 1)
  | [], m, h => by simp [Lib.indexByte] at h <;> omega
  | b :: r, m, h => by
    have hge := Lib.indexByte_ge r 47
    unfold Lib.indexByte at h
    by_cases hb : b = 47
    · subst hb
      simp at h
      obtain rfl : m = 0 := by omega
      simp
    · rw [if_neg (by simpa using hb)] at h
      by_cases hr : Lib.indexByte r 47 = -1
      · rw [if_pos (by simpa using hr)] at h; omega
      · rw [if_neg (by simpa using hr)] at h
        obtain ⟨n, rfl⟩ : ∃ n, m = n + 1 := ⟨m - 1, by omega⟩
        obtain ⟨h1, h2, h3⟩ := index_some r n (by omega)
        refine ⟨by simp; omega, ?_, ?_⟩
        · simp only [List.take_succ_cons, List.mem_cons, not_or]
          exact ⟨fun e => hb e.symm, h2⟩
        · simp only [List.take_succ_cons, List.drop_succ_cons, List.cons_append]
          rw [← h3]

/-- behind a word the parts of a text with at least one letter -/
theorem cutS_at {l : List UInt8} {m : Nat} (h : Lib.indexByte l 47 = m) : cutS l = l.take m :: cutS (l.drop (m + 1)) := by
  obtain ⟨_, h2, h3⟩ := index_some l m h
  unfold cutS
  conv => lhs; rw [h3]
  rw [cutGo_at _ _ _ h2]; rfl
theorem cutS_none {l : List UInt8} (h : Lib.indexByte l 47 = -1) : cutS l = [l] := by
  unfold cutS
  rw [cutGo_none _ _ ((index_none l).1 h)]; rfl

end Go.Proofs.YtkffejommncinaaDoor

/- The walks of the words' tests. -/
namespace Go.Proofs.YtkffejommncinaaDoor
open Go.RowKit

theorem byte_at (s : ByteArray) (k : Nat) (h : k < s.size) : s.data.toList[k]? = some s[k] := Lib.data_getElem? s k h
theorem size_len (s : ByteArray) : s.data.toList.length = s.size := (Lib.size_eq s).symm

theorem word_bad {l : List UInt8} {k : Nat} {c : UInt8} (h : l[k]? = some c) (hc : small c = false) : l.all small = false := by
  rw [List.all_eq_false]
  exact ⟨c, List.mem_of_getElem? h, by simp [hc]⟩
theorem all_step {l : List UInt8} {k : Nat} {c : UInt8} (h : l[k]? = some c) (hc : small c = true) (ha : (l.take k).all small = true) : (l.take (k + 1)).all small = true := by
  obtain ⟨hk, rfl⟩ := List.getElem?_eq_some_iff.1 h
  rw [List.take_succ_eq_append_getElem hk, List.all_append, ha]
  simp [hc]
theorem small_lo {c : UInt8} (h : (c.toNat : Int) < 97) : small c = false := by
  simp [small]; intro _; omega
theorem small_hi {c : UInt8} (h : (122 : Int) < (c.toNat : Int)) : small c = false := by
  simp [small]; intro _; omega
theorem small_in {c : UInt8} (h : ¬ (c.toNat : Int) < 97) (g : ¬ (122 : Int) < (c.toNat : Int)) : small c = true := by
  simp [small]; omega

set_option maxRecDepth 4000 in
set_option maxHeartbeats 400000 in
theorem implPart (s : ByteArray) (w : World) (hs : s.size ≤ 1152921504606846976) :
    Calls Tryd.prog 99 #[.string s] w fun e w' => e = .returned (.bool (wordOk s.data.toList)) ∧ w = w' := by
  have hsl := size_len s
  have Hsl := Lib.hid hsl
  clear hsl
  by_cases h1 : s.size < 1
  · have hd : decide ((s.size : Int) < 1) = true := by simp; omega
    go_enter Tryd.func99, Tryd.ntmps99
    go_wp2
    go_ret
    refine ⟨ret_bool ?_, rfl⟩
    have := Hsl.out
    unfold wordOk
    rw [decide_eq_false (show ¬ 1 ≤ s.data.toList.length from by omega)]
    rfl
  · have hd : decide ((s.size : Int) < 1) = false := by simp; omega
    by_cases h5 : 5 < s.size
    · have hd5 : decide ((s.size : Int) > 5) = true := by simp; omega
      go_enter Tryd.func99, Tryd.ntmps99
      go_wp2
      go_ret
      refine ⟨ret_bool ?_, rfl⟩
      have := Hsl.out
      unfold wordOk
      rw [decide_eq_false (show ¬ s.data.toList.length ≤ 5 from by omega)]
      simp
    · have hd5 : decide ((s.size : Int) > 5) = false := by simp; omega
      go_enter Tryd.func99, Tryd.ntmps99
      go_wp2
      go_loop [3] (fun i => ∃ (k : Nat), k ≤ s.size ∧ i = .int .i64 k ∧ (s.data.toList.take k).all small = true) (fun i => s.size - (intOf i).toNat)
      case atStart => exact ⟨0, Nat.zero_le _, rfl, rfl⟩
      case round =>
        obtain ⟨k, hk, rfl, ha⟩ := hrel
        have Ha := Lib.hid ha
        clear ha
        by_cases hlt : k < s.size
        · have hb := byte_at s k hlt
          have Hb := Lib.hid hb
          clear hb
          by_cases hlo : (s[k].toNat : Int) < 97
          · go_wp2
            go_ret
            exact ⟨ret_bool (by unfold wordOk; rw [word_bad Hb.out (small_lo hlo)]; simp), rfl⟩
          · by_cases hhi : (122 : Int) < (s[k].toNat : Int)
            · go_wp2
              go_ret
              exact ⟨ret_bool (by unfold wordOk; rw [word_bad Hb.out (small_hi hhi)]; simp), rfl⟩
            · go_wp2
              go_round
              case rel => exact ⟨k + 1, by omega, by go_num, all_step Hb.out (small_in hlo hhi) Ha.out⟩
              case measure => simp [intOf]; omega
        · go_wp2
          go_ret
          refine ⟨ret_bool ?_, rfl⟩
          have h := Hsl.out
          have ha := Ha.out
          rw [List.take_of_length_le (by omega)] at ha
          unfold wordOk
          rw [ha, decide_eq_true (show 1 ≤ s.data.toList.length from by omega), decide_eq_true (show s.data.toList.length ≤ 5 from by omega)]
          rfl

set_option maxRecDepth 4000 in
set_option maxHeartbeats 400000 in
theorem specWord (s : ByteArray) (w : World) (hs : s.size ≤ 1152921504606846976) :
    Calls Tryd.prog 93 #[.string s] w fun e w' => e = .returned (.bool (wordOk s.data.toList)) ∧ w = w' := by
  have hsl := size_len s
  have Hsl := Lib.hid hsl
  clear hsl
  go_enter Tryd.func93, Tryd.ntmps93
  go_wp2
  go_loop [3] (fun i => ∃ (k : Nat), k ≤ s.size ∧ i = .int .i64 k ∧ (s.data.toList.take k).all small = true) (fun i => s.size - (intOf i).toNat)
  case atStart => exact ⟨0, Nat.zero_le _, rfl, rfl⟩
  case round =>
    obtain ⟨k, hk, rfl, ha⟩ := hrel
    have Ha := Lib.hid ha
    clear ha
    by_cases hlt : k < s.size
    · have hb := byte_at s k hlt
      have Hb := Lib.hid hb
      clear hb
      by_cases hlo : (s[k].toNat : Int) < 97
      · go_wp2
        go_ret
        exact ⟨ret_bool (by unfold wordOk; rw [word_bad Hb.out (small_lo hlo)]; simp), rfl⟩
      · by_cases hhi : (122 : Int) < (s[k].toNat : Int)
        · go_wp2
          go_ret
          exact ⟨ret_bool (by unfold wordOk; rw [word_bad Hb.out (small_hi hhi)]; simp), rfl⟩
        · go_wp2
          go_round
          case rel => exact ⟨k + 1, by omega, by go_num, all_step Hb.out (small_in hlo hhi) Ha.out⟩
          case measure => simp [intOf]; omega
    · go_wp2_with fail
      refine (in_any _ 1 5 _).mono ?_
      rintro e w1 ⟨rfl, rfl⟩
      go_wp2_with fail
      go_ret
      refine ⟨ret_bool ?_, rfl⟩
      have h := Hsl.out
      have ha := Ha.out
      rw [List.take_of_length_le (by omega)] at ha
      unfold wordOk inB
      rw [ha, h]
      have e1 : decide (1 ≤ (s.size : Int)) = decide (1 ≤ s.size) := by rw [decide_eq_decide]; omega
      have e2 : decide ((s.size : Int) ≤ 5) = decide (s.size ≤ 5) := by rw [decide_eq_decide]; omega
      rw [e1, e2, Bool.and_true]

end Go.Proofs.YtkffejommncinaaDoor

/- Paths: strings.Split at a slash; parts and PathValid, the program's and the reference's. -/
namespace Go.Proofs.YtkffejommncinaaDoor
open Go.RowKit

set_option maxRecDepth 4000 in
theorem slashIndex (s : ByteArray) (w : World) :
    Calls Tryd.prog 112 #[.string s, .int .u8 47] w fun e w' => e = .returned (.int .i64 (Lib.indexByte s.data.toList 47)) ∧ w = w' := by
  go_enter Tryd.func112, Tryd.ntmps112
  go_wp2
  rw [run_callFunc_extern Tryd.func116 (by kernel_rfl) (by kernel_rfl) (by kernel_rfl) (e := Extern.BytealgIndexByte.indexByte) (by kernel_rfl), Lib.run_indexByteString]
  simp only [Result.andThen]
  rw [Oper.upon_value]
  go_wp2
  go_ret
  exact ⟨rfl, rfl⟩

set_option maxRecDepth 100000 in
theorem sliteIndex (s : ByteArray) (w : World) :
    Calls Tryd.prog 110 #[.string s, .string ⟨#[47]⟩] w fun e w' => e = .returned (.int .i64 (Lib.indexByte s.data.toList 47)) ∧ w = w' := by
  go_enter Tryd.func110, Tryd.ntmps110
  go_wp2_with (go_at_call 112; refine (slashIndex _ _).mono ?_; rintro e w' ⟨rfl, rfl⟩)
  · have h : ([47] == s.toList) = true := by assumption
    go_ret
    refine ⟨?_, rfl⟩
    have e : s.data.toList = [47] := by rw [← Lib.toList_data]; exact (beq_iff_eq.1 h).symm
    rw [e]
    simp [Lib.indexByte]
  · go_ret
    exact ⟨rfl, rfl⟩

set_option maxRecDepth 4000 in
theorem strIndex (s : ByteArray) (w : World) :
    Calls Tryd.prog 106 #[.string s, .string ⟨#[47]⟩] w fun e w' => e = .returned (.int .i64 (Lib.indexByte s.data.toList 47)) ∧ w = w' := by
  go_enter Tryd.func106, Tryd.ntmps106
  go_wp2_with fail
  refine (sliteIndex s w).mono ?_
  rintro e w' ⟨rfl, rfl⟩
  go_wp2_with fail
  go_ret
  exact ⟨rfl, rfl⟩

set_option maxRecDepth 4000 in
theorem strCount (s : ByteArray) (w : World) :
    Calls Tryd.prog 105 #[.string s, .string ⟨#[47]⟩] w fun e w' => e = .returned (.int .i64 (s.data.toList.count 47 : Nat)) ∧ w = w' := by
  go_enter Tryd.func105, Tryd.ntmps105
  go_wp2
  rw [run_callFunc_extern Tryd.func109 (by kernel_rfl) (by kernel_rfl) (by kernel_rfl) (e := Extern.BytealgCount.count) (by kernel_rfl), Lib.run_countString]
  simp only [Result.andThen]
  rw [Oper.upon_value]
  go_wp2
  go_ret
  exact ⟨rfl, rfl⟩

def CutPostS (w : World) (l : List UInt8) (e : Ending) (w' : World) : Prop := ∃ v, e = .returned v ∧ OwnTexts (fun j => w.heap.size ≤ j) w' v (cutS l) ∧ New w w'

set_option maxRecDepth 4000 in
set_option maxHeartbeats 1000000 in
theorem genSplit (s : ByteArray) (w : World) (hs : s.size ≤ 1000) :
    Calls Tryd.prog 102 #[.string s, .string ⟨#[47]⟩, .int .i64 0, .int .i64 (-1)] w (CutPostS w s.data.toList) := by
  have hsl := size_len s
  have hcl := cutGo_count [] s.data.toList
  have hcs := List.count_le_length (a := (47 : UInt8)) (l := s.data.toList)
  obtain ⟨N, hN⟩ : ∃ N : Nat, (cutS s.data.toList).length = N := ⟨_, rfl⟩
  obtain ⟨cnt, hcnt⟩ : ∃ cnt : Nat, s.data.toList.count 47 = cnt := ⟨_, rfl⟩
  have hNc : (cnt : Int) + 1 = (N : Int) := by rw [← hN, ← hcnt]; unfold cutS; omega
  have hcc := fun (W : World) => strCount s W
  rw [hcnt] at hcc
  have Hcc := Lib.hid hcc
  have hN1 : 1 ≤ N := by rw [← hN]; exact cutS_pos _
  have hN2 : N ≤ s.size + 1 := by rw [← hN, ← hsl]; unfold cutS; omega
  have hN3 : (N : Int) ≤ (s.size : Int) + 1 := by omega
  have hN4 : ¬ ((s.size : Int) + 1 < (N : Int)) := by omega
  have HN := Lib.hid hN
  have Hsl := Lib.hid hsl
  clear hN hsl hcl hcs hcnt hcc
  go_enter Tryd.func102, Tryd.ntmps102
  go_wp2_with fail
  refine (Hcc.out _).mono ?_
  rintro e w' ⟨rfl, rfl⟩
  go_wp2_with (at_make; refine wpRow_make slStr _ _ rfl rfl .i64 .i64 N rfl rfl (by omega) (by unfold maxLen; omega) ?_; intro w1 hrow hn1 hlt1)
  go_loopg [0, 10, 11] (N - 1) (fun gk s0 s10 s11 wr => ∃ (k : Nat) (t : ByteArray) (cur : List Value) (done : List (List UInt8)), gk = N - 1 - k ∧ k ≤ N - 1 ∧ s0 = .string t ∧ s10 = .int .i64 k ∧ t.size ≤ s.size ∧ done.length = k ∧ done ++ cutS t.data.toList = cutS s.data.toList ∧
    New w wr ∧ Row 9 1 (fun j => j = w.heap.size) wr (.slice (some ⟨w.heap.size, 0, none⟩) N N) N cur ∧ cur.length = N ∧ cur.take k = done.map txt)
  case atStart => exact ⟨0, s, _, [], by omega, by omega, rfl, rfl, Nat.le_refl _, rfl, rfl, hn1, hrow, by simpa using hrow.1.1, rfl⟩
  case round =>
    obtain ⟨k, t, cur, done, hgk, hk, rfl, rfl, hts, hdl, hd, hn, hr, hcl, hct⟩ := hrel
    have hlen := congrArg List.length hd
    rw [List.length_append, HN.out] at hlen
    have hcount : t.data.toList.count 47 + 1 = (cutS t.data.toList).length := by unfold cutS; rw [cutGo_count]
    have Hgk := Lib.hid hgk
    have Hd := Lib.hid hd
    have Hdl := Lib.hid hdl
    have Hcl := Lib.hid hcl
    have Hct := Lib.hid hct
    have htl := size_len t
    have Htl := Lib.hid htl
    have hix : k < N - 1 → ∃ m : Nat, Lib.indexByte t.data.toList 47 = (m : Int) ∧ m < t.size := by
      intro hlt
      have hpos : 0 < t.data.toList.count 47 := by omega
      have hm : (47 : UInt8) ∈ t.data.toList := List.count_pos_iff.1 hpos
      have hge := Lib.indexByte_ge t.data.toList 47
      have hne : Lib.indexByte t.data.toList 47 ≠ -1 := fun e => (index_none _).1 e hm
      refine ⟨(Lib.indexByte t.data.toList 47).toNat, by omega, ?_⟩
      have := (index_some t.data.toList (Lib.indexByte t.data.toList 47).toNat (by omega)).1
      omega
    have hone : ¬ k < N - 1 → cutS t.data.toList = [t.data.toList] := by
      intro hge
      refine cutS_none ((index_none _).2 (fun hm => ?_))
      have := List.count_pos_iff.2 hm
      omega
    have Hix := Lib.hid hix
    have Hone := Lib.hid hone
    clear hgk hd hdl hcl hct htl hlen hcount hix hone
    obtain ⟨u, hu⟩ := get_of (show k < cur.length by rw [Hcl.out]; omega)
    have hcu := hr.cellAt hu
    have hfr := hr.frozenAt k
    clear hu
    by_cases hlt : k < N - 1
    · obtain ⟨m, hm, hmt⟩ := Hix.out hlt
      have hlt' : (k : Int) < (N : Int) - 1 := by omega
      have hcall := strIndex t wr
      rw [hm] at hcall
      have Hcall := Lib.hid hcall
      have Hm := Lib.hid hm
      clear hm hcall
      go_wp2_with (go_at_call 106; refine Hcall.out.mono ?_; rintro e w' ⟨rfl, rfl⟩)
      have e1 := cutS_at Hm.out
      go_roundg (N - 1 - (k + 1))
      case measure => rw [Hgk.out]; omega
      case rel =>
        refine ⟨k + 1, t.extract (m + 1) t.size, cur.set k (.string (t.extract 0 m)), done ++ [t.data.toList.take m], rfl, by omega, rfl, by go_num, ?_, by simp [Hdl.out], ?_, hn.setCell _ (by simp), hr.set _ _, by simp [Hcl.out], ?_⟩
        · simp; omega
        · rw [Lib.extract_to_end, ← Hd.out, e1, List.append_assoc]; rfl
        · rw [List.take_set, List.take_succ_eq_append_getElem (by rw [Hcl.out]; omega), Hct.out]
          rw [List.set_append_right _ _ (by simp [Hdl.out])]
          simp [Hdl.out, txt_cut]
    · have ek : k + 1 = N := by omega
      have hge' : ¬ ((k : Int) < (N : Int) - 1) := by omega
      have e1 := Hone.out hlt
      have Ek := Lib.hid ek
      have E1 := Lib.hid e1
      have hk1 : (k : Int) + 1 ≤ (N : Int) := by omega
      clear ek e1
      go_wp2_with fail
      go_ret
      have hcs : (cutS s.data.toList).length = k + 1 := by rw [HN.out, Ek.out]
      refine ⟨_, rfl, ?_, hn.setCell _ (by simp)⟩
      have hr2 := hr.set k (.string t)
      have ecur : cur.set k (.string t) = (cutS s.data.toList).map txt := by
        rw [← Hd.out, E1.out, List.map_append, ← Hct.out]
        have h1 : cur = cur.take k ++ [cur[k]'(by rw [Hcl.out]; omega)] := by
          have := List.take_succ_eq_append_getElem (l := cur) (i := k) (by rw [Hcl.out]; omega)
          rw [← this, List.take_of_length_le (by rw [Hcl.out]; omega)]
        have hk' : (cur.take k).length = k := by rw [List.length_take, Hcl.out]; omega
        conv => lhs; rw [h1]
        rw [List.set_append_right _ _ (by omega), hk', Nat.sub_self, List.set_cons_zero, txt_of]
        rfl
      rw [ecur] at hr2
      unfold OwnTexts
      rw [hcs]
      have hr3 : Row 9 1 (fun j => w.heap.size ≤ j) (wr.setCell ⟨w.heap.size, k, none⟩ (.string t)) (.slice (some ⟨w.heap.size, 0, none⟩) (k + 1) N) (k + 1) ((cutS s.data.toList).map txt) := by
        rw [Ek.out]
        exact hr2.mono (fun j _ hj => by omega)
      exact hr3

set_option maxRecDepth 4000 in
theorem strSplit (s : ByteArray) (w : World) (hs : s.size ≤ 1000) :
    Calls Tryd.prog 98 #[.string s, .string ⟨#[47]⟩] w (CutPostS w s.data.toList) := by
  have h := genSplit s w hs
  have H := Lib.hid h
  clear h
  go_enter Tryd.func98, Tryd.ntmps98
  go_wp2_with fail
  refine H.out.mono ?_
  rintro e w1 ⟨v, rfl, ho, hn⟩
  obtain ⟨a, c, rfl, -, -, -⟩ := ho.texts
  go_wp2_with fail
  go_ret
  exact ⟨_, rfl, ho, hn⟩

/-- the parts of a valid path, none of another text -/
def partsOf (l : List UInt8) : List (List UInt8) := if pathOk l then cutS l else []
def PartsPost (w : World) (l : List UInt8) (e : Ending) (w' : World) : Prop := ∃ v, e = .returned v ∧ OwnTexts (fun j => w.heap.size ≤ j) w' v (partsOf l) ∧ New w w'

theorem partsOf_bad {l : List UInt8} (h : pathOk l = false) : partsOf l = [] := by simp [partsOf, h]
theorem all_take {l : List (List UInt8)} {k : Nat} {x : List UInt8} (hx : l[k]? = some x) (ha : (l.take k).all wordOk = true) (hw : wordOk x = true) : (l.take (k + 1)).all wordOk = true := by
  obtain ⟨hk, rfl⟩ := List.getElem?_eq_some_iff.1 hx
  rw [List.take_succ_eq_append_getElem hk, List.all_append, ha]
  simp [hw]
theorem all_bad {l : List (List UInt8)} {k : Nat} {x : List UInt8} (hx : l[k]? = some x) (hw : wordOk x = false) : l.all wordOk = false := by
  rw [List.all_eq_false]
  exact ⟨x, List.mem_of_getElem? hx, by simp [hw]⟩

set_option maxRecDepth 4000 in
set_option maxHeartbeats 1000000 in
theorem implParts (s : ByteArray) (w : World) (hs : s.size ≤ 1152921504606846976) :
    Calls Tryd.prog 87 #[.string s] w (PartsPost w s.data.toList) := by
  have hsl := size_len s
  have Hsl := Lib.hid hsl
  clear hsl
  by_cases h23 : 23 < s.size
  · have hd : (23 : Int) < (s.size : Int) := by omega
    have hb : pathOk s.data.toList = false := by
      rcases hp : pathOk s.data.toList with _ | _
      · rfl
      · have := pathOk_short hp; have := Hsl.out; omega
    have hp := partsOf_bad hb
    have Hp := Lib.hid hp
    clear hb hp
    go_enter Tryd.func87, Tryd.ntmps87
    go_wp2
    go_ret
    exact ⟨_, rfl, by rw [Hp.out]; exact OwnTexts.nil _ _, New.refl _⟩
  · have hd : ¬ ((23 : Int) < (s.size : Int)) := by omega
    have hsp := strSplit s w (by omega)
    have Hsp := Lib.hid hsp
    clear hsp
    go_enter Tryd.func87, Tryd.ntmps87
    go_wp2_with fail
    refine Hsp.out.mono ?_
    rintro e w1 ⟨v, rfl, ho, hn⟩
    have ht := ho.texts
    obtain ⟨a, c, rfl, t1, t2, t3⟩ := ht
    unfold maxLen at t2
    by_cases h4 : 4 < (cutS s.data.toList).length
    · have hd4 : (4 : Int) < ((cutS s.data.toList).length : Int) := by omega
      have hb : pathOk s.data.toList = false := by unfold pathOk; rw [show decide ((cutS s.data.toList).length ≤ 4) = false from by simp; omega]; rfl
      have hp := partsOf_bad hb
      have Hp := Lib.hid hp
      clear hb hp
      go_wp2_with fail
      go_ret
      exact ⟨_, rfl, by rw [Hp.out]; exact OwnTexts.nil _ _, hn⟩
    · have hd4 : ¬ ((4 : Int) < ((cutS s.data.toList).length : Int)) := by omega
      have hxs : ∀ x ∈ cutS s.data.toList, x.length ≤ 1152921504606846976 := fun x hx => by
        have := cutGo_le [] _ x hx; have := Hsl.out; simp at *; omega
      have Hxs := Lib.hid hxs
      clear hxs
      generalize hP : cutS s.data.toList = ps at *
      have HP := Lib.hid hP
      clear hP
      go_wp2_with fail
      go_loop [16] (fun i => ∃ (k : Nat), k ≤ ps.length ∧ i = .int .i64 k ∧ (ps.take k).all wordOk = true) (fun i => ps.length - (intOf i).toNat)
      case atStart => exact ⟨0, Nat.zero_le _, rfl, rfl⟩
      case round =>
        obtain ⟨k, hk, rfl, ha⟩ := hrel
        have Ha := Lib.hid ha
        clear ha
        by_cases hlt : k < ps.length
        · obtain ⟨x, hx⟩ := get_of hlt
          rcases t3 with rfl | ⟨b, off, rfl, -, -, hc⟩
          · simp at hlt
          have hcell := hc k x hx
          unfold txt at hcell
          have Hx := Lib.hid hx
          clear hx hc
          have hxl : (⟨x.toArray⟩ : ByteArray).size ≤ 1152921504606846976 := Hxs.out x (List.mem_of_getElem? Hx.out)
          rcases hw : wordOk x with _ | _
          · have Hw := Lib.hid hw
            have hcall := implPart ⟨x.toArray⟩ w1 hxl
            rw [show (⟨x.toArray⟩ : ByteArray).data.toList = x from rfl, hw] at hcall
            have Hcall := Lib.hid hcall
            clear hw hcall
            have hb : pathOk s.data.toList = false := by unfold pathOk; rw [HP.out, all_bad Hx.out Hw.out]; simp
            have hp := partsOf_bad hb
            have Hp := Lib.hid hp
            clear hb hp
            go_wp2_with fail
            refine Hcall.out.mono ?_
            rintro e w2 ⟨rfl, rfl⟩
            go_wp2_with fail
            go_ret
            exact ⟨_, rfl, by rw [Hp.out]; exact OwnTexts.nil _ _, hn⟩
          · have Hw := Lib.hid hw
            have hcall := implPart ⟨x.toArray⟩ w1 hxl
            rw [show (⟨x.toArray⟩ : ByteArray).data.toList = x from rfl, hw] at hcall
            have Hcall := Lib.hid hcall
            clear hw hcall
            go_wp2_with fail
            refine Hcall.out.mono ?_
            rintro e w2 ⟨rfl, rfl⟩
            go_wp2_with fail
            go_round
            case rel => exact ⟨k + 1, by omega, by go_num, all_take Hx.out Ha.out Hw.out⟩
            case measure => simp [intOf]; omega
        · go_wp2_with fail
          go_ret
          have ha := Ha.out
          rw [List.take_of_length_le (by omega)] at ha
          have hg : partsOf s.data.toList = ps := by
            unfold partsOf pathOk
            rw [HP.out, ha, show decide (ps.length ≤ 4) = true from by simp; omega]; rfl
          exact ⟨_, rfl, by rw [hg]; exact ho, hn⟩

end Go.Proofs.YtkffejommncinaaDoor

/- PathValid, PathWithin, PathParent: the program's and the reference's. -/
namespace Go.Proofs.YtkffejommncinaaDoor
open Go.RowKit

theorem parts_valid (l : List UInt8) : decide (0 < (partsOf l).length) = pathOk l := by
  unfold partsOf
  have := cutS_pos l
  cases pathOk l <;> simp
  omega

set_option maxRecDepth 4000 in
theorem implValid (s : ByteArray) (w : World) (hs : s.size ≤ 1152921504606846976) :
    Calls Tryd.prog 72 #[.string s] w fun e w' => e = .returned (.bool (pathOk s.data.toList)) ∧ New w w' := by
  have hp := implParts s w hs
  rw [← parts_valid s.data.toList]
  have Hp := Lib.hid hp
  clear hp
  go_enter Tryd.func72, Tryd.ntmps72
  go_wp2_with fail
  refine Hp.out.mono ?_
  rintro e w1 ⟨v, rfl, ho, hn⟩
  obtain ⟨a, c, rfl, t1, t2, t3⟩ := ho.texts
  unfold maxLen at t2
  clear t3 ho
  go_wp2_with fail
  go_ret
  exact ⟨rfl, hn⟩

set_option maxRecDepth 4000 in
theorem implPath (s : ByteArray) (w : World) (hs : s.size ≤ 1152921504606846976) :
    Calls Tryd.prog 77 #[.string s] w fun e w' => e = .returned (.bool (pathOk s.data.toList)) ∧ New w w' := by
  have hp := implValid s w hs
  have Hp := Lib.hid hp
  clear hp
  go_enter Tryd.func77, Tryd.ntmps77
  go_wp2_with fail
  refine Hp.out.mono ?_
  rintro e w1 ⟨rfl, hn⟩
  go_wp2_with fail
  go_ret
  exact ⟨rfl, hn⟩

theorem cut_state (l : List UInt8) {f i : Nat} {c : UInt8} (hf : f ≤ i) (hc : l[i]? = some c) :
    (c = 47 → cutGo ((l.drop f).take (i - f)) (l.drop i) = (l.drop f).take (i - f) :: cutGo ((l.drop (i + 1)).take (i + 1 - (i + 1))) (l.drop (i + 1))) ∧
    (c ≠ 47 → cutGo ((l.drop f).take (i - f)) (l.drop i) = cutGo ((l.drop f).take (i + 1 - f)) (l.drop (i + 1))) := by
  obtain ⟨hi, rfl⟩ := List.getElem?_eq_some_iff.1 hc
  rw [List.drop_eq_getElem_cons hi]
  constructor
  · intro h
    rw [cutGo, if_pos h]; simp
  · intro h
    rw [cutGo, if_neg h]
    congr 1
    rw [show i + 1 - f = (i - f) + 1 from by omega, List.take_succ_eq_append_getElem (by simp; omega)]
    congr 2
    simp [show f + (i - f) = i from by omega]

set_option maxRecDepth 4000 in
set_option maxHeartbeats 1000000 in
theorem specCutS (s : ByteArray) (w : World) (hs : s.size ≤ 1048576) :
    Calls Tryd.prog 92 #[.string s] w (CutPostS w s.data.toList) := by
  have hsl := size_len s
  have hcl := cutGo_count [] s.data.toList
  have hcs := List.count_le_length (a := (47 : UInt8)) (l := s.data.toList)
  have hN : (cutS s.data.toList).length ≤ s.size + 1 := by unfold cutS; omega
  have Hsl := Lib.hid hsl
  clear hsl hcl hcs
  go_enter Tryd.func92, Tryd.ntmps92
  go_wp2_with fail
  go_loopg [3, 4, 5] s.size (fun gk s3 s4 s5 wr => ∃ (i f : Nat) (done : List (List UInt8)), gk = s.size - i ∧ f ≤ i ∧ i ≤ s.size ∧ s4 = .int .i64 f ∧ s5 = .int .i64 i ∧ done ++ cutGo ((s.data.toList.drop f).take (i - f)) (s.data.toList.drop i) = cutS s.data.toList ∧
    OwnTexts (fun j => w.heap.size ≤ j) wr s3 done ∧ New w wr)
  case atStart => exact ⟨0, 0, [], by omega, by omega, by omega, rfl, rfl, rfl, (Row.empty _ _ _).mono (fun _ _ h => by omega), (New.refl w).alloc _⟩
  case round =>
    obtain ⟨i, f, done, hgk, hf, hi, rfl, rfl, hd, ho, hn⟩ := hrel
    have hlen := congrArg List.length hd
    rw [List.length_append] at hlen
    have hdl : done.length ≤ s.size := by
      have := List.length_pos_iff.2 (cutGo_ne ((s.data.toList.drop f).take (i - f)) (s.data.toList.drop i))
      omega
    have Hgk := Lib.hid hgk
    have Hd := Lib.hid hd
    have hor : Row 9 1 (fun j => w.heap.size ≤ j) wr u3 done.length (done.map txt) := ho
    have hol := Row.lt ho
    have hos := ho.2
    have hsz := hn.size
    clear hgk hd hlen hN
    have step : ∀ (v' : Value) (w1 : World) (x : List UInt8), Row 9 1 (fun k => u3.ownBlock = some k ∨ wr.heap.size < k) w1 v' (done.length + 1) (done.map txt ++ [txt x]) → Chg (fun k => u3.ownBlock = some k) wr w1 →
        OwnTexts (fun j => w.heap.size ≤ j) w1 v' (done ++ [x]) ∧ New w w1 := by
      intro v' w1 x q1 c1
      refine ⟨?_, hn.trans_chg c1 (fun j hj e => by have := hos j e; omega)⟩
      unfold OwnTexts
      rw [List.length_append, List.map_append]
      exact q1.mono (fun j _ hj => by
        rcases hj with hj | hj
        · exact hos j hj
        · omega)
    have Step := Lib.hid step
    clear step
    by_cases hlt : i < s.size
    · have hb := byte_at s i hlt
      obtain ⟨hc1, hc2⟩ := cut_state s.data.toList hf hb
      by_cases h47 : s[i] = 47
      · have hg := hc1 h47
        have Hg := Lib.hid hg
        have h47' : ((s[i].toNat : Int) == 47) = true := by rw [h47]; rfl
        have Hb := Lib.hid hb
        clear hc1 hc2 hg h47 hb
        go_wp2_with (at_builtin; refine wpRow_append1 slStr _ _ rfl rfl _ done.length (done.map txt) _ _ rfl hor rfl rfl (by omega) (by decide) ?_; intro v' w1 q1 c1)
        rw [txt_cut] at q1
        obtain ⟨o1, n1⟩ := Step.out _ _ _ q1 c1
        go_roundg (s.size - (i + 1))
        case measure => rw [Hgk.out]; omega
        case rel => exact ⟨i + 1, i + 1, _, rfl, by omega, by omega, by go_num, by go_num, by rw [← Hd.out, Hg.out, List.append_assoc]; rfl, o1, n1⟩
      · have hg := hc2 h47
        have Hg := Lib.hid hg
        have h47' : ((s[i].toNat : Int) == 47) = false := by
          simp only [beq_eq_false_iff_ne, ne_eq]
          intro e
          exact h47 (UInt8.toNat_inj.1 (by simp; omega))
        clear hc1 hc2 hg h47 hb
        go_wp2_with fail
        go_roundg (s.size - (i + 1))
        case measure => rw [Hgk.out]; omega
        case rel => exact ⟨i + 1, f, done, rfl, by omega, by omega, rfl, by go_num, by rw [← Hd.out, Hg.out], ho, hn⟩
    · have hnil : s.data.toList.drop i = [] := List.drop_eq_nil_of_le (by have := Hsl.out; omega)
      have hcur : (s.data.toList.drop f).take (i - f) = (s.data.toList.drop f).take (s.size - f) := by rw [show i = s.size from by omega]
      have hfin : done ++ [(s.data.toList.drop f).take (s.size - f)] = cutS s.data.toList := by rw [← Hd.out, hnil, cutGo, hcur]
      have Hfin := Lib.hid hfin
      clear hnil hcur hfin
      go_wp2_with (at_builtin; refine wpRow_append1 slStr _ _ rfl rfl _ done.length (done.map txt) _ _ rfl hor rfl rfl (by omega) (by decide) ?_; intro v' w1 q1 c1)
      rw [txt_cut] at q1
      obtain ⟨o1, n1⟩ := Step.out _ _ _ q1 c1
      go_ret
      exact ⟨_, rfl, by rw [← Hfin.out]; exact o1, n1⟩

set_option maxRecDepth 4000 in
set_option maxHeartbeats 1000000 in
theorem specPath (s : ByteArray) (w : World) (hs : s.size ≤ 1048576) :
    Calls Tryd.prog 81 #[.string s] w fun e w' => e = .returned (.bool (pathOk s.data.toList)) ∧ New w w' := by
  have hsp := specCutS s w hs
  have Hsp := Lib.hid hsp
  have hxs : ∀ x ∈ cutS s.data.toList, x.length ≤ 1152921504606846976 := fun x hx => by
    have := cutGo_le [] _ x hx; have := size_len s; simp at *; omega
  have Hxs := Lib.hid hxs
  clear hsp hxs
  go_enter Tryd.func81, Tryd.ntmps81
  go_wp2_with fail
  refine Hsp.out.mono ?_
  rintro e w1 ⟨v, rfl, ho, hn⟩
  obtain ⟨a, c, rfl, t1, t2, t3⟩ := ho.texts
  unfold maxLen at t2
  generalize hP : cutS s.data.toList = ps at *
  have HP := Lib.hid hP
  clear hP
  go_wp2_with fail
  go_loop [4] (fun i => ∃ (k : Nat), k ≤ ps.length ∧ i = .int .i64 k ∧ (ps.take k).all wordOk = true) (fun i => ps.length - (intOf i).toNat)
  case atStart => exact ⟨0, Nat.zero_le _, rfl, rfl⟩
  case round =>
    obtain ⟨k, hk, rfl, ha⟩ := hrel
    have Ha := Lib.hid ha
    clear ha
    by_cases hlt : k < ps.length
    · obtain ⟨x, hx⟩ := get_of hlt
      rcases t3 with rfl | ⟨b, off, rfl, -, -, hc⟩
      · simp at hlt
      have hcell := hc k x hx
      unfold txt at hcell
      have Hx := Lib.hid hx
      clear hx hc
      have hxl : (⟨x.toArray⟩ : ByteArray).size ≤ 1152921504606846976 := Hxs.out x (List.mem_of_getElem? Hx.out)
      rcases hw : wordOk x with _ | _
      · have Hw := Lib.hid hw
        have hcall := specWord ⟨x.toArray⟩ w1 hxl
        rw [show (⟨x.toArray⟩ : ByteArray).data.toList = x from rfl, hw] at hcall
        have Hcall := Lib.hid hcall
        clear hw hcall
        have hb : pathOk s.data.toList = false := by unfold pathOk; rw [HP.out, all_bad Hx.out Hw.out]; simp
        have Hb := Lib.hid hb
        clear hb
        go_wp2_with fail
        refine Hcall.out.mono ?_
        rintro e w2 ⟨rfl, rfl⟩
        go_wp2_with fail
        go_ret
        exact ⟨ret_bool Hb.out.symm, hn⟩
      · have Hw := Lib.hid hw
        have hcall := specWord ⟨x.toArray⟩ w1 hxl
        rw [show (⟨x.toArray⟩ : ByteArray).data.toList = x from rfl, hw] at hcall
        have Hcall := Lib.hid hcall
        clear hw hcall
        go_wp2_with fail
        refine Hcall.out.mono ?_
        rintro e w2 ⟨rfl, rfl⟩
        go_wp2_with fail
        go_round
        case rel => exact ⟨k + 1, by omega, by go_num, all_take Hx.out Ha.out Hw.out⟩
        case measure => simp [intOf]; omega
    · have ha := Ha.out
      rw [List.take_of_length_le (by omega)] at ha
      have hg : pathOk s.data.toList = decide ((ps.length : Int) ≤ 4) := by
        unfold pathOk
        rw [HP.out, ha]; simp; omega
      have Hg := Lib.hid hg
      clear ha hg
      go_wp2_with fail
      go_ret
      exact ⟨ret_bool Hg.out.symm, hn⟩

end Go.Proofs.YtkffejommncinaaDoor

/- PathWithin and PathParent, the program's and the reference's. -/
namespace Go.Proofs.YtkffejommncinaaDoor
open Go.RowKit

def inDir (p d : List UInt8) : Bool := (d ++ [47]).isPrefixOf p
def within (p d : List UInt8) : Bool := pathOk p && (d.isEmpty || p == d || (pathOk d && inDir p d))

theorem inDir_iff (p d : List UInt8) : inDir p d = true ↔ ∃ r, p = d ++ 47 :: r := by
  unfold inDir
  rw [List.isPrefixOf_iff_prefix]
  constructor
  · rintro ⟨r, h⟩; exact ⟨r, by rw [← h]; simp⟩
  · rintro ⟨r, h⟩; exact ⟨r, by rw [h]; simp⟩

set_option maxRecDepth 4000 in
set_option maxHeartbeats 400000 in
theorem strHasPrefix (s p : ByteArray) (w : World) (_hs : s.size ≤ 9223372036854775807) (_hp : p.size ≤ 9223372036854775807) :
    Calls Tryd.prog 73 #[.string s, .string p] w fun e w' => e = .returned (.bool (p.data.toList.isPrefixOf s.data.toList)) ∧ w = w' := by
  have hr := Lib.hasPrefix_raw s p
  have Hr := Lib.hid hr
  clear hr
  by_cases h : p.size ≤ s.size
  · have hd : decide ((p.size : Int) ≤ (s.size : Int)) = true := by simp; omega
    go_enter Tryd.func73, Tryd.ntmps73
    go_wp2
    go_ret
    refine ⟨ret_bool ?_, rfl⟩
    have := Hr.out
    unfold Lib.hasPrefix at this
    rw [← this]
    simp [h]
  · have hd : decide ((p.size : Int) ≤ (s.size : Int)) = false := by simp; omega
    go_enter Tryd.func73, Tryd.ntmps73
    go_wp2
    go_ret
    refine ⟨ret_bool ?_, rfl⟩
    have := Hr.out
    unfold Lib.hasPrefix at this
    rw [← this]
    simp [h]

/-- the place of the last slash among the first k bytes, or -1 -/
def lastTo (l : List UInt8) : Nat → Int
  | 0 => -1
  | k + 1 => if l[k]? = some 47 then k else lastTo l k
def lastOf (l : List UInt8) : Int := lastTo l l.length
def parentOf (l : List UInt8) : List UInt8 := l.take (lastOf l).toNat
theorem lastTo_bd (l : List UInt8) : ∀ k, -1 ≤ lastTo l k ∧ lastTo l k < k ∨ lastTo l k = -1 ∧ k = 0
  | 0 => .inr ⟨rfl, rfl⟩
  | k + 1 => by
    left
    rw [lastTo]
    have := lastTo_bd l k
    split <;> omega
theorem lastTo_none (l : List UInt8) : ∀ k, lastTo l k = -1 → ∀ i, i < k → l[i]? ≠ some 47
  | 0, _, i, h => by omega
  | k + 1, h, i, hi => by
    rw [lastTo] at h
    split at h
    · omega
    · rename_i hn
      by_cases e : i = k
      · subst e; exact hn
      · exact lastTo_none l k h i (by omega)
theorem lastTo_some (l : List UInt8) : ∀ k (m : Nat), lastTo l k = m → m < k ∧ l[m]? = some 47 ∧ ∀ i, m < i → i < k → l[i]? ≠ some 47
  | 0, m, h => by simp [lastTo] at h <;> omega
  | k + 1, m, h => by
    rw [lastTo] at h
    split at h
    · rename_i hn
      obtain rfl : m = k := by omega
      exact ⟨by omega, hn, fun i _ _ => by omega⟩
    · rename_i hn
      obtain ⟨h1, h2, h3⟩ := lastTo_some l k m h
      refine ⟨by omega, h2, fun i hi hk => ?_⟩
      by_cases e : i = k
      · subst e; exact hn
      · exact h3 i hi (by omega)
theorem lastOf_bd (l : List UInt8) : -1 ≤ lastOf l ∧ lastOf l ≤ l.length := by
  have := lastTo_bd l l.length
  unfold lastOf; omega
theorem parent_none {l : List UInt8} (h : lastOf l = -1) : parentOf l = [] ∧ (47 : UInt8) ∉ l := by
  refine ⟨by unfold parentOf; rw [h]; rfl, fun hm => ?_⟩
  obtain ⟨i, hi, e⟩ := List.mem_iff_getElem.1 hm
  exact lastTo_none l _ h i hi (by rw [List.getElem?_eq_getElem hi, e])
theorem parent_some {l : List UInt8} {m : Nat} (h : lastOf l = m) : parentOf l = l.take m ∧ (47 : UInt8) ∉ l.drop (m + 1) ∧ l = l.take m ++ 47 :: l.drop (m + 1) := by
  obtain ⟨h1, h2, h3⟩ := lastTo_some l _ m h
  refine ⟨by unfold parentOf; rw [h]; rfl, fun hm => ?_, ?_⟩
  · obtain ⟨i, hi, e⟩ := List.mem_iff_getElem.1 hm
    have hi' : m + 1 + i < l.length := by simp at hi; omega
    refine h3 (m + 1 + i) (by omega) hi' ?_
    rw [List.getElem?_eq_getElem hi']
    rw [List.getElem_drop] at e
    rw [e]
  · obtain ⟨_, e⟩ := List.getElem?_eq_some_iff.1 h2
    conv => lhs; rw [← List.take_append_drop m l, List.drop_eq_getElem_cons h1, e]

theorem eq47 (c : UInt8) : ((c.toNat : Int) == 47) = decide (c = 47) := by
  by_cases h : c = 47
  · subst h; rfl
  · have : ¬ (c.toNat : Int) = 47 := fun e => h (UInt8.toNat_inj.1 (by simp; omega))
    simp [h, this]

set_option maxRecDepth 4000 in
set_option maxHeartbeats 400000 in
theorem specLast (s : ByteArray) (w : World) (hs : s.size ≤ 1152921504606846976) :
    Calls Tryd.prog 95 #[.string s] w fun e w' => e = .returned (.int .i64 (lastOf s.data.toList)) ∧ w = w' := by
  have hsl := size_len s
  have Hsl := Lib.hid hsl
  clear hsl
  go_enter Tryd.func95, Tryd.ntmps95
  go_wp2
  go_loop [3, 4] (fun o i => ∃ (k : Nat), k ≤ s.size ∧ i = .int .i64 k ∧ o = .int .i64 (lastTo s.data.toList k)) (fun _ i => s.size - (intOf i).toNat)
  case atStart => exact ⟨0, Nat.zero_le _, rfl, rfl⟩
  case round =>
    obtain ⟨k, hk, rfl, rfl⟩ := hrel
    by_cases hlt : k < s.size
    · have hb := byte_at s k hlt
      have he := eq47 s[k]
      by_cases h47 : s[k] = 47
      · have hst : lastTo s.data.toList (k + 1) = k := by rw [lastTo, if_pos (by rw [hb, h47])]
        rw [decide_eq_true h47] at he
        have Hst := Lib.hid hst
        clear hb hst h47
        generalize lastTo s.data.toList k = q
        go_wp2
        go_round
        case rel => exact ⟨k + 1, by omega, by go_num, by rw [Hst.out]⟩
        case measure => simp [intOf]; omega
      · have hst : lastTo s.data.toList (k + 1) = lastTo s.data.toList k := by rw [lastTo, if_neg (by rw [hb]; simpa using h47)]
        rw [decide_eq_false h47] at he
        have Hst := Lib.hid hst
        clear hb hst h47
        generalize hq : lastTo s.data.toList k = q at *
        have Hq := Lib.hid hq
        clear hq
        go_wp2
        go_round
        case rel => exact ⟨k + 1, by omega, by go_num, by rw [Hst.out]⟩
        case measure => simp [intOf]; omega
    · have ek : lastOf s.data.toList = lastTo s.data.toList k := by unfold lastOf; rw [Hsl.out, show s.size = k from by omega]
      have Ek := Lib.hid ek
      clear ek
      generalize hq : lastTo s.data.toList k = q at *
      have Hq := Lib.hid hq
      clear hq
      go_wp2
      go_ret
      exact ⟨ret_int Ek.out.symm, rfl⟩

theorem isEmpty_toList (s : ByteArray) : s.toList.isEmpty = s.data.toList.isEmpty := by rw [Lib.toList_data]
theorem beq_toList (s t : ByteArray) : (s.toList == t.toList) = (s.data.toList == t.data.toList) := by rw [Lib.toList_data, Lib.toList_data]

set_option maxRecDepth 4000 in
set_option maxHeartbeats 400000 in
theorem implWithin (p d : ByteArray) (w : World) (hp : p.size ≤ 1152921504606846976) (hd : d.size ≤ 1152921504606846976) :
    Calls Tryd.prog 46 #[.string p, .string d] w fun e w' => e = .returned (.bool (within p.data.toList d.data.toList)) ∧ New w w' := by
  have c1 := implValid p w hp
  have ex := isEmpty_toList d
  have bx := beq_toList p d
  rcases h1 : pathOk p.data.toList with _ | _
  · have hr : within p.data.toList d.data.toList = false := by simp [within, h1]
    rw [h1] at c1
    have C1 := Lib.hid c1
    have Hr := Lib.hid hr
    clear c1 hr h1 ex bx
    go_enter Tryd.func46, Tryd.ntmps46
    go_wp2_with fail
    refine C1.out.mono ?_
    rintro e w1 ⟨rfl, hn⟩
    go_wp2_with fail
    go_ret
    exact ⟨ret_bool Hr.out.symm, hn⟩
  · rw [h1] at c1
    have C1 := Lib.hid c1
    rcases h2 : d.data.toList.isEmpty with _ | _
    · rcases h3 : (p.data.toList == d.data.toList) with _ | _
      · have c2 := fun (W : World) => implValid d W hd
        rw [h2] at ex
        rw [h3] at bx
        rcases h4 : pathOk d.data.toList with _ | _
        · have hr : within p.data.toList d.data.toList = false := by simp only [within, h1, h2, h3, h4]; rfl
          rw [h4] at c2
          have C2 := Lib.hid c2
          have Hr := Lib.hid hr
          clear c1 c2 hr h1 h2 h3 h4
          go_enter Tryd.func46, Tryd.ntmps46
          go_wp2_with fail
          refine C1.out.mono ?_
          rintro e w1 ⟨rfl, hn⟩
          go_wp2_with fail
          refine (C2.out _).mono ?_
          rintro e w2 ⟨rfl, hn2⟩
          go_wp2_with fail
          go_ret
          exact ⟨ret_bool Hr.out.symm, hn.trans hn2⟩
        · have hr : within p.data.toList d.data.toList = inDir p.data.toList d.data.toList := by simp only [within, h1, h2, h3, h4]; rfl
          rw [h4] at c2
          have C2 := Lib.hid c2
          have Hr := Lib.hid hr
          have hsum : (d ++ ⟨#[47]⟩ : ByteArray).size ≤ 9223372036854775807 := by rw [ByteArray.size_append']; show d.size + 1 ≤ _; omega
          have c3 := fun (W : World) => strHasPrefix p (d ++ ⟨#[47]⟩) W (by omega) hsum
          have ed : (d ++ ⟨#[47]⟩ : ByteArray).data.toList = d.data.toList ++ [47] := by simp
          rw [ed] at c3
          have C3 := Lib.hid c3
          clear c1 c2 c3 hr h1 h2 h3 h4 ed
          go_enter Tryd.func46, Tryd.ntmps46
          go_wp2_with fail
          refine C1.out.mono ?_
          rintro e w1 ⟨rfl, hn⟩
          go_wp2_with fail
          refine (C2.out _).mono ?_
          rintro e w2 ⟨rfl, hn2⟩
          go_wp2_with fail
          refine (C3.out _).mono ?_
          rintro e w3 ⟨rfl, rfl⟩
          go_wp2_with fail
          go_ret
          exact ⟨ret_bool Hr.out.symm, hn.trans hn2⟩
      · have hr : within p.data.toList d.data.toList = true := by simp only [within, h1, h3]; simp
        rw [h2] at ex
        rw [h3] at bx
        have Hr := Lib.hid hr
        clear c1 hr h1 h2 h3
        go_enter Tryd.func46, Tryd.ntmps46
        go_wp2_with fail
        refine C1.out.mono ?_
        rintro e w1 ⟨rfl, hn⟩
        go_wp2_with fail
        go_ret
        exact ⟨ret_bool Hr.out.symm, hn⟩
    · have hr : within p.data.toList d.data.toList = true := by simp only [within, h1, h2]; simp
      rw [h2] at ex
      have Hr := Lib.hid hr
      clear c1 hr h1 h2 bx
      go_enter Tryd.func46, Tryd.ntmps46
      go_wp2_with fail
      refine C1.out.mono ?_
      rintro e w1 ⟨rfl, hn⟩
      go_wp2_with fail
      go_ret
      exact ⟨ret_bool Hr.out.symm, hn⟩

set_option maxRecDepth 4000 in
theorem implPathWithin (p d : ByteArray) (w : World) (hp : p.size ≤ 1152921504606846976) (hd : d.size ≤ 1152921504606846976) :
    Calls Tryd.prog 15 #[.string p, .string d] w fun e w' => e = .returned (.bool (within p.data.toList d.data.toList)) ∧ New w w' := by
  have c1 := implWithin p d w hp hd
  have C1 := Lib.hid c1
  clear c1
  go_enter Tryd.func15, Tryd.ntmps15
  go_wp2_with fail
  refine C1.out.mono ?_
  rintro e w1 ⟨rfl, hn⟩
  go_wp2_with fail
  go_ret
  exact ⟨rfl, hn⟩

def parentIf (l : List UInt8) : List UInt8 := if pathOk l then parentOf l else []

end Go.Proofs.YtkffejommncinaaDoor
