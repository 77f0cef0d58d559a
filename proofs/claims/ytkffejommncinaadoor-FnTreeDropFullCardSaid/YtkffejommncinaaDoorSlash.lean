/- Texts cut at their slashes, plain: no program in sight. -/
import Derived.Lib.Bytealg
import Derived.Lib.Strings
import Derived.Lib.IndexBytes
namespace Go.Proofs.YtkffejommncinaaDoor

/-- the parts of a text, with the part so far -/
def cutGo : List UInt8 → List UInt8 → List (List UInt8)
  | cur, [] => [cur]
  | cur, c :: r => if c = 47 then cur :: cutGo [] r else cutGo (cur ++ [c]) r
def cutS (l : List UInt8) : List (List UInt8) := cutGo [] l
def small (c : UInt8) : Bool := decide (97 ≤ c.toNat) && decide (c.toNat ≤ 122)
def wordOk (l : List UInt8) : Bool := decide (1 ≤ l.length) && decide (l.length ≤ 5) && l.all small
def pathOk (l : List UInt8) : Bool := decide ((cutS l).length ≤ 4) && (cutS l).all wordOk

theorem cutGo_ne : ∀ (cur l : List UInt8), cutGo cur l ≠ []
  | _, [] => by simp [cutGo]
  | cur, c :: r => by
    rw [cutGo]
    split
    · simp
    · exact cutGo_ne _ r
theorem cutS_pos (l : List UInt8) : 0 < (cutS l).length := List.length_pos_iff.2 (cutGo_ne [] l)
theorem cutGo_len : ∀ (cur l : List UInt8), ((cutGo cur l).map fun p => p.length + 1).sum = cur.length + l.length + 1
  | cur, [] => by simp [cutGo]
  | cur, c :: r => by
    rw [cutGo]
    split
    · rw [List.map_cons, List.sum_cons, cutGo_len [] r]; simp; omega
    · rw [cutGo_len _ r]; simp; omega
theorem cutGo_count : ∀ (cur l : List UInt8), (cutGo cur l).length = l.count 47 + 1
  | cur, [] => by simp [cutGo]
  | cur, c :: r => by
    rw [cutGo]
    split
    · rename_i h; subst h; rw [List.length_cons, cutGo_count [] r]; simp
    · rename_i h; rw [cutGo_count _ r, List.count_cons]; simp [h]
theorem cutGo_none : ∀ (cur l : List UInt8), (47 : UInt8) ∉ l → cutGo cur l = [cur ++ l]
  | cur, [], _ => by simp [cutGo]
  | cur, c :: r, h => by
    simp only [List.mem_cons, not_or] at h
    rw [cutGo, if_neg (fun e => h.1 e.symm), cutGo_none _ r h.2]
    simp
theorem cutGo_at : ∀ (cur a b : List UInt8), (47 : UInt8) ∉ a → cutGo cur (a ++ 47 :: b) = (cur ++ a) :: cutGo [] b
  | cur, [], b, _ => by simp [cutGo]
  | cur, c :: r, b, h => by
    simp only [List.mem_cons, not_or] at h
    rw [List.cons_append, cutGo, if_neg (fun e => h.1 e.symm), cutGo_at _ r b h.2]
    simp
/-- a last part behind the last slash -/
theorem cutGo_last : ∀ (cur a b : List UInt8), (47 : UInt8) ∉ b → cutGo cur (a ++ 47 :: b) = cutGo cur a ++ [b]
  | cur, [], b, h => by simp [cutGo, cutGo_none [] b h]
  | cur, c :: r, b, h => by
    rw [List.cons_append, cutGo, cutGo]
    split
    · rw [cutGo_last [] r b h]; rfl
    · exact cutGo_last _ r b h

theorem cutGo_le : ∀ (cur l x : List UInt8), x ∈ cutGo cur l → x.length ≤ cur.length + l.length
  | cur, [], x, h => by simp [cutGo] at h; subst h; simp
  | cur, c :: r, x, h => by
    rw [cutGo] at h
    split at h
    · rcases List.mem_cons.1 h with rfl | h
      · omega
      · have := cutGo_le [] r x h; simp at this ⊢; omega
    · have := cutGo_le _ r x h; simp at this ⊢; omega
theorem sum_le {l : List (List UInt8)} (h : l.all wordOk = true) : (l.map fun p => p.length + 1).sum ≤ 6 * l.length := by
  induction l with
  | nil => simp
  | cons a r ih =>
    simp only [List.all_cons, Bool.and_eq_true] at h
    have h1 := h.1
    simp only [wordOk, Bool.and_eq_true, decide_eq_true_eq] at h1
    have := ih h.2
    simp only [List.map_cons, List.sum_cons, List.length_cons]
    omega
/-- a valid path is short -/
theorem pathOk_short {l : List UInt8} (h : pathOk l = true) : l.length ≤ 23 := by
  simp only [pathOk, Bool.and_eq_true, decide_eq_true_eq] at h
  have h1 := cutGo_len [] l
  have h2 := sum_le h.2
  have h3 : (cutS l).length ≤ 4 := h.1
  unfold cutS at h2 h3
  simp at h1
  omega

/-- the first slash, as the library tells it -/
theorem index_none : ∀ (l : List UInt8), Lib.indexByte l 47 = -1 ↔ (47 : UInt8) ∉ l
  | [] => by simp [Lib.indexByte]
  | b :: r => by
    have ih := index_none r
    have hge := Lib.indexByte_ge r 47
    unfold Lib.indexByte
    by_cases hb : b = 47
    · subst hb; simp
    · rw [if_neg (by simpa using hb)]
      by_cases hr : Lib.indexByte r 47 = -1
      · rw [if_pos (by simpa using hr)]
        simp only [List.mem_cons, not_or]
        exact ⟨fun _ => ⟨fun e => hb e.symm, ih.1 hr⟩, fun _ => trivial⟩
      · rw [if_neg (by simpa using hr)]
        simp only [List.mem_cons, not_or]
        constructor
        · intro e; omega
        · intro e; exact absurd (ih.2 e.2) hr
theorem index_some : ∀ (l : List UInt8) (m : Nat), Lib.indexByte l 47 = m → m < l.length ∧ (47 : UInt8) ∉ l.take m ∧ l = l.take m ++ 47 :: l.drop (m + 1)
  | [], m, h => by simp [Lib.indexByte] at h <;> omega
  | b :: r, m, h => by
    have hge := Lib.indexByte_ge r 47
    unfold Lib.indexByte at h
    by_cases hb : b = 47
    · subst hb
      simp at h
      obtain rfl : m = 0 := by omega
      simp
    · rw [if_neg (by simpa using hb)] at h
      by_cases hr : Lib.indexByte r 47 = -1
      · rw [if_pos (by simpa using hr)] at h; omega
      · rw [if_neg (by simpa using hr)] at h
        obtain ⟨n, rfl⟩ : ∃ n, m = n + 1 := ⟨m - 1, by omega⟩
        obtain ⟨h1, h2, h3⟩ := index_some r n (by omega)
        refine ⟨by simp; omega, ?_, ?_⟩
        · simp only [List.take_succ_cons, List.mem_cons, not_or]
          exact ⟨fun e => hb e.symm, h2⟩
        · simp only [List.take_succ_cons, List.drop_succ_cons, List.cons_append]
          rw [← h3]

/-- behind a word the parts of a text with at least one letter -/
theorem cutS_at {l : List UInt8} {m : Nat} (h : Lib.indexByte l 47 = m) : cutS l = l.take m :: cutS (l.drop (m + 1)) := by
  obtain ⟨_, h2, h3⟩ := index_some l m h
  unfold cutS
  conv => lhs; rw [h3]
  rw [cutGo_at _ _ _ h2]; rfl
theorem cutS_none {l : List UInt8} (h : Lib.indexByte l 47 = -1) : cutS l = [l] := by
  unfold cutS
  rw [cutGo_none _ _ ((index_none l).1 h)]; rfl

end Go.Proofs.YtkffejommncinaaDoor
