/- Trees, plain: when a list of items is a tree; its nodes by their keys. No program in sight. -/
import Derived.Test.YtkffejommncinaaDoorItemOkT
import Derived.Test.YtkffejommncinaaDoorPath3
import Derived.Test.YtkffejommncinaaDoorOrd
namespace Go.Proofs.YtkffejommncinaaDoor
open Go.RowKit

abbrev Key := List (List UInt8)
/-- the text of parts -/
def joinS : Key → List UInt8
  | [] => []
  | [a] => a
  | a :: b :: r => a ++ 47 :: joinS (b :: r)
theorem join_cutGo : ∀ (l cur : List UInt8), joinS (cutGo cur l) = cur ++ l
  | [], cur => by simp [cutGo, joinS]
  | c :: r, cur => by
    rw [cutGo]
    split
    · rename_i h
      subst h
      have ih := join_cutGo r []
      rcases hg : cutGo [] r with _ | ⟨x, xs⟩
      · exact absurd hg (cutGo_ne _ _)
      · rw [hg] at ih
        rw [joinS, ih]; simp
    · rw [join_cutGo r]; simp
theorem join_cut (l : List UInt8) : joinS (cutS l) = l := by unfold cutS; rw [join_cutGo]; rfl
theorem cutS_inj {l m : List UInt8} (h : cutS l = cutS m) : l = m := by rw [← join_cut l, ← join_cut m, h]
theorem cutS_ne (l : List UInt8) : cutS l ≠ [] := cutGo_ne [] l

theorem pathOk_ne {l : List UInt8} (h : pathOk l = true) : l ≠ [] := by
  rintro rfl
  simp [pathOk, cutS, cutGo, wordOk] at h
theorem pathOk_word {l : List UInt8} (h : pathOk l = true) {x : List UInt8} (hx : x ∈ cutS l) : wordOk x = true := by
  simp only [pathOk, Bool.and_eq_true] at h
  exact List.all_eq_true.1 h.2 x hx
theorem wordOk_len {x : List UInt8} (h : wordOk x = true) : x.length ≤ 5 ∧ x ≠ [] := by
  simp only [wordOk, Bool.and_eq_true, decide_eq_true_eq] at h
  refine ⟨h.1.2, ?_⟩
  rintro rfl
  simp at h
/-- a path and its parent -/
theorem parent_cases {l : List UInt8} (h : pathOk l = true) :
    (parentOf l = [] ∧ cutS l = [l]) ∨ (∃ n, parentOf l ≠ [] ∧ pathOk (parentOf l) = true ∧ l = parentOf l ++ 47 :: n ∧ cutS l = cutS (parentOf l) ++ [n]) := by
  have hbd := lastOf_bd l
  by_cases hm1 : lastOf l = -1
  · obtain ⟨e1, e2⟩ := parent_none hm1
    refine .inl ⟨e1, ?_⟩
    unfold cutS
    rw [cutGo_none _ _ e2]; rfl
  · obtain ⟨m, hm⟩ : ∃ m : Nat, lastOf l = m := ⟨(lastOf l).toNat, by omega⟩
    obtain ⟨e1, e2, e3⟩ := parent_some hm
    have hcut : cutS l = cutS (l.take m) ++ [l.drop (m + 1)] := by
      unfold cutS
      conv => lhs; rw [e3]
      exact cutGo_last _ _ _ e2
    have hx : pathOk (l.take m) = true := by
      unfold pathOk at h ⊢
      rw [hcut] at h
      simp only [List.length_append, List.length_singleton, List.all_append, Bool.and_eq_true, decide_eq_true_eq] at h ⊢
      exact ⟨by omega, h.2.1⟩
    exact .inr ⟨l.drop (m + 1), by rw [e1]; exact pathOk_ne hx, by rw [e1]; exact hx, by rw [e1]; exact e3, by rw [e1]; exact hcut⟩

theorem sLt_iff {a b : List UInt8} : sLt a b = true ↔ a < b := by simp [sLt]
theorem sLt_append (p a b : List UInt8) : sLt (p ++ a) (p ++ b) = sLt a b := by
  induction p with
  | nil => rfl
  | cons c r ih =>
    unfold sLt at ih ⊢
    rw [decide_eq_decide] at ih ⊢
    rw [List.cons_append, List.cons_append, List.cons_lt_cons_iff]
    simp [UInt8.lt_irrefl, ih]
theorem sLt_prefix (p : List UInt8) (c : UInt8) (n : List UInt8) : sLt p (p ++ c :: n) = true := by
  have h := sLt_append p [] (c :: n)
  rw [List.append_nil] at h
  rw [h]; simp [sLt]
theorem sLt_nil {l : List UInt8} (h : l ≠ []) : sLt [] l = true := by
  rcases l with _ | ⟨c, n⟩
  · exact absurd rfl h
  · simp [sLt]
theorem sLt_ne {a b : List UInt8} (h : sLt a b = true) : a ≠ b := by
  rintro rfl
  rw [sLt_irrefl] at h; cases h
theorem parent_lt {l : List UInt8} (h : pathOk l = true) : sLt (parentOf l) l = true := by
  rcases parent_cases h with ⟨e, _⟩ | ⟨n, _, _, e, _⟩
  · rw [e]; exact sLt_nil (pathOk_ne h)
  · conv => arg 1; rw [e]
    exact (by rw [show sLt (parentOf l) l = sLt (parentOf l) (parentOf l ++ 47 :: n) from by conv => lhs; arg 2; rw [e]]; exact sLt_prefix _ _ _ : sLt (parentOf l) l = true) |> fun h => by rw [← e]; exact h

/-! ### lists of items that are trees -/
def findI (os : List ItemR) (p : List UInt8) : Option ItemR := os.find? fun o => o.path == p
def homeS (os : List ItemR) (p : List UInt8) : Bool := (parentOf p).isEmpty || ((findI os (parentOf p)).map (·.dir)).getD false
def prevOk (prev : Option (List UInt8)) (p : List UInt8) : Bool := match prev with | none => true | some q => sLt q p
/-- as the reference goes through a list -/
def specGo (all : List ItemR) (prev : Option (List UInt8)) : List ItemR → Bool
  | [] => true
  | x :: r => itemOk x && (prevOk prev x.path && (homeS all x.path && specGo all (some x.path) r))
def treeOk (os : List ItemR) : Bool := specGo os none os && decide (os.length ≤ 12)
/-- as the program goes through it -/
def openGo (last : List UInt8) (pre : List ItemR) : List ItemR → Bool
  | [] => true
  | x :: r => sLt last x.path && (itemOk x && (homeS pre x.path && openGo x.path (pre ++ [x]) r))

def Asc (os : List ItemR) : Prop := os.Pairwise fun a b => sLt a.path b.path = true
theorem spec_asc (all : List ItemR) : ∀ (r : List ItemR) (p : List UInt8), specGo all (some p) r = true → (∀ x ∈ r, sLt p x.path = true) ∧ Asc r
  | [], _, _ => ⟨by simp, List.Pairwise.nil⟩
  | x :: r, p, h => by
    simp only [specGo, prevOk, Bool.and_eq_true] at h
    obtain ⟨h1, h2⟩ := spec_asc all r x.path h.2.2.2
    refine ⟨fun y hy => ?_, List.Pairwise.cons h1 h2⟩
    rcases List.mem_cons.1 hy with rfl | hy
    · exact h.2.1
    · exact sLt_trans h.2.1 (h1 y hy)
theorem open_asc : ∀ (r pre : List ItemR) (p : List UInt8), openGo p pre r = true → (∀ x ∈ r, sLt p x.path = true) ∧ Asc r
  | [], _, _, _ => ⟨by simp, List.Pairwise.nil⟩
  | x :: r, pre, p, h => by
    simp only [openGo, Bool.and_eq_true] at h
    obtain ⟨h1, h2⟩ := open_asc r _ x.path h.2.2.2
    refine ⟨fun y hy => ?_, List.Pairwise.cons h1 h2⟩
    rcases List.mem_cons.1 hy with rfl | hy
    · exact h.1
    · exact sLt_trans h.1 (h1 y hy)
theorem itemOk_path {o : ItemR} (h : itemOk o = true) : pathOk o.path = true := by
  simp only [itemOk, Bool.and_eq_true] at h
  exact h.1.1.1
theorem home_later {pre r : List ItemR} {p : List UInt8} (h : pathOk p = true) (hr : ∀ y ∈ r, y.path = p ∨ sLt p y.path = true) : homeS (pre ++ r) p = homeS pre p := by
  unfold homeS findI
  rw [List.find?_append]
  have hn : r.find? (fun o => o.path == parentOf p) = none := by
    rw [List.find?_eq_none]
    intro y hy he
    have hlt := parent_lt h
    simp only [beq_iff_eq] at he
    rcases hr y hy with e | e
    · rw [← he, e, sLt_irrefl] at hlt; cases hlt
    · have := sLt_trans hlt e
      rw [← he, sLt_irrefl] at this; cases this
  rw [hn, Option.or_none]
theorem spec_open : ∀ (r pre : List ItemR) (last : List UInt8), openGo last pre r = true → ∀ prev, (prev = none ∨ prev = some last) → specGo (pre ++ r) prev r = true
  | [], _, _, _, _, _ => rfl
  | x :: r, pre, last, h, prev, hp => by
    have ha := open_asc _ _ _ h
    simp only [openGo, Bool.and_eq_true] at h
    obtain ⟨h1, h2, h3, h4⟩ := h
    have ih := spec_open r (pre ++ [x]) x.path h4 (some x.path) (.inr rfl)
    rw [List.append_assoc] at ih
    have hh : homeS (pre ++ x :: r) x.path = true := by
      rw [home_later (itemOk_path h2) (fun y hy => ?_)]
      · exact h3
      · rcases List.mem_cons.1 hy with rfl | hy
        · exact .inl rfl
        · exact .inr ((List.pairwise_cons.1 ha.2).1 y hy)
    simp only [specGo, Bool.and_eq_true]
    refine ⟨h2, ?_, hh, ih⟩
    rcases hp with rfl | rfl
    · rfl
    · exact h1
theorem open_spec : ∀ (r pre : List ItemR) (last : List UInt8) (prev : Option (List UInt8)), specGo (pre ++ r) prev r = true → ((prev = none ∧ last = []) ∨ prev = some last) → openGo last pre r = true
  | [], _, _, _, _, _ => rfl
  | x :: r, pre, last, prev, h, hp => by
    simp only [specGo, Bool.and_eq_true] at h
    obtain ⟨h1, h2, h3, h4⟩ := h
    have ha := spec_asc _ _ _ h4
    have ih := open_spec r (pre ++ [x]) x.path (some x.path) (by rw [List.append_assoc]; exact h4) (.inr rfl)
    simp only [openGo, Bool.and_eq_true]
    refine ⟨?_, h1, ?_, ih⟩
    · rcases hp with ⟨rfl, rfl⟩ | rfl
      · exact sLt_nil (pathOk_ne (itemOk_path h1))
      · exact h2
    · rw [home_later (itemOk_path h1) (fun y hy => ?_)] at h3
      · exact h3
      · rcases List.mem_cons.1 hy with rfl | hy
        · exact .inl rfl
        · exact .inr (ha.1 y hy)
/-- The two go through to the end at the same lists. -/
theorem tree_same (os : List ItemR) : treeOk os = (decide (os.length ≤ 12) && openGo [] [] os) := by
  unfold treeOk
  rw [Bool.and_comm]
  congr 1
  rw [Bool.eq_iff_iff]
  constructor
  · intro h; exact open_spec os [] [] none h (.inl ⟨rfl, rfl⟩)
  · intro h; exact spec_open os [] [] h none (.inl rfl)

/-- What stands in a tree. -/
structure TreeP (os : List ItemR) : Prop where
  asc : Asc os
  ok : ∀ o ∈ os, itemOk o = true
  home : ∀ o ∈ os, homeS os o.path = true
theorem TreeP.nil : TreeP [] := ⟨List.Pairwise.nil, by simp, by simp⟩
theorem homeS_mono {pre r : List ItemR} {p : List UInt8} (h : homeS pre p = true) : homeS (pre ++ r) p = true := by
  unfold homeS findI at h ⊢
  rw [Bool.or_eq_true] at h ⊢
  rcases h with h | h
  · exact .inl h
  · refine .inr ?_
    rw [List.find?_append]
    rcases hf : pre.find? (fun o => o.path == parentOf p) with _ | y
    · rw [hf] at h; simp at h
    · rw [hf] at h ⊢; exact h
theorem TreeP.snoc {pre : List ItemR} {x : ItemR} (h : TreeP pre) (h1 : ∀ o ∈ pre, sLt o.path x.path = true) (h2 : itemOk x = true) (h3 : homeS pre x.path = true) : TreeP (pre ++ [x]) := by
  refine ⟨?_, fun o ho => ?_, fun o ho => homeS_mono ?_⟩
  · unfold Asc
    rw [List.pairwise_append]
    exact ⟨h.asc, List.pairwise_singleton _ _, fun a ha b hb => by rw [List.mem_singleton.1 hb]; exact h1 a ha⟩
  · rcases List.mem_append.1 ho with ho | ho
    · exact h.ok o ho
    · rw [List.mem_singleton.1 ho]; exact h2
  · rcases List.mem_append.1 ho with ho | ho
    · exact h.home o ho
    · rw [List.mem_singleton.1 ho]; exact h3
theorem open_tree : ∀ (r pre : List ItemR) (last : List UInt8), openGo last pre r = true → TreeP pre → (∀ o ∈ pre, o.path = last ∨ sLt o.path last = true) → TreeP (pre ++ r)
  | [], pre, _, _, h, _ => by rw [List.append_nil]; exact h
  | x :: r, pre, last, ho, h, hl => by
    simp only [openGo, Bool.and_eq_true] at ho
    obtain ⟨h1, h2, h3, h4⟩ := ho
    have hx : ∀ o ∈ pre, sLt o.path x.path = true := fun o ho => by
      rcases hl o ho with e | e
      · rw [e]; exact h1
      · exact sLt_trans e h1
    have := open_tree r (pre ++ [x]) x.path h4 (h.snoc hx h2 h3) (fun o ho => by
      rcases List.mem_append.1 ho with ho | ho
      · exact .inr (hx o ho)
      · rw [List.mem_singleton.1 ho]; exact .inl rfl)
    rw [List.append_assoc] at this
    exact this
theorem treeOk_p {os : List ItemR} (h : treeOk os = true) : TreeP os ∧ os.length ≤ 12 := by
  rw [tree_same, Bool.and_eq_true] at h
  exact ⟨open_tree os [] [] h.2 TreeP.nil (by simp), by simpa using h.1⟩
end Go.Proofs.YtkffejommncinaaDoor
