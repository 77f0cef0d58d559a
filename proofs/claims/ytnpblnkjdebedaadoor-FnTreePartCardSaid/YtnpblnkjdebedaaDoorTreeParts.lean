/- Trees, plain: parts of a tree, homes, what its directories list. No program in sight. -/
import Derived.Test.YtnpblnkjdebedaaDoorSpecList
namespace Go.Proofs.YtnpblnkjdebedaaDoor
open Go.RowKit

theorem open_take : ∀ (r s pre : List ItemR) (p : List UInt8), openGo p pre (r ++ s) = true → openGo p pre r = true
  | [], _, _, _, _ => rfl
  | x :: r, s, pre, p, h => by
    simp only [List.cons_append, openGo, Bool.and_eq_true] at h ⊢
    exact ⟨h.1, h.2.1, h.2.2.1, open_take r s _ _ h.2.2.2⟩
theorem tree_part {os : List ItemR} (h : treeOk os = true) (n : Nat) : treeOk (os.take n) = true := by
  rw [tree_same, Bool.and_eq_true, decide_eq_true_eq] at h ⊢
  refine ⟨by rw [List.length_take]; omega, ?_⟩
  have h2 := h.2
  rw [← List.take_append_drop n os] at h2
  exact open_take _ _ _ _ h2
theorem tree_twice {os : List ItemR} {o : ItemR} (ho : o ∈ os) : treeOk (os ++ [o]) = false := by
  rcases hk : treeOk (os ++ [o]) with _ | _
  · rfl
  · have ha := (treeOk_p hk).1.asc
    unfold Asc at ha
    rw [List.pairwise_append] at ha
    have := ha.2.2 o ho o (by simp)
    rw [sLt_irrefl] at this; cases this
theorem home_of {os : List ItemR} (h : treeOk os = true) {o : ItemR} (ho : o ∈ os) : parentOf o.path = [] ∨ ∃ x, findR os (parentOf o.path) = some x ∧ x.dir = true := by
  have hh := (treeOk_p h).1.home o ho
  unfold homeS at hh
  rw [Bool.or_eq_true] at hh
  rcases hh with hh | hh
  · exact .inl (by simpa using hh)
  · refine .inr ?_
    unfold findR
    rw [if_pos h]
    rcases hf : findI os (parentOf o.path) with _ | x
    · rw [hf] at hh; simp at hh
    · rw [hf] at hh; exact ⟨x, rfl, hh⟩
theorem find_mem {os : List ItemR} (h : treeOk os = true) {o : ItemR} (ho : o ∈ os) : findI os o.path = some o := by
  unfold findI
  rcases hf : os.find? (fun x => x.path == o.path) with _ | y
  · rw [List.find?_eq_none] at hf
    exact absurd (by simp) (hf o ho)
  · have h1 := List.find?_some hf
    have e := asc_eq (treeOk_p h).1.asc (List.mem_of_find?_eq_some hf) ho (by simpa using h1)
    rw [e] at hf; exact hf

/-! ### what is listed -/
theorem list_top {os : List ItemR} (h : treeOk os = true) : listR os [] = some (pathsIn [] os) := by
  unfold listR; rw [h]; rfl
theorem list_dir {os : List ItemR} (h : treeOk os = true) {o : ItemR} (ho : o ∈ os) (hd : o.dir = true) : listR os o.path = some (pathsIn o.path os) := by
  unfold listR; rw [h, find_mem h ho, Option.map_some, Option.getD_some, hd]; simp; rfl
theorem list_file {os : List ItemR} (h : treeOk os = true) {o : ItemR} (ho : o ∈ os) : (listR os o.path).isSome = o.dir := by
  have hne : o.path.isEmpty = false := by
    have := pathOk_ne ((treeOk_p h).1.path ho)
    simpa using this
  unfold listR
  rw [h, find_mem h ho, Option.map_some, Option.getD_some, hne]
  cases o.dir <;> rfl

def dirsOf (os : List ItemR) : List (List UInt8) := (os.filter (·.dir)).map (·.path)
def sumIn (os : List ItemR) (ds : List (List UInt8)) : Nat := (ds.map fun d => (pathsIn d os).length).sum
theorem sumIn_append (os : List ItemR) (a b : List (List UInt8)) : sumIn os (a ++ b) = sumIn os a + sumIn os b := by simp [sumIn]
theorem sumIn_le (os : List ItemR) : ∀ ds : List (List UInt8), sumIn os ds ≤ ds.length * os.length
  | [] => by simp [sumIn]
  | d :: ds => by
    have ih := sumIn_le os ds
    have := pathsIn_len d os
    show (pathsIn d os).length + sumIn os ds ≤ _
    rw [List.length_cons, Nat.add_mul]; omega
theorem filter_two (ds : List (List UInt8)) (d : List UInt8) (hd : d ∉ ds) : ∀ os : List ItemR,
    (os.filter fun o => parentOf o.path == d).length + (os.filter fun o => ds.contains (parentOf o.path)).length = (os.filter fun o => (d :: ds).contains (parentOf o.path)).length
  | [] => rfl
  | o :: r => by
    have ih := filter_two ds d hd r
    by_cases e : parentOf o.path = d
    · have hn : ¬ (ds.contains (parentOf o.path) = true) := by rw [e]; simpa using hd
      rw [List.filter_cons_of_pos (by simpa using e), List.filter_cons_of_neg (p := fun o : ItemR => ds.contains (parentOf o.path)) hn, List.filter_cons_of_pos (by simp [e]), List.length_cons, List.length_cons, ← ih]; omega
    · by_cases g : ds.contains (parentOf o.path) = true
      · rw [List.filter_cons_of_neg (by simpa using e), List.filter_cons_of_pos (p := fun o : ItemR => ds.contains (parentOf o.path)) g, List.filter_cons_of_pos (by simp at g; simp [g]), List.length_cons, List.length_cons, ← ih]; omega
      · rw [List.filter_cons_of_neg (by simpa using e), List.filter_cons_of_neg (p := fun o : ItemR => ds.contains (parentOf o.path)) g, List.filter_cons_of_neg (by simp at g; simp [g, e]), ← ih]
theorem sum_in (os : List ItemR) : ∀ ds : List (List UInt8), ds.Nodup → sumIn os ds = (os.filter fun o => ds.contains (parentOf o.path)).length
  | [], _ => by
    rw [show (fun o : ItemR => ([] : List (List UInt8)).contains (parentOf o.path)) = fun _ => false from rfl]
    rw [List.filter_eq_nil_iff.2 (by simp)]; rfl
  | d :: ds, h => by
    obtain ⟨h1, h2⟩ := List.nodup_cons.1 h
    have ih := sum_in os ds h2
    show (pathsIn d os).length + sumIn os ds = _
    rw [ih]
    unfold pathsIn
    rw [List.length_map]
    exact filter_two ds d h1 os
theorem dirs_nodup {os : List ItemR} (h : treeOk os = true) : (([] : List UInt8) :: dirsOf os).Nodup := by
  have hp := (treeOk_p h).1
  rw [List.nodup_cons]
  constructor
  · intro hm
    obtain ⟨o, ho, e⟩ := List.mem_map.1 hm
    exact pathOk_ne (hp.path (List.mem_filter.1 ho).1) e
  · unfold dirsOf List.Nodup
    rw [List.pairwise_map]
    exact (List.Pairwise.filter _ hp.asc).imp fun hab => sLt_ne hab
theorem tree_count {os : List ItemR} (h : treeOk os = true) : (pathsIn [] os).length + sumIn os (dirsOf os) = os.length := by
  have hs := sum_in os _ (dirs_nodup h)
  rw [show sumIn os ([] :: dirsOf os) = (pathsIn [] os).length + sumIn os (dirsOf os) from rfl] at hs
  rw [hs, List.filter_eq_self.2]
  intro o ho
  rcases home_of h ho with e | ⟨x, hx, hd⟩
  · rw [e]; simp
  · unfold findR at hx
    rw [if_pos h] at hx
    obtain ⟨hm, e⟩ := findI_some hx
    have : parentOf o.path ∈ dirsOf os := List.mem_map.2 ⟨x, List.mem_filter.2 ⟨hm, hd⟩, e⟩
    simp [this]
theorem dirsOf_take {os : List ItemR} {k : Nat} {o : ItemR} (h : os[k]? = some o) : dirsOf (os.take (k + 1)) = dirsOf (os.take k) ++ (if o.dir = true then [o.path] else []) := by
  obtain ⟨hk, e⟩ := List.getElem?_eq_some_iff.1 h
  rw [List.take_succ_eq_append_getElem hk, e]
  unfold dirsOf
  rw [List.filter_append, List.map_append]
  congr 1
  cases hd : o.dir <;> simp [hd]
theorem dirsOf_len (os : List ItemR) : (dirsOf os).length ≤ os.length := by
  unfold dirsOf; rw [List.length_map]; exact List.length_filter_le _ _
theorem pathsIn_append (d : List UInt8) (a b : List ItemR) : pathsIn d (a ++ b) = pathsIn d a ++ pathsIn d b := by simp [pathsIn]
theorem pathsIn_get {d : List UInt8} {os : List ItemR} {k : Nat} {o : ItemR} (h : os[k]? = some o) (e : parentOf o.path = d) : (pathsIn d os)[(pathsIn d (os.take k)).length]? = some o.path := by
  have h1 := pathsIn_take (d := d) h
  rw [if_pos e] at h1
  have h2 : pathsIn d os = pathsIn d (os.take (k + 1)) ++ pathsIn d (os.drop (k + 1)) := by rw [← pathsIn_append, List.take_append_drop]
  rw [h2, h1]
  simp
theorem parentIf_ok {os : List ItemR} (h : treeOk os = true) {o : ItemR} (ho : o ∈ os) : parentIf o.path = parentOf o.path := by
  unfold parentIf; rw [if_pos ((treeOk_p h).1.path ho)]
end Go.Proofs.YtnpblnkjdebedaaDoor
