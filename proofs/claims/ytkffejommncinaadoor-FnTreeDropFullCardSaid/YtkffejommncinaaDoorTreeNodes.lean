/- Trees, plain: the nodes of a tree by their keys, the parts of their paths. -/
import Derived.Test.YtkffejommncinaaDoorTreeLaw
namespace Go.Proofs.YtkffejommncinaaDoor
open Go.RowKit

structure Nd where
  key : Key
  dir : Bool
  ids : List Int
def nodeOf (o : ItemR) : Nd := ⟨cutS o.path, o.dir, o.ids⟩
def nodesOf (os : List ItemR) : List Nd := ⟨[], true, []⟩ :: os.map nodeOf
def nameOf (k : Key) : List UInt8 := k.getLast?.getD []
def isKid (k : Key) (x : Nd) : Bool := !x.key.isEmpty && x.key.dropLast == k
def kidsOf (ns : List Nd) (k : Key) : List Key := (ns.filter (isKid k)).map (·.key)
def hasKey (ns : List Nd) (k : Key) : Bool := ns.any fun x => x.key == k
def dirAt (ns : List Nd) (k : Key) : Bool := ((ns.find? fun x => x.key == k).map (·.dir)).getD false

theorem nameOf_snoc (k : Key) (n : List UInt8) : nameOf (k ++ [n]) = n := by simp [nameOf]
theorem key_split {k : Key} (h : k ≠ []) : k = k.dropLast ++ [nameOf k] := by
  unfold nameOf
  rw [List.getLast?_eq_some_getLast h]
  exact (List.dropLast_concat_getLast h).symm
theorem mem_kids {ns : List Nd} {k q : Key} : q ∈ kidsOf ns k ↔ ∃ x ∈ ns, x.key = q ∧ q ≠ [] ∧ q.dropLast = k := by
  unfold kidsOf isKid
  simp only [List.mem_map, List.mem_filter, Bool.and_eq_true, Bool.not_eq_true', beq_iff_eq, List.isEmpty_eq_false_iff]
  constructor
  · rintro ⟨x, ⟨h1, h2, h3⟩, rfl⟩; exact ⟨x, h1, rfl, h2, h3⟩
  · rintro ⟨x, h1, rfl, h2, h3⟩; exact ⟨x, ⟨h1, h2, h3⟩, rfl⟩
theorem kid_split {ns : List Nd} {k q : Key} (h : q ∈ kidsOf ns k) : q = k ++ [nameOf q] := by
  obtain ⟨x, _, rfl, h2, h3⟩ := mem_kids.1 h
  conv => lhs; rw [key_split h2, h3]
theorem hasKey_iff {ns : List Nd} {k : Key} : hasKey ns k = true ↔ ∃ x ∈ ns, x.key = k := by simp [hasKey]
theorem kid_iff {ns : List Nd} {k : Key} {n : List UInt8} : k ++ [n] ∈ kidsOf ns k ↔ hasKey ns (k ++ [n]) = true := by
  rw [mem_kids, hasKey_iff]
  constructor
  · rintro ⟨x, h1, h2, _⟩; exact ⟨x, h1, h2⟩
  · rintro ⟨x, h1, h2⟩; exact ⟨x, h1, h2, by simp, by simp⟩

/-- What a tree's nodes meet. -/
structure Good (ns : List Nd) : Prop where
  root : ∃ x ∈ ns, x.key = [] ∧ x.dir = true
  uniq : ∀ x ∈ ns, ∀ y ∈ ns, x.key = y.key → x = y
  up : ∀ x ∈ ns, x.key ≠ [] → ∃ y ∈ ns, y.key = x.key.dropLast ∧ y.dir = true
  asc : ∀ k, (kidsOf ns k).Pairwise fun a b => sLt (nameOf a) (nameOf b) = true
  word : ∀ x ∈ ns, (nameOf x.key).length ≤ 5

theorem find_key {ns : List Nd} (h : ∀ x ∈ ns, ∀ y ∈ ns, x.key = y.key → x = y) {x : Nd} (hx : x ∈ ns) : ns.find? (fun y => y.key == x.key) = some x := by
  rcases hf : ns.find? (fun y => y.key == x.key) with _ | y
  · rw [List.find?_eq_none] at hf
    exact absurd (by simp) (hf x hx)
  · have h1 := List.find?_some hf
    have h2 := List.mem_of_find?_eq_some hf
    rw [hf, h y h2 x hx (by simpa using h1)]
theorem Good.dir_of {ns : List Nd} (h : Good ns) {x : Nd} (hx : x ∈ ns) : dirAt ns x.key = x.dir := by
  unfold dirAt; rw [find_key h.uniq hx]; rfl
theorem dirAt_has {ns : List Nd} {k : Key} (h : dirAt ns k = true) : ∃ x ∈ ns, x.key = k ∧ x.dir = true := by
  unfold dirAt at h
  rcases hf : ns.find? (fun y => y.key == k) with _ | y
  · rw [hf] at h; simp at h
  · rw [hf] at h
    exact ⟨y, List.mem_of_find?_eq_some hf, by simpa using List.find?_some hf, h⟩
/-- above a node there are nodes -/
theorem Good.prefix {ns : List Nd} (h : Good ns) : ∀ (n : Nat) (a c : Key), c.length = n → hasKey ns (a ++ c) = true → hasKey ns a = true
  | 0, a, c, hc, hk => by
    rw [List.eq_nil_of_length_eq_zero hc, List.append_nil] at hk
    exact hk
  | n + 1, a, c, hc, hk => by
    have hne : c ≠ [] := by rintro rfl; simp at hc
    obtain ⟨x, hx, e⟩ := hasKey_iff.1 hk
    obtain ⟨y, hy, e2, _⟩ := h.up x hx (by rw [e]; simp [hne])
    refine Good.prefix h n a c.dropLast (by simp; omega) ?_
    rw [hasKey_iff]
    exact ⟨y, hy, by rw [e2, e, List.dropLast_append_of_ne_nil hne]⟩
theorem Good.dirs {ns : List Nd} (h : Good ns) {k : Key} (hk : k ≠ []) (hh : hasKey ns k = true) : dirAt ns k.dropLast = true := by
  obtain ⟨x, hx, rfl⟩ := hasKey_iff.1 hh
  obtain ⟨y, hy, e, hd⟩ := h.up x hx hk
  rw [← e, h.dir_of hy, hd]

/-! ### of a list of items -/
theorem find_map_node (os : List ItemR) (k : Key) (hk : k ≠ []) : (nodesOf os).find? (fun x => x.key == k) = (os.find? fun o => cutS o.path == k).map nodeOf := by
  unfold nodesOf
  rw [List.find?_cons_of_neg (by simpa using hk), List.find?_map]
  rfl
/-- its home, by text and by key -/
theorem home_key {os : List ItemR} {p : List UInt8} (hp : pathOk p = true) : homeS os p = dirAt (nodesOf os) (cutS p).dropLast := by
  unfold homeS dirAt findI
  rcases parent_cases hp with ⟨e1, e2⟩ | ⟨n, e1, _, _, e2⟩
  · rw [e1, e2]
    rfl
  · rw [e2, List.dropLast_concat, find_map_node _ _ (cutS_ne _)]
    have e3 : (parentOf p).isEmpty = false := by simpa using e1
    have e4 : (fun o : ItemR => cutS o.path == cutS (parentOf p)) = fun o => o.path == parentOf p := by
      funext o
      rw [Bool.eq_iff_iff, beq_iff_eq, beq_iff_eq]
      exact ⟨cutS_inj, fun e => by rw [e]⟩
    rw [e3, e4, Bool.false_or, Option.map_map]
    rfl
theorem key_text {l : List UInt8} (hp : pathOk l = true) : l = if (cutS l).dropLast = [] then nameOf (cutS l) else joinS (cutS l).dropLast ++ 47 :: nameOf (cutS l) := by
  rcases parent_cases hp with ⟨e1, e2⟩ | ⟨n, e1, _, e3, e2⟩
  · rw [e2]; simp [nameOf]
  · rw [e2, List.dropLast_concat, nameOf_snoc, if_neg (cutS_ne _), join_cut]
    exact e3
theorem same_dir_lt {l m : List UInt8} (hl : pathOk l = true) (hm : pathOk m = true) (h : (cutS l).dropLast = (cutS m).dropLast) : sLt l m = sLt (nameOf (cutS l)) (nameOf (cutS m)) := by
  conv => lhs; rw [key_text hl, key_text hm, h]
  split
  · rfl
  · have e : ∀ (a n : List UInt8), a ++ 47 :: n = (a ++ [47]) ++ n := fun a n => by simp
    rw [e _ (nameOf (cutS l)), e _ (nameOf (cutS m)), sLt_append]
theorem kids_nodes (os : List ItemR) (k : Key) : kidsOf (nodesOf os) k = (os.filter fun o => (cutS o.path).dropLast == k).map fun o => cutS o.path := by
  unfold kidsOf nodesOf
  rw [List.filter_cons_of_neg (by simp [isKid]), List.filter_map, List.map_map]
  have e : (isKid k ∘ nodeOf) = fun o => (cutS o.path).dropLast == k := by
    funext o
    have := cutS_ne o.path
    simp [isKid, nodeOf, this]
  rw [e]
  rfl
theorem kids_snoc (os : List ItemR) (x : ItemR) (k : Key) : kidsOf (nodesOf (os ++ [x])) k = kidsOf (nodesOf os) k ++ (if (cutS x.path).dropLast = k then [cutS x.path] else []) := by
  rw [kids_nodes, kids_nodes, List.filter_append, List.map_append]
  congr 1
  by_cases h : (cutS x.path).dropLast = k
  · rw [if_pos h, List.filter_cons_of_pos (by simpa using h)]; rfl
  · rw [if_neg h, List.filter_cons_of_neg (by simpa using h)]; rfl
theorem kids_len (os : List ItemR) (k : Key) : (kidsOf (nodesOf os) k).length ≤ os.length := by
  rw [kids_nodes, List.length_map]; exact List.length_filter_le _ _
theorem mem_nodes {os : List ItemR} {x : Nd} : x ∈ nodesOf os ↔ x = ⟨[], true, []⟩ ∨ ∃ o ∈ os, nodeOf o = x := by simp [nodesOf]

theorem TreeP.path {os : List ItemR} (h : TreeP os) {o : ItemR} (ho : o ∈ os) : pathOk o.path = true := itemOk_path (h.ok o ho)
theorem asc_eq : ∀ {os : List ItemR}, Asc os → ∀ {a b : ItemR}, a ∈ os → b ∈ os → a.path = b.path → a = b
  | [], _, a, b, ha, _, _ => by simp at ha
  | x :: r, h, a, b, ha, hb, e => by
    obtain ⟨h1, h2⟩ := List.pairwise_cons.1 h
    rcases List.mem_cons.1 ha with ea | ha' <;> rcases List.mem_cons.1 hb with eb | hb'
    · rw [ea, eb]
    · subst ea; exact absurd e (sLt_ne (h1 b hb'))
    · subst eb; exact absurd e.symm (sLt_ne (h1 a ha'))
    · exact asc_eq h2 ha' hb' e
theorem TreeP.good {os : List ItemR} (h : TreeP os) : Good (nodesOf os) := by
  refine ⟨⟨_, List.mem_cons_self, rfl, rfl⟩, fun x hx y hy e => ?_, fun x hx hk => ?_, fun k => ?_, fun x hx => ?_⟩
  · rcases mem_nodes.1 hx with rfl | ⟨a, ha, rfl⟩ <;> rcases mem_nodes.1 hy with rfl | ⟨c, hc, rfl⟩
    · rfl
    · exact absurd e.symm (cutS_ne _)
    · exact absurd e (cutS_ne _)
    · rw [asc_eq h.asc ha hc (cutS_inj e)]
  · rcases mem_nodes.1 hx with rfl | ⟨a, ha, rfl⟩
    · exact absurd rfl hk
    · have hh := h.home a ha
      rw [home_key (h.path ha)] at hh
      exact dirAt_has hh
  · rw [kids_nodes, List.pairwise_map]
    refine List.Pairwise.imp_of_mem ?_ (List.Pairwise.filter _ h.asc)
    intro a c ha hc hac
    simp only [List.mem_filter, beq_iff_eq] at ha hc
    rw [← same_dir_lt (h.path ha.1) (h.path hc.1) (ha.2.trans hc.2.symm)]
    exact hac
  · rcases mem_nodes.1 hx with rfl | ⟨a, ha, rfl⟩
    · simp [nameOf]
    · have hw := pathOk_word (h.path ha) (x := nameOf (cutS a.path)) (by
        have e := key_split (cutS_ne a.path)
        generalize nameOf (cutS a.path) = n at *
        rw [e]; simp)
      exact (wordOk_len hw).1
theorem has_path {os : List ItemR} {p : List UInt8} : hasKey (nodesOf os) (cutS p) = true ↔ ∃ o ∈ os, o.path = p := by
  rw [hasKey_iff]
  constructor
  · rintro ⟨x, hx, e⟩
    rcases mem_nodes.1 hx with rfl | ⟨a, ha, rfl⟩
    · exact absurd e.symm (cutS_ne _)
    · exact ⟨a, ha, cutS_inj e⟩
  · rintro ⟨o, ho, rfl⟩
    exact ⟨nodeOf o, mem_nodes.2 (.inr ⟨o, ho, rfl⟩), rfl⟩
end Go.Proofs.YtkffejommncinaaDoor
