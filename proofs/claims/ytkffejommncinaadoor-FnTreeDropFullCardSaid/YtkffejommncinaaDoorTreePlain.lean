/- Trees, plain: sorted lists are one by their members; an item put, an item dropped. No program in sight. -/
import Derived.Test.YtkffejommncinaaDoorPlace
namespace Go.Proofs.YtkffejommncinaaDoor
open Go.RowKit

theorem sorted_one {α : Type} (R : α → α → Prop) (hi : ∀ a, ¬ R a a) (ht : ∀ a b c, R a b → R b c → R a c) : ∀ (l m : List α), l.Pairwise R → m.Pairwise R → (∀ x, x ∈ l ↔ x ∈ m) → l = m
  | [], [], _, _, _ => rfl
  | [], b :: m, _, _, h => absurd ((h b).2 List.mem_cons_self) (by simp)
  | a :: l, [], _, _, h => absurd ((h a).1 List.mem_cons_self) (by simp)
  | a :: l, b :: m, h1, h2, h => by
    obtain ⟨a1, a2⟩ := List.pairwise_cons.1 h1
    obtain ⟨b1, b2⟩ := List.pairwise_cons.1 h2
    have e : a = b := by
      rcases List.mem_cons.1 ((h a).1 List.mem_cons_self) with e | e
      · exact e
      · rcases List.mem_cons.1 ((h b).2 List.mem_cons_self) with e' | e'
        · exact e'.symm
        · exact absurd (ht _ _ _ (b1 a e) (a1 b e')) (hi b)
    subst e
    have hr : l = m := by
      refine sorted_one R hi ht l m a2 b2 fun x => ⟨fun hx => ?_, fun hx => ?_⟩
      · rcases List.mem_cons.1 ((h x).1 (List.mem_cons_of_mem _ hx)) with e | e
        · rw [e] at hx; exact absurd (a1 _ hx) (hi _)
        · exact e
      · rcases List.mem_cons.1 ((h x).2 (List.mem_cons_of_mem _ hx)) with e | e
        · rw [e] at hx; exact absurd (b1 _ hx) (hi _)
        · exact e
    rw [hr]

theorem spec_of {all : List ItemR} (h : TreeP all) : ∀ (r : List ItemR) (prev : Option (List UInt8)), (∀ o ∈ r, o ∈ all) → Asc r → (∀ q, prev = some q → ∀ o ∈ r, sLt q o.path = true) → specGo all prev r = true
  | [], _, _, _, _ => rfl
  | x :: r, prev, hm, ha, hp => by
    obtain ⟨h1, h2⟩ := List.pairwise_cons.1 ha
    simp only [specGo, Bool.and_eq_true]
    have hx := hm x List.mem_cons_self
    refine ⟨h.ok x hx, ?_, h.home x hx, spec_of h r _ (fun o ho => hm o (List.mem_cons_of_mem _ ho)) h2 (fun q hq o ho => ?_)⟩
    · rcases prev with _ | q
      · rfl
      · exact hp q rfl x List.mem_cons_self
    · cases hq; exact h1 o ho
theorem treeOk_of {os : List ItemR} (h : TreeP os) (hl : os.length ≤ 12) : treeOk os = true := by
  unfold treeOk
  rw [spec_of h os none (fun _ h => h) h.asc (fun q h => by cases h)]
  simpa using hl
theorem treeOk_iff {os : List ItemR} : treeOk os = true ↔ TreeP os ∧ os.length ≤ 12 := ⟨treeOk_p, fun h => treeOk_of h.1 h.2⟩

theorem find_iff {os : List ItemR} (h : Asc os) {p : List UInt8} {o : ItemR} : findI os p = some o ↔ o ∈ os ∧ o.path = p := by
  unfold findI
  constructor
  · intro hf
    exact ⟨List.mem_of_find?_eq_some hf, by simpa using List.find?_some hf⟩
  · rintro ⟨ho, rfl⟩
    rcases hf : os.find? (fun x => x.path == o.path) with _ | y
    · rw [List.find?_eq_none] at hf
      exact absurd (by simp) (hf o ho)
    · have e := asc_eq h (List.mem_of_find?_eq_some hf) ho (by simpa using List.find?_some hf)
      rw [e] at hf; exact hf
theorem home_iff {os : List ItemR} (h : Asc os) {p : List UInt8} : homeS os p = true ↔ parentOf p = [] ∨ ∃ y ∈ os, y.path = parentOf p ∧ y.dir = true := by
  unfold homeS
  rw [Bool.or_eq_true, List.isEmpty_iff]
  constructor
  · rintro (e | e)
    · exact .inl e
    · rcases hf : findI os (parentOf p) with _ | y
      · rw [hf] at e; simp at e
      · rw [hf] at e
        obtain ⟨h1, h2⟩ := (find_iff h).1 hf
        exact .inr ⟨y, h1, h2, e⟩
  · rintro (e | ⟨y, h1, h2, h3⟩)
    · exact .inl e
    · rw [(find_iff h).2 ⟨h1, h2⟩]
      exact .inr h3
theorem find_none {os : List ItemR} {p : List UInt8} : findI os p = none ↔ ∀ o ∈ os, o.path ≠ p := by
  unfold findI
  rw [List.find?_eq_none]
  simp

/-! ### put -/
def putS (x : ItemR) : List ItemR → List ItemR
  | [] => [x]
  | o :: r => if sLt o.path x.path = true then o :: putS x r else if o.path = x.path then x :: r else x :: o :: r
theorem mem_put {x : ItemR} : ∀ {os : List ItemR}, Asc os → ∀ o, o ∈ putS x os ↔ (o = x ∨ (o ∈ os ∧ o.path ≠ x.path))
  | [], _, o => by simp [putS]
  | y :: r, h, o => by
    obtain ⟨h1, h2⟩ := List.pairwise_cons.1 h
    rw [putS]
    split
    · rename_i hs
      have hne := sLt_ne hs
      rw [List.mem_cons, mem_put h2, List.mem_cons]
      constructor
      · rintro (rfl | rfl | ⟨ho, hn⟩)
        · exact .inr ⟨.inl rfl, hne⟩
        · exact .inl rfl
        · exact .inr ⟨.inr ho, hn⟩
      · rintro (rfl | ⟨rfl | ho, hn⟩)
        · exact .inr (.inl rfl)
        · exact .inl rfl
        · exact .inr (.inr ⟨ho, hn⟩)
    · rename_i hs
      have later : ∀ z ∈ r, z.path ≠ x.path := fun z hz e => by
        have := h1 z hz
        rw [e] at this; exact hs this
      split
      · rename_i he
        rw [List.mem_cons, List.mem_cons]
        constructor
        · rintro (rfl | ho)
          · exact .inl rfl
          · exact .inr ⟨.inr ho, later o ho⟩
        · rintro (rfl | ⟨rfl | ho, hn⟩)
          · exact .inl rfl
          · exact absurd he hn
          · exact .inr ho
      · rename_i he
        rw [List.mem_cons, List.mem_cons]
        constructor
        · rintro (rfl | rfl | ho)
          · exact .inl rfl
          · exact .inr ⟨.inl rfl, he⟩
          · exact .inr ⟨.inr ho, later o ho⟩
        · rintro (rfl | ⟨h, hn⟩)
          · exact .inl rfl
          · exact .inr h
theorem asc_put {x : ItemR} : ∀ {os : List ItemR}, Asc os → Asc (putS x os)
  | [], _ => List.pairwise_singleton _ _
  | y :: r, h => by
    obtain ⟨h1, h2⟩ := List.pairwise_cons.1 h
    rw [putS]
    split
    · rename_i hs
      refine List.Pairwise.cons (fun z hz => ?_) (asc_put h2)
      rcases (mem_put h2 z).1 hz with rfl | ⟨hz, _⟩
      · exact hs
      · exact h1 z hz
    · rename_i hs
      split
      · rename_i he
        exact List.Pairwise.cons (fun z hz => by rw [← he]; exact h1 z hz) h2
      · rename_i he
        have hxy : sLt x.path y.path = true := by
          rcases hq : sLt x.path y.path with _ | _
          · exact absurd (sLt_total (by simpa using hs) hq) he
          · rfl
        refine List.Pairwise.cons (fun z hz => ?_) h
        rcases List.mem_cons.1 hz with rfl | hz
        · exact hxy
        · exact sLt_trans hxy (h1 z hz)
theorem len_put_new {x : ItemR} : ∀ {os : List ItemR}, (∀ o ∈ os, o.path ≠ x.path) → (putS x os).length = os.length + 1
  | [], _ => rfl
  | y :: r, h => by
    rw [putS]
    split
    · rw [List.length_cons, len_put_new (fun o ho => h o (List.mem_cons_of_mem _ ho)), List.length_cons]
    · rw [if_neg (h y List.mem_cons_self)]; rfl
theorem len_put_old {x : ItemR} : ∀ {os : List ItemR}, Asc os → (∃ o ∈ os, o.path = x.path) → (putS x os).length = os.length
  | [], _, h => by obtain ⟨o, ho, _⟩ := h; simp at ho
  | y :: r, ha, h => by
    obtain ⟨h1, h2⟩ := List.pairwise_cons.1 ha
    obtain ⟨o, ho, e⟩ := h
    rw [putS]
    split
    · rename_i hs
      rcases List.mem_cons.1 ho with rfl | ho
      · exact absurd e (sLt_ne hs)
      · rw [List.length_cons, len_put_old h2 ⟨o, ho, e⟩, List.length_cons]
    · rename_i hs
      rcases List.mem_cons.1 ho with rfl | ho
      · rw [if_pos e]; rfl
      · have := h1 o ho
        rw [e] at this; exact absurd this hs
theorem parent_ne {l : List UInt8} (h : pathOk l = true) : parentOf l ≠ l := sLt_ne (parent_lt h)
theorem TreeP.put_new {os : List ItemR} {x : ItemR} (h : TreeP os) (hx : itemOk x = true) (hn : ∀ o ∈ os, o.path ≠ x.path) (hh : homeS os x.path = true) : TreeP (putS x os) := by
  refine ⟨asc_put h.asc, fun o ho => ?_, fun o ho => ?_⟩
  · rcases (mem_put h.asc o).1 ho with rfl | ⟨ho, _⟩
    · exact hx
    · exact h.ok o ho
  · have hs : homeS os o.path = true := by
      rcases (mem_put h.asc o).1 ho with rfl | ⟨ho, _⟩
      · exact hh
      · exact h.home o ho
    rw [home_iff (asc_put h.asc)]
    rcases (home_iff h.asc).1 hs with e | ⟨y, h1, h2, h3⟩
    · exact .inl e
    · exact .inr ⟨y, (mem_put h.asc y).2 (.inr ⟨h1, hn y h1⟩), h2, h3⟩
theorem TreeP.put_old {os : List ItemR} {x z : ItemR} (h : TreeP os) (hx : itemOk x = true) (hz : z ∈ os) (he : z.path = x.path) (hd : z.dir = false) : TreeP (putS x os) := by
  have keep : ∀ p, homeS os p = true → homeS (putS x os) p = true := fun p hp => by
    rw [home_iff (asc_put h.asc)]
    rcases (home_iff h.asc).1 hp with e | ⟨y, h1, h2, h3⟩
    · exact .inl e
    · refine .inr ⟨y, (mem_put h.asc y).2 (.inr ⟨h1, fun e => ?_⟩), h2, h3⟩
      rw [asc_eq h.asc h1 hz (e.trans he.symm), hd] at h3
      cases h3
  refine ⟨asc_put h.asc, fun o ho => ?_, fun o ho => ?_⟩
  · rcases (mem_put h.asc o).1 ho with rfl | ⟨ho, _⟩
    · exact hx
    · exact h.ok o ho
  · rcases (mem_put h.asc o).1 ho with rfl | ⟨ho, _⟩
    · exact keep _ (by rw [← he]; exact h.home z hz)
    · exact keep _ (h.home o ho)
theorem TreeP.put_home {os : List ItemR} {x : ItemR} (ha : Asc os) (h : TreeP (putS x os)) : homeS os x.path = true := by
  have hm : x ∈ putS x os := (mem_put ha x).2 (.inl rfl)
  have hs := h.home x hm
  rw [home_iff h.asc] at hs
  rw [home_iff ha]
  rcases hs with e | ⟨y, h1, h2, h3⟩
  · exact .inl e
  · rcases (mem_put ha y).1 h1 with rfl | ⟨h1, _⟩
    · exact absurd h2.symm (parent_ne (h.path hm))
    · exact .inr ⟨y, h1, h2, h3⟩

def putR (os : List ItemR) (x : ItemR) : Option (List ItemR) :=
  if (treeOk os && (itemOk x && ((findI os x.path).all fun o => !o.dir && !x.dir))) = true then (if treeOk (putS x os) = true then some (putS x os) else none) else none
/-- A new item: what is asked of it. -/
theorem put_new_iff {os : List ItemR} {x : ItemR} (h : treeOk os = true) (hx : itemOk x = true) (hn : findI os x.path = none) : treeOk (putS x os) = (decide (os.length < 12) && homeS os x.path) := by
  obtain ⟨hT, hl⟩ := treeOk_p h
  have hn' := find_none.1 hn
  rw [Bool.eq_iff_iff, treeOk_iff, len_put_new hn', Bool.and_eq_true, decide_eq_true_eq]
  constructor
  · rintro ⟨h1, h2⟩; exact ⟨by omega, h1.put_home hT.asc⟩
  · rintro ⟨h1, h2⟩; exact ⟨hT.put_new hx hn' h2, by omega⟩
theorem put_old_ok {os : List ItemR} {x z : ItemR} (h : treeOk os = true) (hx : itemOk x = true) (hz : findI os x.path = some z) (hd : z.dir = false) : treeOk (putS x os) = true := by
  obtain ⟨hT, hl⟩ := treeOk_p h
  obtain ⟨h1, h2⟩ := (find_iff hT.asc).1 hz
  rw [treeOk_iff, len_put_old hT.asc ⟨z, h1, h2⟩]
  exact ⟨hT.put_old hx h1 h2 hd, hl⟩

/-! ### drop -/
def dropS (p : List UInt8) (os : List ItemR) : List ItemR := os.filter fun o => !(o.path == p)
theorem mem_drop {p : List UInt8} {os : List ItemR} {o : ItemR} : o ∈ dropS p os ↔ o ∈ os ∧ o.path ≠ p := by simp [dropS]
theorem asc_drop {p : List UInt8} {os : List ItemR} (h : Asc os) : Asc (dropS p os) := List.Pairwise.filter _ h
def noKids (p : List UInt8) (os : List ItemR) : Bool := os.all fun o => !(parentOf o.path == p)
theorem noKids_iff {p : List UInt8} {os : List ItemR} : noKids p os = true ↔ ∀ o ∈ os, parentOf o.path ≠ p := by simp [noKids]
theorem drop_iff {os : List ItemR} (h : treeOk os = true) {z : ItemR} (hz : z ∈ os) : treeOk (dropS z.path os) = noKids z.path os := by
  obtain ⟨hT, hl⟩ := treeOk_p h
  have hlen : (dropS z.path os).length ≤ os.length := List.length_filter_le _ _
  have hne := pathOk_ne (hT.path hz)
  rw [Bool.eq_iff_iff, treeOk_iff, noKids_iff]
  constructor
  · rintro ⟨h1, h2⟩ o ho e
    have hm : o ∈ dropS z.path os := mem_drop.2 ⟨ho, fun e2 => parent_ne (hT.path ho) (e.trans e2.symm)⟩
    rcases (home_iff h1.asc).1 (h1.home o hm) with e3 | ⟨y, g1, g2, _⟩
    · exact hne (e.symm.trans e3)
    · exact (mem_drop.1 g1).2 (g2.trans e)
  · intro hk
    refine ⟨⟨asc_drop hT.asc, fun o ho => hT.ok o (mem_drop.1 ho).1, fun o ho => ?_⟩, by omega⟩
    have ho' := (mem_drop.1 ho).1
    rw [home_iff (asc_drop hT.asc)]
    rcases (home_iff hT.asc).1 (hT.home o ho') with e | ⟨y, g1, g2, g3⟩
    · exact .inl e
    · exact .inr ⟨y, mem_drop.2 ⟨g1, fun e => hk o ho' (g2.symm.trans e)⟩, g2, g3⟩
theorem drop_at : ∀ {os : List ItemR} {i : Nat} {z : ItemR}, Asc os → os[i]? = some z → dropS z.path os = os.take i ++ os.drop (i + 1)
  | [], i, z, _, h => by simp at h
  | y :: r, 0, z, ha, h => by
    obtain rfl : y = z := by simpa using h
    obtain ⟨h1, _⟩ := List.pairwise_cons.1 ha
    unfold dropS
    rw [List.filter_cons_of_neg (by simp)]
    simp only [List.take_zero, List.nil_append, Nat.zero_add, List.drop_succ_cons, List.drop_zero]
    rw [List.filter_eq_self]
    intro o ho
    have := sLt_ne (h1 o ho)
    simp [Ne.symm this]
  | y :: r, i + 1, z, ha, h => by
    have hz : r[i]? = some z := by simpa using h
    obtain ⟨h1, h2⟩ := List.pairwise_cons.1 ha
    have ih := drop_at h2 hz
    have hne := sLt_ne (h1 z (List.mem_of_getElem? hz))
    unfold dropS at ih ⊢
    rw [List.filter_cons_of_pos (by simp [hne]), ih]
    rfl
def dropR (os : List ItemR) (p : List UInt8) : Option (List ItemR) :=
  if (treeOk os && ((findI os p).isSome && noKids p os)) = true then some (dropS p os) else none

/-! ### the kids -/
theorem kids_one {ns : List Nd} {k : Key} (h1 : (kidsOf ns k).Pairwise fun a b => sLt (nameOf a) (nameOf b) = true) {l : List Key} (h2 : l.Pairwise fun a b => sLt (nameOf a) (nameOf b) = true) (h : ∀ q, q ∈ kidsOf ns k ↔ q ∈ l) : kidsOf ns k = l :=
  sorted_one (fun a b : Key => sLt (nameOf a) (nameOf b) = true) (fun a h => by rw [sLt_irrefl] at h; cases h) (fun a b c h g => sLt_trans h g) _ _ h1 h2 h
theorem nodes_put {os : List ItemR} {x : ItemR} (h : Asc os) (hn : ∀ o ∈ os, o.path ≠ x.path) (y : Nd) : y ∈ nodesOf (putS x os) ↔ y ∈ nodesOf os ∨ y = nodeOf x := by
  rw [mem_nodes, mem_nodes]
  constructor
  · rintro (rfl | ⟨o, ho, rfl⟩)
    · exact .inl (.inl rfl)
    · rcases (mem_put h o).1 ho with rfl | ⟨ho, _⟩
      · exact .inr rfl
      · exact .inl (.inr ⟨o, ho, rfl⟩)
  · rintro ((rfl | ⟨o, ho, rfl⟩) | rfl)
    · exact .inl rfl
    · exact .inr ⟨o, (mem_put h o).2 (.inr ⟨ho, hn o ho⟩), rfl⟩
    · exact .inr ⟨x, (mem_put h x).2 (.inl rfl), rfl⟩
theorem kids_put_other {os : List ItemR} {x : ItemR} (h : TreeP os) (h' : TreeP (putS x os)) (hn : ∀ o ∈ os, o.path ≠ x.path) {k : Key} (hk : (cutS x.path).dropLast ≠ k) : kidsOf (nodesOf (putS x os)) k = kidsOf (nodesOf os) k := by
  refine kids_one (h'.good.asc k) (h.good.asc k) fun q => ?_
  rw [mem_kids, mem_kids]
  constructor
  · rintro ⟨y, h1, h2, h3, h4⟩
    rcases (nodes_put h.asc hn y).1 h1 with h1 | rfl
    · exact ⟨y, h1, h2, h3, h4⟩
    · exact absurd (by rw [← h4, ← h2]; rfl) hk
  · rintro ⟨y, h1, h2, h3, h4⟩
    exact ⟨y, (nodes_put h.asc hn y).2 (.inl h1), h2, h3, h4⟩
theorem take_drop_get {α : Type} {l : List α} {i : Nat} {q : α} : q ∈ l.take i ∨ q ∈ l.drop i ↔ q ∈ l := by
  conv => rhs; rw [← List.take_append_drop i l]
  rw [List.mem_append]
theorem kids_put_here {os : List ItemR} {x : ItemR} (h : TreeP os) (h' : TreeP (putS x os)) (hn : ∀ o ∈ os, o.path ≠ x.path) {k : Key} (hk : (cutS x.path).dropLast = k) {i : Nat} (hp : PlaceAt (kidsOf (nodesOf os) k) (nameOf (cutS x.path)) i) :
    kidsOf (nodesOf (putS x os)) k = (kidsOf (nodesOf os) k).take i ++ cutS x.path :: (kidsOf (nodesOf os) k).drop i := by
  obtain ⟨-, p2, p3⟩ := hp
  have hne : ∀ q ∈ kidsOf (nodesOf os) k, nameOf q ≠ nameOf (cutS x.path) := fun q hq e => by
    obtain ⟨y, h1, h2, h3, h4⟩ := mem_kids.1 hq
    have e2 : q = cutS x.path := by rw [key_split h3, key_split (cutS_ne x.path), h4, hk, e]
    obtain ⟨o, ho, e3⟩ := has_path.1 (hasKey_iff.2 ⟨y, h1, h2.trans e2⟩)
    exact hn o ho e3
  have ha := h.good.asc k
  refine kids_one (h'.good.asc k) ?_ fun q => ?_
  · rw [List.pairwise_append]
    have hd : ∀ b ∈ (kidsOf (nodesOf os) k).drop i, sLt (nameOf (cutS x.path)) (nameOf b) = true := fun b hb => by
      obtain ⟨t, ht⟩ := List.mem_iff_getElem?.1 hb
      rw [List.getElem?_drop] at ht
      have h1 := p3 (i + t) b (by omega) ht
      rcases hq : sLt (nameOf (cutS x.path)) (nameOf b) with _ | _
      · exact absurd (sLt_total h1 hq) (hne b (List.mem_of_getElem? ht))
      · rfl
    have ht : ∀ a ∈ (kidsOf (nodesOf os) k).take i, sLt (nameOf a) (nameOf (cutS x.path)) = true := fun a ha => by
      obtain ⟨t, ht⟩ := List.mem_iff_getElem?.1 ha
      rw [List.getElem?_take] at ht
      split at ht
      · exact p2 t a (by assumption) ht
      · cases ht
    refine ⟨ha.sublist (List.take_sublist _ _), List.Pairwise.cons hd (ha.sublist (List.drop_sublist _ _)), fun a ha b hb => ?_⟩
    rcases List.mem_cons.1 hb with rfl | hb
    · exact ht a ha
    · exact sLt_trans (ht a ha) (hd b hb)
  · rw [List.mem_append, List.mem_cons, mem_kids]
    constructor
    · rintro ⟨y, h1, h2, h3, h4⟩
      rcases (nodes_put h.asc hn y).1 h1 with h1 | rfl
      · rcases take_drop_get.2 (mem_kids.2 ⟨y, h1, h2, h3, h4⟩) with h5 | h5
        · exact .inl h5
        · exact .inr (.inr h5)
      · exact .inr (.inl h2.symm)
    · intro hq
      have hq' : q = cutS x.path ∨ q ∈ kidsOf (nodesOf os) k := by
        rcases hq with hq | rfl | hq
        · exact .inr (take_drop_get.1 (.inl hq))
        · exact .inl rfl
        · exact .inr (take_drop_get.1 (.inr hq))
      rcases hq' with rfl | hq'
      · exact ⟨nodeOf x, (nodes_put h.asc hn _).2 (.inr rfl), rfl, cutS_ne _, hk⟩
      · obtain ⟨y, h1, h2, h3, h4⟩ := mem_kids.1 hq'
        exact ⟨y, (nodes_put h.asc hn _).2 (.inl h1), h2, h3, h4⟩
theorem nodes_drop {os : List ItemR} {p : List UInt8} (y : Nd) : y ∈ nodesOf (dropS p os) ↔ y ∈ nodesOf os ∧ y.key ≠ cutS p := by
  rw [mem_nodes, mem_nodes]
  constructor
  · rintro (rfl | ⟨o, ho, rfl⟩)
    · exact ⟨.inl rfl, fun e => cutS_ne p e.symm⟩
    · obtain ⟨h1, h2⟩ := mem_drop.1 ho
      exact ⟨.inr ⟨o, h1, rfl⟩, fun e => h2 (cutS_inj e)⟩
  · rintro ⟨rfl | ⟨o, ho, rfl⟩, h2⟩
    · exact .inl rfl
    · exact .inr ⟨o, mem_drop.2 ⟨ho, fun e => h2 (by rw [← e]; rfl)⟩, rfl⟩
theorem kids_drop_other {os : List ItemR} {p : List UInt8} (h : TreeP os) (h' : TreeP (dropS p os)) {k : Key} (hk : (cutS p).dropLast ≠ k) : kidsOf (nodesOf (dropS p os)) k = kidsOf (nodesOf os) k := by
  refine kids_one (h'.good.asc k) (h.good.asc k) fun q => ?_
  rw [mem_kids, mem_kids]
  constructor
  · rintro ⟨y, h1, h2, h3, h4⟩
    exact ⟨y, (nodes_drop y).1 h1 |>.1, h2, h3, h4⟩
  · rintro ⟨y, h1, h2, h3, h4⟩
    exact ⟨y, (nodes_drop y).2 ⟨h1, fun e => hk (by rw [← h4, ← h2, e])⟩, h2, h3, h4⟩
theorem kids_drop_here {os : List ItemR} {p : List UInt8} (h : TreeP os) (h' : TreeP (dropS p os)) {k : Key} {i : Nat} (hi : (kidsOf (nodesOf os) k)[i]? = some (cutS p)) :
    kidsOf (nodesOf (dropS p os)) k = (kidsOf (nodesOf os) k).take i ++ (kidsOf (nodesOf os) k).drop (i + 1) := by
  obtain ⟨hlt, e⟩ := List.getElem?_eq_some_iff.1 hi
  have ha := h.good.asc k
  have hs : kidsOf (nodesOf os) k = (kidsOf (nodesOf os) k).take i ++ cutS p :: (kidsOf (nodesOf os) k).drop (i + 1) := by
    conv => lhs; rw [← List.take_append_drop i (kidsOf (nodesOf os) k), List.drop_eq_getElem_cons hlt, e]
  have ha2 := ha
  rw [hs] at ha2
  obtain ⟨q1, q2, q3⟩ := List.pairwise_append.1 ha2
  obtain ⟨q4, q5⟩ := List.pairwise_cons.1 q2
  refine kids_one (h'.good.asc k) ?_ fun q => ?_
  · rw [List.pairwise_append]
    exact ⟨q1, q5, fun a ha b hb => q3 a ha b (List.mem_cons_of_mem _ hb)⟩
  · have irr : ∀ a : Key, ¬ (sLt (nameOf a) (nameOf a) = true) := fun a h => by rw [sLt_irrefl] at h; cases h
    rw [mem_kids, List.mem_append]
    constructor
    · rintro ⟨y, h1, h2, h3, h4⟩
      obtain ⟨h1, h5⟩ := (nodes_drop y).1 h1
      have hq := mem_kids.2 ⟨y, h1, h2, h3, h4⟩
      rw [hs, List.mem_append, List.mem_cons] at hq
      rcases hq with hq | hq | hq
      · exact .inl hq
      · exact absurd (h2.trans hq) h5
      · exact .inr hq
    · intro hq
      have hm : q ∈ kidsOf (nodesOf os) k ∧ q ≠ cutS p := by
        rcases hq with hq | hq
        · exact ⟨by rw [hs]; exact List.mem_append_left _ hq, fun e => irr _ (by have := q3 q hq _ List.mem_cons_self; rw [e] at this; exact this)⟩
        · exact ⟨by rw [hs]; exact List.mem_append_right _ (List.mem_cons_of_mem _ hq), fun e => irr _ (by have := q4 q hq; rw [e] at this; exact this)⟩
      obtain ⟨y, h1, h2, h3, h4⟩ := mem_kids.1 hm.1
      exact ⟨y, (nodes_drop y).2 ⟨h1, fun e => hm.2 (h2.symm.trans e)⟩, h2, h3, h4⟩
end Go.Proofs.YtkffejommncinaaDoor
