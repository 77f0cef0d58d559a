/- Trees, plain: the items of a tree in the order in which its directories are gone through are its list. No program in sight. -/
import Derived.Test.YtkffejommncinaaDoorTreePlain
namespace Go.Proofs.YtkffejommncinaaDoor
open Go.RowKit

def ndAt (ns : List Nd) (q : Key) : Option Nd := ns.find? fun x => x.key == q
def itemAt (ns : List Nd) (path : List UInt8) (q : Key) : ItemR := ⟨path, ((ndAt ns q).map (·.dir)).getD false, ((ndAt ns q).map (·.ids)).getD []⟩
/-- the items behind a node, at most n levels down -/
def walkI (ns : List Nd) : Nat → Key → List UInt8 → List ItemR
  | 0, _, _ => []
  | n + 1, k, start => (kidsOf ns k).flatMap fun q => itemAt ns (start ++ nameOf q) q :: walkI ns n q (start ++ nameOf q ++ [47])
def cntI (ns : List Nd) : Nat → Key → Nat
  | 0, _ => 0
  | n + 1, k => (kidsOf ns k).length + ((kidsOf ns k).map (cntI ns n)).sum
theorem len_walk (ns : List Nd) : ∀ (n : Nat) (k : Key) (start : List UInt8), (walkI ns n k start).length = cntI ns n k
  | 0, _, _ => rfl
  | n + 1, k, start => by
    rw [walkI, cntI, List.length_flatMap]
    induction kidsOf ns k with
    | nil => rfl
    | cons q r ih =>
      rw [List.map_cons, List.sum_cons, List.length_cons, List.map_cons, List.sum_cons, List.length_cons, ih, len_walk ns n q]
      omega
def startK (k : Key) : List UInt8 := if k = [] then [] else joinS k ++ [47]
theorem join_append : ∀ (q c : Key), q ≠ [] → c ≠ [] → joinS (q ++ c) = joinS q ++ 47 :: joinS c
  | [], _, h, _ => absurd rfl h
  | [a], c, _, h => by
    rcases c with _ | ⟨b, r⟩
    · exact absurd rfl h
    · rfl
  | a :: b :: r, c, _, h => by
    have ih := join_append (b :: r) c (by simp) h
    show a ++ 47 :: joinS (b :: r ++ c) = _
    rw [ih]
    show _ = (a ++ 47 :: joinS (b :: r)) ++ _
    simp
theorem join_snoc (k : Key) (n : List UInt8) : joinS (k ++ [n]) = startK k ++ n := by
  unfold startK
  by_cases h : k = []
  · subst h; rfl
  · rw [if_neg h, join_append k [n] h (by simp)]; simp [joinS]
theorem kid_start {ns : List Nd} {k q : Key} (h : q ∈ kidsOf ns k) : startK k ++ nameOf q = joinS q ∧ startK k ++ nameOf q ++ [47] = startK q ∧ q ≠ [] := by
  have e := kid_split h
  obtain ⟨_, _, _, hne, _⟩ := mem_kids.1 h
  have e1 : startK k ++ nameOf q = joinS q := by conv => rhs; rw [e]; rw [join_snoc]
  refine ⟨e1, ?_, hne⟩
  rw [e1]; unfold startK; rw [if_neg hne]
theorem itemAt_of {ns : List Nd} (G : Good ns) {y : Nd} (hy : y ∈ ns) (p : List UInt8) : itemAt ns p y.key = ⟨p, y.dir, y.ids⟩ := by
  unfold itemAt ndAt
  rw [find_key G.uniq hy]; rfl
def itemOf (y : Nd) : ItemR := ⟨joinS y.key, y.dir, y.ids⟩
theorem mem_walk {ns : List Nd} (G : Good ns) : ∀ (n : Nat) (k : Key) (x : ItemR), x ∈ walkI ns n k (startK k) ↔ ∃ y ∈ ns, (∃ c, c ≠ [] ∧ c.length ≤ n ∧ y.key = k ++ c) ∧ x = itemOf y
  | 0, k, x => by
    constructor
    · intro h; simp [walkI] at h
    · rintro ⟨y, _, ⟨c, h1, h2, _⟩, _⟩
      exact absurd (List.eq_nil_of_length_eq_zero (by omega)) h1
  | n + 1, k, x => by
    rw [walkI, List.mem_flatMap]
    constructor
    · rintro ⟨q, hq, hx⟩
      obtain ⟨e1, e2, hne⟩ := kid_start hq
      rw [e2, e1] at hx
      rcases List.mem_cons.1 hx with hx | hx
      · obtain ⟨y, hy, rfl, -⟩ := mem_kids.1 hq
        refine ⟨y, hy, ⟨[nameOf y.key], by simp, by simp, kid_split hq⟩, ?_⟩
        rw [hx, itemAt_of G hy]; rfl
      · obtain ⟨y, hy, ⟨c, h1, h2, h3⟩, h4⟩ := (mem_walk G n q x).1 hx
        refine ⟨y, hy, ⟨nameOf q :: c, by simp, by simp; omega, ?_⟩, h4⟩
        rw [h3]
        conv => lhs; rw [kid_split hq]
        simp
    · rintro ⟨y, hy, ⟨c, h1, h2, h3⟩, rfl⟩
      rcases c with _ | ⟨nm, c⟩
      · exact absurd rfl h1
      · have hk : hasKey ns (k ++ [nm]) = true := by
          refine G.prefix _ (k ++ [nm]) c rfl ?_
          rw [hasKey_iff]
          exact ⟨y, hy, by rw [h3]; simp⟩
        have hq := kid_iff.2 hk
        obtain ⟨e1, e2, hne⟩ := kid_start hq
        refine ⟨k ++ [nm], hq, ?_⟩
        rw [e2, e1]
        by_cases hc : c = []
        · subst hc
          rw [List.mem_cons]
          left
          rw [← h3, itemAt_of G hy]; rfl
        · rw [List.mem_cons]
          right
          exact (mem_walk G n (k ++ [nm]) _).2 ⟨y, hy, ⟨c, hc, by simp at h2; omega, by rw [h3]; simp⟩, rfl⟩
theorem lt_ext : ∀ (a b s t : List UInt8), sLt a b = true → (∀ c ∈ b, 47 < c) → (s = [] ∨ ∃ r, s = 47 :: r) → sLt (a ++ s) (b ++ t) = true
  | _, [], _, _, h, _, _ => by unfold sLt at h; simp at h
  | [], c :: b, s, t, _, hb, hs => by
    have hc := hb c List.mem_cons_self
    rw [sLt_iff, List.nil_append, List.cons_append]
    rcases hs with rfl | ⟨r, rfl⟩
    · simp
    · rw [List.cons_lt_cons_iff]; exact .inl hc
  | x :: a, c :: b, s, t, h, hb, hs => by
    rw [sLt_iff, List.cons_lt_cons_iff] at h
    rw [sLt_iff, List.cons_append, List.cons_append, List.cons_lt_cons_iff]
    rcases h with h | ⟨h, g⟩
    · exact .inl h
    · exact .inr ⟨h, sLt_iff.1 (lt_ext a b s t (sLt_iff.2 g) (fun c hc => hb c (List.mem_cons_of_mem _ hc)) hs)⟩
theorem walk_path {ns : List Nd} (G : Good ns) {n : Nat} {q : Key} (hq : q ≠ []) {x : ItemR} (hx : x ∈ walkI ns n q (startK q)) : ∃ s, x.path = joinS q ++ 47 :: s := by
  obtain ⟨y, _, ⟨c, h1, _, h3⟩, rfl⟩ := (mem_walk G n q x).1 hx
  exact ⟨joinS c, by show joinS y.key = _; rw [h3, join_append q c hq h1]⟩
theorem walk_asc {ns : List Nd} (G : Good ns) (hw : ∀ x ∈ ns, ∀ c ∈ nameOf x.key, 47 < c) : ∀ (n : Nat) (k : Key), Asc (walkI ns n k (startK k))
  | 0, _ => List.Pairwise.nil
  | n + 1, k => by
    unfold Asc
    rw [walkI, List.pairwise_flatMap]
    constructor
    · intro q hq
      obtain ⟨e1, e2, hne⟩ := kid_start hq
      rw [e2, e1]
      refine List.Pairwise.cons (fun x hx => ?_) (walk_asc G hw n q)
      obtain ⟨s, e⟩ := walk_path G hne hx
      rw [e]
      exact sLt_prefix _ _ _
    · refine List.Pairwise.imp_of_mem ?_ (G.asc k)
      intro q r hq hr hlt x hx y hy
      obtain ⟨e1, e2, hne⟩ := kid_start hq
      obtain ⟨g1, g2, gne⟩ := kid_start hr
      rw [e2] at hx
      rw [g2] at hy
      have hxp : ∃ s, (s = [] ∨ ∃ r, s = 47 :: r) ∧ x.path = startK k ++ (nameOf q ++ s) := by
        rcases List.mem_cons.1 hx with rfl | hx
        · exact ⟨[], .inl rfl, by simp [itemAt]⟩
        · obtain ⟨s, e⟩ := walk_path G hne hx
          exact ⟨47 :: s, .inr ⟨s, rfl⟩, by rw [e, ← e1]; simp⟩
      have hyp : ∃ t, y.path = startK k ++ (nameOf r ++ t) := by
        rcases List.mem_cons.1 hy with rfl | hy
        · exact ⟨[], by simp [itemAt]⟩
        · obtain ⟨s, e⟩ := walk_path G gne hy
          exact ⟨47 :: s, by rw [e, ← g1]; simp⟩
      obtain ⟨s, hs, e3⟩ := hxp
      obtain ⟨t, e4⟩ := hyp
      rw [e3, e4, sLt_append]
      obtain ⟨z, hz, rfl, -⟩ := mem_kids.1 hr
      exact lt_ext _ _ _ _ hlt (hw z hz) hs
theorem small_gt {c : UInt8} (h : small c = true) : 47 < c := by
  unfold small at h
  rw [Bool.and_eq_true, decide_eq_true_eq, decide_eq_true_eq] at h
  rw [UInt8.lt_iff_toNat_lt]
  have : (47 : UInt8).toNat = 47 := rfl
  omega
theorem TreeP.letters {os : List ItemR} (h : TreeP os) : ∀ x ∈ nodesOf os, ∀ c ∈ nameOf x.key, 47 < c := by
  intro x hx c hc
  rcases mem_nodes.1 hx with rfl | ⟨a, ha, rfl⟩
  · simp [nameOf] at hc
  · have hw := pathOk_word (h.path ha) (x := nameOf (cutS a.path)) (by
      have e := key_split (cutS_ne a.path)
      generalize nameOf (cutS a.path) = n at *
      rw [e]; simp)
    simp only [wordOk, Bool.and_eq_true] at hw
    exact small_gt (List.all_eq_true.1 hw.2 c hc)
theorem TreeP.depth {os : List ItemR} (h : TreeP os) : ∀ x ∈ nodesOf os, x.key.length ≤ 4 := by
  intro x hx
  rcases mem_nodes.1 hx with rfl | ⟨a, ha, rfl⟩
  · simp
  · have := h.path ha
    simp only [pathOk, Bool.and_eq_true, decide_eq_true_eq] at this
    exact this.1
/-- All items in their order. -/
theorem walk_all {os : List ItemR} (h : TreeP os) : walkI (nodesOf os) 5 [] [] = os := by
  have hs : startK [] = [] := rfl
  have ha := walk_asc h.good h.letters 5 []
  rw [hs] at ha
  refine sorted_one (fun a b : ItemR => sLt a.path b.path = true) (fun a h => by rw [sLt_irrefl] at h; cases h) (fun a b c h g => sLt_trans h g) _ _ ha h.asc fun x => ?_
  have hm := mem_walk h.good 5 [] x
  rw [hs] at hm
  rw [hm]
  constructor
  · rintro ⟨y, hy, ⟨c, h1, _, h3⟩, rfl⟩
    rcases mem_nodes.1 hy with rfl | ⟨o, ho, rfl⟩
    · exact absurd h3.symm h1
    · have : itemOf (nodeOf o) = o := by unfold itemOf nodeOf; rw [join_cut]
      rw [this]; exact ho
  · intro hx
    have hy : nodeOf x ∈ nodesOf os := mem_nodes.2 (.inr ⟨x, hx, rfl⟩)
    refine ⟨nodeOf x, hy, ⟨cutS x.path, cutS_ne _, ?_, rfl⟩, ?_⟩
    · have := h.depth _ hy
      show (cutS x.path).length ≤ 5
      have h4 : (cutS x.path).length ≤ 4 := this
      omega
    · unfold itemOf nodeOf; rw [join_cut]
theorem cnt_all {os : List ItemR} (h : TreeP os) : cntI (nodesOf os) 5 [] = os.length := by
  rw [← len_walk _ 5 [] [], walk_all h]
end Go.Proofs.YtkffejommncinaaDoor
