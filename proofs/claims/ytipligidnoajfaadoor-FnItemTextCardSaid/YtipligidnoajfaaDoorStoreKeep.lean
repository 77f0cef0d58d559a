/- StoreKeep and StoreDrop: the program's and the reference's. -/
import Derived.Test.YtipligidnoajfaaDoorStoreSpec
import Derived.Test.YtipligidnoajfaaDoorRecsPut
import Derived.Test.YtipligidnoajfaaDoorHeldMark
import Derived.Deep.RegionLaw
namespace Go.Proofs.YtipligidnoajfaaDoor
open Go.RowKit

theorem atH_of {k : Int} {ps : List HP} (h : rising ps) : (atP k ps = none ∧ atH k (ps.map Prod.fst) = none) ∨ ∃ i p, atP k ps = some p ∧ atH k (ps.map Prod.fst) = some i ∧ ps[i]? = some p ∧ p.1.id = k := by
  rcases hq : atP k ps with _ | p
  · refine .inl ⟨rfl, atH_none fun o ho => ?_⟩
    obtain ⟨p, hp, rfl⟩ := List.mem_map.1 ho
    have := List.find?_eq_none.1 hq p hp
    simpa using this
  · obtain ⟨hm, hid⟩ := atP_some hq
    obtain ⟨i, hi, e⟩ := List.mem_iff_getElem.1 hm
    refine .inr ⟨i, p, rfl, atH_first (o := p.1) (by simp [List.getElem?_eq_getElem hi, e]) hid (fun q hqi x hx => ?_), by rw [List.getElem?_eq_getElem hi, e], hid⟩
    have hr := List.pairwise_iff_getElem.1 h q i (by omega) hi hqi
    rw [List.getElem?_map, List.getElem?_eq_getElem (show q < ps.length by omega)] at hx
    simp at hx
    rw [e] at hr
    rw [← hx]
    omega
theorem setP_set {p : HP} : ∀ {ps : List HP} {i : Nat} {q : HP}, rising ps → ps[i]? = some q → q.1.id = p.1.id → (setP p ps).map Prod.fst = (ps.map Prod.fst).set i p.1
  | [], _, _, _, h, _ => by simp at h
  | a :: r, 0, q, hr, h, h1 => by
    obtain rfl : a = q := by simpa using h
    rw [setP, if_neg (by omega), if_pos h1]; rfl
  | a :: r, i + 1, q, hr, h, h1 => by
    have hq : r[i]? = some q := by simpa using h
    have hlt := (List.pairwise_cons.1 hr).1 q (List.mem_of_getElem? hq)
    rw [setP, if_pos (by omega)]
    simp only [List.map_cons, List.set_cons_succ]
    rw [setP_set (List.pairwise_cons.1 hr).2 hq h1]
theorem filter_all {k : Int} : ∀ {r : List HP}, (∀ a ∈ r, a.1.id ≠ k) → delP k r = r
  | [], _ => rfl
  | a :: r, h => by
    rw [delP, List.filter_cons, if_pos (by simpa using h a List.mem_cons_self)]
    exact congrArg _ (filter_all fun b hb => h b (List.mem_cons_of_mem _ hb))
theorem delP_drop {k : Int} : ∀ {ps : List HP} {i : Nat} {q : HP}, rising ps → ps[i]? = some q → q.1.id = k → (delP k ps).map Prod.fst = (ps.map Prod.fst).take i ++ (ps.map Prod.fst).drop (i + 1)
  | [], _, _, _, h, _ => by simp at h
  | a :: r, 0, q, hr, h, h1 => by
    obtain rfl : a = q := by simpa using h
    have ha := (List.pairwise_cons.1 hr).1
    rw [delP, List.filter_cons, if_neg (by simpa using h1)]
    have := filter_all (k := k) (r := r) (fun b hb => by have := ha b hb; omega)
    rw [delP] at this
    rw [this]; simp
  | a :: r, i + 1, q, hr, h, h1 => by
    have hq : r[i]? = some q := by simpa using h
    have hlt := (List.pairwise_cons.1 hr).1 q (List.mem_of_getElem? hq)
    have ih := delP_drop (List.pairwise_cons.1 hr).2 hq h1
    rw [delP] at ih ⊢
    rw [List.filter_cons, if_pos (by simp; omega)]
    simp only [List.map_cons, List.take_succ_cons, List.drop_succ_cons, List.cons_append, ih]

def KeepPost (r : Option (List HeldR)) (w : World) (e : Ending) (w' : World) : Prop :=
  ∃ v, e = .returned (.tuple #[v, .bool r.isSome]) ∧ OwnHelds (fun j => w.heap.size ≤ j) w' v (r.getD []) ∧ New w w'

theorem keepP_is {k : Int} {ps : List HP} (h : rising ps) (hok : storeOk (ps.map Prod.fst) = true) : (keepP k ps).map (fun q => q.map Prod.fst) = keepH k (ps.map Prod.fst) := by
  rw [keepP, keepH, if_pos hok]
  rcases atH_of (k := k) h with ⟨h1, h2⟩ | ⟨i, p, h1, h2, h3, h4⟩
  · rw [h1, h2]; rfl
  · rw [h1, h2]
    have hg : (ps.map Prod.fst)[i]? = some p.1 := by simp [h3]
    have hu := ((storeOk_all hok).2.1 p.1 (List.mem_of_getElem? hg))
    simp only [hg]
    by_cases hc : 999 ≤ p.1.uses
    · rw [if_pos hc, if_pos (by omega)]; rfl
    · rw [if_neg hc, if_neg (by omega)]
      simp only [Option.map_some]
      rw [setP_set h h3 (by rfl)]
theorem dropP_is {k : Int} {ps : List HP} (h : rising ps) (hok : storeOk (ps.map Prod.fst) = true) : (dropP k ps).map (fun q => q.map Prod.fst) = dropH k (ps.map Prod.fst) := by
  rw [dropP, dropH, if_pos hok]
  rcases atH_of (k := k) h with ⟨h1, h2⟩ | ⟨i, p, h1, h2, h3, h4⟩
  · rw [h1, h2]; rfl
  · rw [h1, h2]
    have hg : (ps.map Prod.fst)[i]? = some p.1 := by simp [h3]
    simp only [hg]
    by_cases hc : p.1.uses = 1
    · rw [if_pos hc, if_pos hc]
      simp only [Option.map_some]
      rw [delP_drop h h3 h4]
    · rw [if_neg hc, if_neg hc]
      simp only [Option.map_some]
      rw [setP_set h h3 (by rfl)]

/-- what the blocks of a store are, and stay -/
def okPs (ps : List HP) : Prop := ∀ p ∈ ps, (0 < p.1.id ∧ p.1.id ≤ 99) ∧ (1 ≤ p.1.uses ∧ p.1.uses ≤ 999) ∧ p.1.bytes.length ≤ 8
theorem okPs_of {ps : List HP} (hok : storeOk (ps.map Prod.fst) = true) : okPs ps := fun p hp => by
  obtain ⟨a1, a2, a3, a4, a5⟩ := (storeOk_all hok).2.1 p.1 (List.mem_map_of_mem hp)
  exact ⟨⟨a1, a2⟩, ⟨a3, a4⟩, (blockOk_len a5).2⟩
theorem okPs_set {ps : List HP} {p : HP} (h : okPs ps) (h1 : (0 < p.1.id ∧ p.1.id ≤ 99) ∧ (1 ≤ p.1.uses ∧ p.1.uses ≤ 999) ∧ p.1.bytes.length ≤ 8) : okPs (setP p ps) := fun q hq => by
  rcases setP_mem hq with rfl | hq
  · exact h1
  · exact h q hq
theorem keepP_ok {k : Int} {ps qs : List HP} (h : okPs ps) (hk : keepP k ps = some qs) : okPs qs := by
  rw [keepP] at hk
  rcases ha : atP k ps with _ | p
  · rw [ha] at hk; simp at hk
  · rw [ha] at hk
    obtain ⟨hm, -⟩ := atP_some ha
    have hp := h p hm
    by_cases hc : 999 ≤ p.1.uses
    · simp [hc] at hk
    · simp only [if_neg hc, Option.some.injEq] at hk
      subst hk
      exact okPs_set h ⟨hp.1, ⟨by show 1 ≤ p.1.uses + 1; omega, by show p.1.uses + 1 ≤ 999; omega⟩, hp.2.2⟩
theorem dropP_ok {k : Int} {ps qs : List HP} (h : okPs ps) (hk : dropP k ps = some qs) : okPs qs := by
  rw [dropP] at hk
  rcases ha : atP k ps with _ | p
  · rw [ha] at hk; simp at hk
  · rw [ha] at hk
    obtain ⟨hm, -⟩ := atP_some ha
    have hp := h p hm
    by_cases hc : p.1.uses = 1
    · simp only [if_pos hc, Option.some.injEq] at hk
      subst hk
      exact fun q hq => h q (List.mem_filter.1 hq).1
    · simp only [if_neg hc, Option.some.injEq] at hk
      subst hk
      exact okPs_set h ⟨hp.1, ⟨by show 1 ≤ p.1.uses - 1; omega, by show p.1.uses - 1 ≤ 999; omega⟩, hp.2.2⟩
theorem okPs.bds {ps : List HP} (h : okPs ps) : (∀ p ∈ ps, I64 p.1.id ∧ 1 ≤ p.1.uses ∧ p.1.uses ≤ 999) ∧ ∀ p ∈ ps, I64 p.1.id ∧ I64 p.1.uses ∧ p.1.bytes.length ≤ 8 :=
  ⟨fun p hp => by obtain ⟨a, b, c⟩ := h p hp; exact ⟨I64.mk (by omega) (by omega), b⟩, fun p hp => by obtain ⟨a, b, c⟩ := h p hp; exact ⟨I64.mk (by omega) (by omega), I64.mk (by omega) (by omega), c⟩⟩

end Go.Proofs.YtipligidnoajfaaDoor
