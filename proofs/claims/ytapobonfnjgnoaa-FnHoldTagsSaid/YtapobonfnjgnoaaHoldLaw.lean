/- Holds: the plain laws. -/
import Derived.Test.YtapobonfnjgnoaaHoldTags
namespace Go.Proofs.Ytapobonfnjgnoaa
open Go.RowKit

theorem okFrom_of : ∀ (os : List HoldR) (p : Option HoldR), (∀ o ∈ os, holdOk o = true) → os.Pairwise (fun a b => hLt a b = true) → (∀ y, p = some y → ∀ o ∈ os, hLt y o = true) → okFrom p os = true
  | [], _, _, _, _ => rfl
  | x :: r, p, h1, h2, h3 => by
    obtain ⟨g1, g2⟩ := List.pairwise_cons.1 h2
    rw [okFrom, okFrom_of r (some x) (fun o ho => h1 o (List.mem_cons_of_mem _ ho)) g2 (fun y hy o ho => by cases hy; exact g1 o ho), Bool.and_true]
    unfold okAt
    rw [h1 x List.mem_cons_self, Bool.true_and]
    cases p with
    | none => rfl
    | some y => exact h3 y rfl x List.mem_cons_self
theorem holdsOk_of {os : List HoldR} (h1 : os.length ≤ 8) (h2 : ∀ o ∈ os, holdOk o = true) (h3 : os.Pairwise (fun a b => hLt a b = true)) : holdsOk os = true := by
  unfold holdsOk
  rw [decide_eq_true h1, okFrom_of os none h2 h3 (fun y hy => by cases hy)]
  rfl

theorem putR_true {os r : List HoldR} {x : HoldR} (h : putR os x = (r, true)) : holdsOk os = true ∧ holdOk x = true ∧ x ∉ os ∧ os.length < 8 ∧ r = insH x os := by
  unfold putR at h
  split at h
  · rename_i hc
    exact ⟨hc.1, hc.2.1, hc.2.2.1, hc.2.2.2, (Prod.mk.inj h).1.symm⟩
  · cases (Prod.mk.inj h).2
theorem put_ok {os r : List HoldR} {x : HoldR} (h : putR os x = (r, true)) : holdsOk r = true := by
  obtain ⟨h1, h2, h3, h4, rfl⟩ := putR_true h
  obtain ⟨g1, g2, g3⟩ := holdsOk_pw h1
  refine holdsOk_of (by rw [insH_len]; omega) (fun o ho => ?_) (insH_pw g3 h3)
  rcases insH_mem.1 ho with rfl | ho
  · exact h2
  · exact g2 o ho
theorem put_mem {os r : List HoldR} {x : HoldR} (h : putR os x = (r, true)) : x ∈ r := by
  obtain ⟨-, -, -, -, rfl⟩ := putR_true h
  exact insH_mem.2 (.inl rfl)
theorem put_again {os r : List HoldR} {x : HoldR} (h : putR os x = (r, true)) : putR r x = ([], false) := by
  have := put_mem h
  unfold putR
  rw [if_neg (by simp [this])]
theorem put_tag {os r : List HoldR} {x : HoldR} (h : putR os x = (r, true)) : x.tag ∈ tagsR r x.snap := by
  unfold tagsR
  rw [if_pos (put_ok h)]
  exact List.mem_map.2 ⟨x, List.mem_filter.2 ⟨put_mem h, by simp⟩, rfl⟩
theorem put_drop {os r : List HoldR} {x : HoldR} (h : putR os x = (r, true)) : dropR r x = (os, true) ∧ r.length = os.length + 1 := by
  have hok := put_ok h
  have hm := put_mem h
  obtain ⟨h1, h2, h3, h4, rfl⟩ := putR_true h
  obtain ⟨g1, g2, g3⟩ := holdsOk_pw h1
  refine ⟨?_, insH_len x os⟩
  unfold dropR
  rw [if_pos ⟨hok, hm⟩]
  congr 1
  refine sorted_same ((insH_pw g3 h3).filter _) g3 fun y => ?_
  rw [List.mem_filter, insH_mem]
  constructor
  · rintro ⟨h | h, hy⟩
    · simp [h] at hy
    · exact h
  · intro hy
    exact ⟨.inr hy, by simp; intro e; subst e; exact h3 hy⟩
theorem dropR_true {os r : List HoldR} {x : HoldR} (h : dropR os x = (r, true)) : holdsOk os = true ∧ x ∈ os ∧ r = os.filter (fun y => decide (y ≠ x)) := by
  unfold dropR at h
  split at h
  · rename_i hc
    exact ⟨hc.1, hc.2, (Prod.mk.inj h).1.symm⟩
  · cases (Prod.mk.inj h).2
theorem drop_ok {os r : List HoldR} {x : HoldR} (h : dropR os x = (r, true)) : holdsOk r = true := by
  obtain ⟨h1, h2, rfl⟩ := dropR_true h
  obtain ⟨g1, g2, g3⟩ := holdsOk_pw h1
  refine holdsOk_of (Nat.le_trans (List.length_filter_le _ _) g1) (fun o ho => g2 o (List.mem_filter.1 ho).1) (g3.filter _)
theorem drop_again {os r : List HoldR} {x : HoldR} (h : dropR os x = (r, true)) : dropR r x = ([], false) := by
  obtain ⟨h1, h2, rfl⟩ := dropR_true h
  unfold dropR
  rw [if_neg (by simp)]
theorem drop_put {os r : List HoldR} {x : HoldR} (h : dropR os x = (r, true)) : putR r x = (os, true) := by
  have hok := drop_ok h
  obtain ⟨h1, h2, rfl⟩ := dropR_true h
  obtain ⟨g1, g2, g3⟩ := holdsOk_pw h1
  have hnot : x ∉ os.filter (fun y => decide (y ≠ x)) := by simp
  have hlen : (os.filter (fun y => decide (y ≠ x))).length < os.length := by
    refine Nat.lt_of_le_of_ne (List.length_filter_le _ _) fun e => ?_
    have := List.length_filter_eq_length_iff.1 e x h2
    simp at this
  unfold putR
  rw [if_pos ⟨hok, g2 x h2, hnot, by omega⟩]
  congr 1
  refine sorted_same (insH_pw (g3.filter _) hnot) g3 fun y => ?_
  rw [insH_mem, List.mem_filter]
  constructor
  · rintro (h | h)
    · rw [h]; exact h2
    · exact h.1
  · intro hy
    by_cases e : y = x
    · exact .inl e
    · exact .inr ⟨hy, by simpa using e⟩

theorem tagsOf_at {s : List UInt8} {os : List HoldR} {k : Nat} {o : HoldR} (h : os[k]? = some o) (hs : o.snap = s) : (tagsOf s os)[(tagsOf s (os.take k)).length]? = some o.tag := by
  have e : tagsOf s os = tagsOf s (os.take k) ++ tagsOf s (os.drop k) := by
    unfold tagsOf
    conv => lhs; rw [← List.take_append_drop k os, List.filter_append, List.map_append]
  rw [e, List.getElem?_append_right (Nat.le_refl _), Nat.sub_self, drop_of h]
  unfold tagsOf
  rw [List.filter_cons, if_pos (by simp [hs])]
  rfl
theorem tagsOf_rise {s : List UInt8} {os : List HoldR} (h : os.Pairwise (fun a b => hLt a b = true)) : (tagsOf s os).Pairwise (fun a b => sLt a b = true) := by
  unfold tagsOf
  refine List.pairwise_map.2 ((h.filter _).imp_of_mem fun {a b} ha hb hab => ?_)
  have h1 := (List.mem_filter.1 ha).2
  have h2 := (List.mem_filter.1 hb).2
  simp only [decide_eq_true_eq] at h1 h2
  unfold hLt at hab
  rw [h1, h2, sLt_irrefl] at hab
  simpa using hab
end Go.Proofs.Ytapobonfnjgnoaa
