/- What a tree that took an item answers. -/
import Derived.Test.YtkffejommncinaaDoorImplPut
import Derived.Test.YtkffejommncinaaDoorTreeIn
namespace Go.Proofs.YtkffejommncinaaDoor
open Go.RowKit

theorem putR_some {os r : List ItemR} {x : ItemR} (h : putR os x = some r) : treeOk os = true ∧ itemOk x = true ∧ r = putS x os ∧ treeOk r = true ∧ findI r x.path = some x := by
  unfold putR at h
  split at h
  · rename_i hc
    split at h
    · rename_i hk
      obtain rfl := Option.some.inj h
      rw [Bool.and_eq_true, Bool.and_eq_true] at hc
      obtain ⟨h1, h2, -⟩ := hc
      have hT := (treeOk_iff.1 h1).1
      exact ⟨h1, h2, rfl, hk, (find_iff (asc_put hT.asc)).2 ⟨(mem_put hT.asc x).2 (.inl rfl), rfl⟩⟩
    · cases h
  · cases h
theorem put_size {os r : List ItemR} {x : ItemR} (h : putR os x = some r) (hall : ∀ o ∈ os, o.size ≤ 1048576) (hx : x.size ≤ 1048576) : ∀ o ∈ r, o.size ≤ 1048576 := by
  obtain ⟨h1, -, rfl, -, -⟩ := putR_some h
  intro o ho
  rcases (mem_put (treeOk_iff.1 h1).1.asc o).1 ho with rfl | ⟨ho, -⟩
  · exact hx
  · exact hall o ho
theorem put_dir {os r : List ItemR} {x y : ItemR} (h : putR os x = some r) (hd : x.dir = true) (hy : y.path = x.path) : putR r y = none := by
  obtain ⟨-, -, -, -, hf⟩ := putR_some h
  unfold putR
  rw [if_neg]
  simp [hy, hf, hd]
theorem drop_put {os : List ItemR} {x : ItemR} (h : Asc os) : dropS x.path (putS x os) = dropS x.path os :=
  sorted_one (fun a b : ItemR => sLt a.path b.path = true) (fun a h => by rw [sLt_irrefl] at h; cases h) (fun a b c h g => sLt_trans h g) _ _ (asc_drop (asc_put h)) (asc_drop h) (fun o => by
    rw [mem_drop, mem_drop, mem_put h]
    constructor
    · rintro ⟨rfl | ⟨h1, h2⟩, h3⟩
      · exact absurd rfl h3
      · exact ⟨h1, h2⟩
    · rintro ⟨h1, h2⟩
      exact ⟨.inr ⟨h1, h2⟩, h2⟩)
theorem put_drop {os r : List ItemR} {x : ItemR} (h : putR os x = some r) (hn : findI os x.path = none) : dropR r x.path = some os := by
  obtain ⟨h1, h2, rfl, h4, hf⟩ := putR_some h
  have hT := (treeOk_iff.1 h1).1
  have hn' := find_none.1 hn
  have hxp : pathOk x.path = true := (treeOk_iff.1 h4).1.path ((mem_put hT.asc x).2 (.inl rfl))
  have hk : noKids x.path (putS x os) = true := by
    rw [noKids_iff]
    intro o ho e
    rcases (mem_put hT.asc o).1 ho with rfl | ⟨ho, -⟩
    · exact parent_ne hxp e
    · rcases (home_iff hT.asc).1 (hT.home o ho) with e2 | ⟨y, hy, e2, -⟩
      · exact pathOk_ne hxp (by rw [← e, e2])
      · exact hn' y hy (by rw [e2, e])
  have hd : dropS x.path os = os := by
    unfold dropS
    rw [List.filter_eq_self]
    intro o ho
    simpa using hn' o ho
  unfold dropR
  rw [h4, hf, hk, drop_put hT.asc, hd]
  rfl
end Go.Proofs.YtkffejommncinaaDoor
