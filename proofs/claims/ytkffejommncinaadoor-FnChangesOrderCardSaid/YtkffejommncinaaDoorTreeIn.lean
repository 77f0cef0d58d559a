/- Trees, plain: what is in a directory, at any depth. No program in sight. -/
import Derived.Test.YtkffejommncinaaDoorDropIn
import Derived.Test.YtkffejommncinaaDoorImplDrop
namespace Go.Proofs.YtkffejommncinaaDoor
open Go.RowKit

theorem cutGo_mid : ∀ (cur a b : List UInt8), cutGo cur (a ++ 47 :: b) = cutGo cur a ++ cutGo [] b
  | cur, [], b => by simp [cutGo]
  | cur, c :: a, b => by
    rw [List.cons_append, cutGo, cutGo]
    split
    · rw [cutGo_mid [] a b]; rfl
    · rw [cutGo_mid _ a b]
theorem cutS_mid (a b : List UInt8) : cutS (a ++ 47 :: b) = cutS a ++ cutS b := cutGo_mid [] a b
def fullIn (p : List UInt8) (x : ItemR) : Bool := !(x.path == p) && within x.path p
theorem full_kids {os : List ItemR} (h : TreeP os) {o : ItemR} (ho : o ∈ os) : os.any (fullIn o.path) = !noKids o.path os := by
  have hok := h.path ho
  have hne := pathOk_ne hok
  rw [Bool.eq_iff_iff, List.any_eq_true]
  constructor
  · rintro ⟨x, hx, hf⟩
    unfold fullIn within at hf
    simp only [Bool.and_eq_true, Bool.not_eq_true', beq_eq_false_iff_ne, Bool.or_eq_true, beq_iff_eq, List.isEmpty_iff] at hf
    obtain ⟨hn, -, (h1 | h1) | ⟨-, h1⟩⟩ := hf
    · exact absurd h1 hne
    · exact absurd h1 hn
    · obtain ⟨r, e⟩ := (inDir_iff _ _).1 h1
      have hk : hasKey (nodesOf os) (cutS o.path ++ cutS r) = true := by
        rw [← cutS_mid, ← e]
        exact has_path.2 ⟨x, hx, rfl⟩
      rcases hc : cutS r with _ | ⟨n, t⟩
      · exact absurd hc (cutS_ne r)
      · rw [hc] at hk
        have hk2 : hasKey (nodesOf os) (cutS o.path ++ [n]) = true := h.good.prefix _ (cutS o.path ++ [n]) t rfl (by simpa using hk)
        have hm := kid_iff.2 hk2
        have hz := kids_none h hne
        rcases hnk : noKids o.path os with _ | _
        · rfl
        · rw [hnk] at hz
          have := of_decide_eq_true hz
          rw [List.eq_nil_of_length_eq_zero this] at hm
          simp at hm
  · intro hf
    rcases hnk : noKids o.path os with _ | _
    · have : ¬ (∀ x ∈ os, parentOf x.path ≠ o.path) := fun hall => by
        rw [noKids_iff.2 hall] at hnk; cases hnk
      simp only [ne_eq, Classical.not_forall, Classical.not_not] at this
      obtain ⟨x, hx, e⟩ := this
      refine ⟨x, hx, ?_⟩
      have hxo := h.path hx
      unfold fullIn within
      have hxn : x.path ≠ o.path := fun e2 => parent_ne hxo (e.trans e2.symm)
      have hin : inDir x.path o.path = true := by
        rw [inDir_iff]
        rcases parent_cases hxo with ⟨e1, _⟩ | ⟨n, _, _, e3, _⟩
        · exact absurd (e.symm.trans e1) hne
        · exact ⟨n, by rw [e] at e3; exact e3⟩
      simp [hxo, hok, hin, hxn]
    · rw [hnk] at hf; cases hf
theorem drop_find {os : List ItemR} {p : List UInt8} (h : treeOk os = true) {o : ItemR} (hf : findR os p = some o) : dropR os p = if noKids p os = true then some (dropS p os) else none := by
  unfold findR at hf
  rw [if_pos h] at hf
  unfold dropR
  rw [h, hf]
  rfl
theorem dropR_some {os r : List ItemR} {p : List UInt8} (h : dropR os p = some r) : treeOk os = true ∧ r = dropS p os ∧ treeOk r = true ∧ findR r p = none ∧ r.length + 1 = os.length := by
  unfold dropR at h
  split at h
  · rename_i hc
    obtain rfl := Option.some.inj h
    rw [Bool.and_eq_true, Bool.and_eq_true] at hc
    obtain ⟨hk, hs, hn⟩ := hc
    rcases hf : findI os p with _ | z
    · rw [hf] at hs; cases hs
    · obtain ⟨hz, rfl⟩ := findI_some hf
      have hk2 : treeOk (dropS z.path os) = true := by rw [drop_iff hk hz]; exact hn
      refine ⟨hk, rfl, hk2, ?_, ?_⟩
      · unfold findR
        rw [if_pos hk2, find_none]
        exact fun o ho => (mem_drop.1 ho).2
      · obtain ⟨i, hi⟩ := List.mem_iff_getElem?.1 hz
        have hil := (List.getElem?_eq_some_iff.1 hi).1
        rw [drop_at (treeOk_p hk).1.asc hi]
        simp; omega
  · cases h
end Go.Proofs.YtkffejommncinaaDoor
