/- A slice of items without its first. -/
import Derived.Test.YtkffejommncinaaDoorItemsA
namespace Go.Proofs.YtkffejommncinaaDoor
open Go.RowKit

theorem Items.tail {S : Nat → Prop} {w : World} {b off c : Nat} {o : ItemR} {r : List ItemR} (h : Items S w (.slice (some ⟨b, off, none⟩) (o :: r).length c) (o :: r)) :
    Items S w (.slice (if c = 1 then some ⟨b, off, none⟩ else some ⟨b, off + 3, none⟩) r.length (c - 1)) r := by
  obtain ⟨h0, a, c', e, h1, h2, h3⟩ := h
  simp only [Value.slice.injEq] at e
  obtain ⟨rfl, -, rfl⟩ := e
  rw [List.length_cons] at h1
  refine ⟨flds_len ItemR.flds 3 (fun _ => rfl) r, _, _, rfl, by omega, by omega, ?_⟩
  by_cases hr : r.length = 0
  · exact .inl hr
  · have hc : ¬ c = 1 := by omega
    rw [if_neg hc]
    rcases h3 with h3 | ⟨b', off', e, hS, hb, hcell⟩
    · simp at h3
    · simp only [Option.some.injEq, Addr.mk.injEq] at e
      obtain ⟨rfl, rfl, -⟩ := e
      refine .inr ⟨b, off + 3, rfl, hS, hb, fun i f hf => ?_⟩
      have hf' : (itemFlds (o :: r))[i + 3]? = some f := by
        show (o.flds ++ itemFlds r)[i + 3]? = some f
        rw [List.getElem?_append_right (by simp [ItemR.flds])]
        simpa [ItemR.flds] using hf
      obtain ⟨u, hu, hR⟩ := hcell (i + 3) f hf'
      exact ⟨u, by rw [show off + 3 + i = off + (i + 3) by omega]; exact hu, hR⟩
end Go.Proofs.YtkffejommncinaaDoor
