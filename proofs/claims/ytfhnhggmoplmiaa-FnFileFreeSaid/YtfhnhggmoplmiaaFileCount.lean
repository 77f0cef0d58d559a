/- How often an id stands in a list. -/
import Derived.Test.YtfhnhggmoplmiaaFileCalls
namespace Go.Proofs.Ytfhnhggmoplmiaa
open Go.RowKit

theorem countI_le (k : Int) (ks : List Int) : countI k ks ≤ ks.length := by
  unfold countI
  have := List.length_filter_le (fun x => decide (x = k)) ks
  omega
theorem countI_take {k x : Int} {ks : List Int} {m : Nat} (h : ks[m]? = some x) : countI k (ks.take (m + 1)) = countI k (ks.take m) + (if k = x then 1 else 0) := by
  obtain ⟨hm, e⟩ := List.getElem?_eq_some_iff.1 h
  unfold countI
  rw [List.take_succ_eq_append_getElem hm, List.filter_append, e]
  by_cases hk : k = x
  · rw [if_pos hk, List.filter_cons, if_pos (by simp [hk])]; simp
  · rw [if_neg hk, List.filter_cons, if_neg (by simp; exact fun e => hk e.symm)]; simp
end Go.Proofs.Ytfhnhggmoplmiaa
