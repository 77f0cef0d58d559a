/- Plain law: the program's KeepNewest and the reference's give the same list. -/
import Derived.Test.YtfcdhmbooblpoaaKeepSpec
namespace Go.Proofs.Ytfcdhmbooblpoaa

/-- ascending -/
theorem tv_sorted : ∀ (xs : List Int) (q : Int), tvFrom q xs = true → xs.Pairwise (· < ·) ∧ ∀ x ∈ xs, q < x
  | [], _, _ => ⟨List.Pairwise.nil, by simp⟩
  | x :: xs, q, h => by
    rw [tvFrom] at h
    split at h
    · simp at h
    · obtain ⟨h1, h2⟩ := tv_sorted xs x h
      refine ⟨List.pairwise_cons.2 ⟨h2, h1⟩, fun y hy => ?_⟩
      simp only [List.mem_cons] at hy
      rcases hy with rfl | hy
      · omega
      · have := h2 y hy; omega
theorem ok_sorted {xs : List Int} (h : timesOk xs = true) : xs.Pairwise (· < ·) := by
  simp only [timesOk, Bool.and_eq_true] at h
  exact (tv_sorted xs _ h.2).1
theorem desc_of_ok {xs : List Int} (h : timesOk xs = true) : desc xs = xs.reverse := by
  refine desc_unique (desc_desc xs) ?_ ((desc_perm xs).trans (List.reverse_perm xs).symm)
  unfold Desc
  rw [List.pairwise_reverse]
  exact (ok_sorted h).imp (by intro a b h; omega)
theorem newest_eq (xs : List Int) (many : Int) : specNewest xs many = newest xs many := by
  unfold specNewest newest
  rcases h : timesOk xs with _ | _
  · simp
  · rcases manyOk many with _ | _
    · simp
    · simp only [Bool.and_self, if_true]
      rw [desc_of_ok h, List.take_reverse, List.reverse_reverse]

theorem newest_len (xs : List Int) (many : Int) : (newest xs many).length ≤ 20 := by
  unfold newest
  split
  · rename_i h
    simp only [Bool.and_eq_true, timesOk, decide_eq_true_eq] at h
    have := (desc_perm xs).length_eq
    simp
    omega
  · simp

end Go.Proofs.Ytfcdhmbooblpoaa
