/- The program's BlockValid. -/
import Derived.Test.YtipligidnoajfaaDoorBytes
namespace Go.Proofs.YtipligidnoajfaaDoor
open Go.RowKit

theorem bytesOk_iff : ∀ (xs : List Int), bytesOk xs = true ↔ ∀ x ∈ xs, 0 ≤ x ∧ x ≤ 255
  | [] => by simp [bytesOk]
  | y :: r => by
    rw [bytesOk]
    split
    · rename_i hc
      simp
      intro h1
      omega
    · rename_i hc
      rw [bytesOk_iff r]
      simp
      intro _
      omega
theorem bytesOk_sub {xs ys : List Int} (h : bytesOk xs = true) (hs : ∀ y ∈ ys, y ∈ xs) : bytesOk ys = true := (bytesOk_iff ys).2 fun y hy => (bytesOk_iff xs).1 h y (hs y hy)
def blockOk (xs : List Int) : Bool := decide (1 ≤ xs.length) && decide (xs.length ≤ 8) && bytesOk xs

set_option maxHeartbeats 400000 in
theorem implBlock {S : Nat → Prop} (v : Value) (xs : List Int) (w : World) (h : Ints S w v xs) :
    Calls Tryd.prog 53 #[v] w fun e w' => e = .returned (.bool (blockOk xs)) ∧ w = w' := by
  have hb := implBytes v xs w h
  have Hb := Lib.hid hb
  obtain ⟨a, c, rfl, h1, ⟨h2, -⟩, -⟩ := h
  unfold maxLen at h2
  clear hb
  by_cases h5 : 1 ≤ xs.length
  · have hd : decide (1 ≤ (xs.length : Int)) = true := by simp; omega
    by_cases h6 : xs.length ≤ 8
    · have hd2 : decide ((xs.length : Int) ≤ 8) = true := by simp; omega
      go_enter Tryd.func53, Tryd.ntmps53
      go_wp2_with fail
      refine Hb.out.mono ?_
      rintro e w1 ⟨rfl, rfl⟩
      go_wp2_with fail
      go_ret
      exact ⟨ret_bool (by simp [blockOk, h5, h6]), rfl⟩
    · have hd2 : decide ((xs.length : Int) ≤ 8) = false := by simp; omega
      go_enter Tryd.func53, Tryd.ntmps53
      go_wp2_with fail
      go_ret
      exact ⟨ret_bool (by simp [blockOk, h6]), rfl⟩
  · have hd : decide (1 ≤ (xs.length : Int)) = false := by simp; omega
    go_enter Tryd.func53, Tryd.ntmps53
    go_wp2_with fail
    go_ret
    exact ⟨ret_bool (by simp [blockOk, h5]), rfl⟩

end Go.Proofs.YtipligidnoajfaaDoor
