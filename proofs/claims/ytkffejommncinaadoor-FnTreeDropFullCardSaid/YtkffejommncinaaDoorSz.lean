/- szIntS; lists that are equal place by place. -/
import Derived.Test.YtkffejommncinaaDoorRecs
import Derived.Test.YtkffejommncinaaDoorInts
import Derived.Deep.LoopGhost
import Derived.StillTailTactics
namespace Go.Proofs.YtkffejommncinaaDoor
open Go.RowKit

theorem szInts {S : Nat → Prop} (v : Value) (xs : List Int) (l : Int) (w : World) (h : Ints S w v xs) (hl0 : 0 ≤ l) (hl1 : l ≤ 1048576) :
    Calls Tryd.prog 59 #[v, .int .i64 l] w fun e w' => e = .returned (.int .i64 (if l < xs.length then -1 else l - xs.length)) ∧ w = w' := by
  obtain ⟨a, c, rfl, h1, ⟨h2, -⟩, -, -⟩ := h
  unfold maxLen at h2
  by_cases hlt : l < xs.length
  · rw [if_pos hlt]
    have h5 : l - (xs.length : Int) < 0 := by omega
    go_enter Tryd.func59, Tryd.ntmps59
    go_wp2
    go_ret
    exact ⟨rfl, rfl⟩
  · rw [if_neg hlt]
    have h5 : ¬ (l - (xs.length : Int) < 0) := by omega
    go_enter Tryd.func59, Tryd.ntmps59
    go_wp2
    go_ret
    exact ⟨rfl, rfl⟩



def eqLs (α : Type) [DecidableEq α] : List α → List α → Bool
  | x :: xs, y :: ys => if x = y then eqLs α xs ys else false
  | [], _ => true
  | _ :: _, [] => true
theorem eqLs_is {α : Type} [DecidableEq α] : ∀ (xs ys : List α), xs.length = ys.length → eqLs α xs ys = decide (xs = ys)
  | [], [], _ => by simp [eqLs]
  | x :: xs, y :: ys, h => by
    rw [eqLs, eqLs_is xs ys (by simpa using h)]
    by_cases e : x = y <;> simp [e]

end Go.Proofs.YtkffejommncinaaDoor
