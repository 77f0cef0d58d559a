/- Walks of the small functions on slices of numbers that the statements use: toIntS, eqIntS, sameInts, markIntS, heldIntS. -/
import Derived.Test.YtapobonfnjgnoaaBase
namespace Go.Proofs.Ytapobonfnjgnoaa
open Go.RowKit

theorem slInt : SliceOf Try.prog 77 3 (.int .i64 0) 1 8 := by refine ⟨by kernel_rfl, by kernel_rfl, rfl, by decide⟩

theorem set_prefix {xs : List Value} {cur : List Value} {k : Nat} {x : Value} (hl : cur.length = xs.length) (hc : cur.take k = xs.take k) (hx : xs[k]? = some x) : (cur.set k x).take (k + 1) = xs.take (k + 1) := by
  obtain ⟨hk, rfl⟩ := List.getElem?_eq_some_iff.1 hx
  rw [List.take_succ_eq_append_getElem (by simp; omega), List.take_succ_eq_append_getElem hk]
  simp [hc, List.take_set_of_le]

/-- are two lists equal from here on -/
def eqFrom : List Int → List Int → Bool
  | x :: xs, y :: ys => if x = y then eqFrom xs ys else false
  | [], _ => true
  | _ :: _, [] => true
theorem eqFrom_is : ∀ (xs ys : List Int), xs.length = ys.length → eqFrom xs ys = decide (xs = ys)
  | [], [], _ => by simp [eqFrom]
  | x :: xs, y :: ys, h => by
    rw [eqFrom, eqFrom_is xs ys (by simpa using h)]
    by_cases e : x = y <;> simp [e]

/-- k, k + 1, .. : what markIntS writes -/
def upTo (k : Int) (n : Nat) : List Int := (List.range n).map fun (i : Nat) => k + (i : Int)
@[simp] theorem length_upTo (k : Int) (n : Nat) : (upTo k n).length = n := by simp [upTo]
theorem upTo_get {k : Int} {n i : Nat} (h : i < n) : (upTo k n)[i]? = some (k + i) := by simp [upTo, h]
theorem upTo_fits {k : Int} {n : Nat} (h0 : 0 ≤ k) (h1 : k + n ≤ 4611686018427387904) : ∀ x ∈ upTo k n, I64 x := by
  intro x hx
  simp only [upTo, List.mem_map, List.mem_range] at hx
  obtain ⟨i, hi, rfl⟩ := hx
  exact I64.mk (by omega) (by omega)

end Go.Proofs.Ytapobonfnjgnoaa
