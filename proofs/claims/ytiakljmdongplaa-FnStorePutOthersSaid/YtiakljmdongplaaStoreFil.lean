/- Blocks that are put together from a list. -/
import Derived.Test.YtiakljmdongplaaStoreCalls
namespace Go.Proofs.Ytiakljmdongplaa
open Go.RowKit

/-- row v, at block bo, holds the blocks os; their bytes lie below lo -/
def FilSt (lo bo : Nat) (w0 : World) (os : List HeldR) (wr : World) (v : Value) : Prop :=
  ∃ us, Row 49 3 (fun j => j = bo ∨ w0.heap.size ≤ j) wr v os.length us ∧ Reads (fun j => j < lo) wr us (heldFlds os) ∧ Chg (fun j => j = bo) w0 wr
theorem FilSt.more {lo bo : Nat} {w0 wr w' : World} {os : List HeldR} {v v' : Value} {o : HeldR} {us ts : List Value} (hlo : lo ≤ bo) (hl0 : lo ≤ w0.heap.size) (h1 : Row 49 3 (fun j => j = bo ∨ w0.heap.size ≤ j) wr v os.length us) (h2 : Reads (fun j => j < lo) wr us (heldFlds os)) (h3 : Chg (fun j => j = bo) w0 wr)
    (ht : Reads (fun j => j < lo) wr ts o.flds) (g1 : Row 49 3 (fun k => v.ownBlock = some k ∨ wr.heap.size < k) w' v' (os.length + 1) (us ++ ts)) (g2 : Chg (fun k => v.ownBlock = some k) wr w') : FilSt lo bo w0 (os ++ [o]) w' v' := by
  refine ⟨us ++ ts, ?_, ?_, ?_⟩
  · rw [List.length_append]
    exact g1.mono fun j _ hj => by
      rcases hj with hj | hj
      · exact h1.2 j hj
      · exact .inr (by have := h3.size; omega)
  · rw [heldFlds_snoc]
    refine (h2.append ht).chg g2 fun j _ hj e => ?_
    rcases h1.2 j e with h | h <;> omega
  · exact h3.step g2 fun j hj e => by
      rcases h1.2 j e with h | h
      · exact h
      · omega
theorem FilSt.mk' {lo bo : Nat} {w0 wr : World} {os : List HeldR} {v : Value} {us : List Value} (q1 : Row 49 3 (fun j => j = bo ∨ w0.heap.size ≤ j) wr v os.length us) (q2 : Reads (fun j => j < lo) wr us (heldFlds os)) (q3 : Chg (fun j => j = bo) w0 wr) : FilSt lo bo w0 os wr v := ⟨us, q1, q2, q3⟩
theorem FilSt.chg {lo bo : Nat} {w0 wr : World} {os : List HeldR} {v : Value} (h : FilSt lo bo w0 os wr v) : Chg (fun j => j = bo) w0 wr := by
  obtain ⟨_, _, _, h⟩ := h; exact h
theorem FilSt.helds {lo bo : Nat} {w0 wr : World} {os : List HeldR} {v : Value} (h : FilSt lo bo w0 os wr v) : Helds (fun j => (j = bo ∨ w0.heap.size ≤ j) ∨ j < lo) wr v os := by
  obtain ⟨us, h1, h2, -⟩ := h
  exact h2.recs h1
theorem FilSt.init {lo bo : Nat} {w0 : World} (h : Row 49 3 (fun j => j = bo) w0 (.slice (some ⟨bo, 0, none⟩) 0 0) 0 []) : FilSt lo bo w0 [] w0 (.slice (some ⟨bo, 0, none⟩) 0 0) :=
  ⟨[], h.mono (fun j _ hj => .inl hj), ⟨rfl, by simp⟩, Chg.refl _ _⟩
theorem filter_take {α : Type} (f : α → Bool) {os : List α} {i : Nat} {o : α} (ho : os[i]? = some o) : (os.take (i + 1)).filter f = (os.take i).filter f ++ (if f o then [o] else []) := by
  obtain ⟨hi, e⟩ := List.getElem?_eq_some_iff.1 ho
  rw [List.take_succ_eq_append_getElem hi, List.filter_append, e]
  simp [List.filter_cons]
end Go.Proofs.Ytiakljmdongplaa
