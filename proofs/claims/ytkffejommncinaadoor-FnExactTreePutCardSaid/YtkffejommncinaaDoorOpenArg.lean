/- The statements' arguments: one Item handed in by value, opened. -/
import Derived.Test.YtkffejommncinaaDoorOpenItems
namespace Go.Proofs.YtkffejommncinaaDoor
open Go.RowKit Go.ChangeShapes Go.WideShapes Go.Deep

/-- An item handed in by value. -/
def ItemArg (W : World) (v : Value) (o : ItemR) : Prop := o.path.length ≤ maxLen ∧ ∃ u, v = .agg #[txt o.path, .bool o.dir, u] ∧ Ints Any W u o.ids

set_option maxRecDepth 4000 in
theorem open_item {H : Type} {enc : TypeId × Value → H} {W : World} {base b2 : Nat} {rg : Reach} {sp : Nat → Bool} {held : Bool} {v : Value} {d : DataW H} {p : List MemPlace}
    (hv : Value.okWide Tryd.prog W rg b2 46 v) (h : DataW.Trod enc Tryd.prog W base sp held 46 v d p) : ∃ o, ItemArg W v o := by
  obtain ⟨cs, rfl, hsz⟩ := okWide_struct Tryd.underlying46 hv
  rw [show Tryd.prog.cellsOf 46 = 3 by kernel_rfl] at hsz
  obtain ⟨fuel, hf⟩ := h
  obtain ⟨cs⟩ := cs
  match cs, hsz with
  | [v0, v1, v2], _ =>
    have hf' : DataW.trod enc Tryd.prog W base sp held fuel 46 [v0, v1, v2] = some (d, p) := by simpa [Value.cells] using hf
    obtain ⟨ys, n', -, -, -, hyl, hfd⟩ := DataW.trod_struct Tryd.underlying46 hf'
    match ys, hyl with
    | [y0, y1, y2], _ =>
      have t0 : DataW.trod enc Tryd.prog W base sp held n' 9 (([v0, v1, v2].drop 0).take (Tryd.prog.cellsOf 9)) = some y0 := hfd 0 _ rfl
      have t1 : DataW.trod enc Tryd.prog W base sp held n' 4 (([v0, v1, v2].drop 1).take (Tryd.prog.cellsOf 4)) = some y1 := hfd 1 _ rfl
      have t2 : DataW.trod enc Tryd.prog W base sp held n' 26 (([v0, v1, v2].drop 2).take (Tryd.prog.cellsOf 26)) = some y2 := hfd 2 _ rfl
      rw [show Tryd.prog.cellsOf 9 = 1 from by kernel_rfl] at t0
      rw [show Tryd.prog.cellsOf 4 = 1 from by kernel_rfl] at t1
      rw [show Tryd.prog.cellsOf 26 = 1 from by kernel_rfl] at t2
      obtain ⟨f0, r0⟩ := fld_txt t0
      obtain ⟨f1, r1⟩ := fld_bool t1
      obtain ⟨f2, r2⟩ := fld_nums t2
      obtain ⟨rfl, hl⟩ := r0
      obtain rfl : v1 = _ := r1
      exact ⟨⟨f0, f1, f2⟩, hl, v2, rfl, r2⟩
end Go.Proofs.YtkffejommncinaaDoor
