/- The statements' arguments, slices of items, opened. -/
import Derived.Test.YtkffejommncinaaDoorOpenRecs
import Derived.Test.YtkffejommncinaaDoorItemsA
namespace Go.Proofs.YtkffejommncinaaDoor
open Go.RowKit Go.ChangeShapes Go.WideShapes Go.Deep

set_option maxRecDepth 4000 in
theorem open_items {H : Type} {enc : TypeId × Value → H} {W : World} {base : Nat} {sp : Nat → Bool} {held : Bool} {a : Option Addr} {len cap : Nat} {d : DataW H} {p : List MemPlace}
    (h : DataW.Trod enc Tryd.prog W base sp held 41 (.slice a len cap) d p) : ∃ os, Items Any W (.slice a len cap) os := by
  obtain ⟨fuel, hf⟩ := h
  rcases open_slice Tryd.underlying41 hf with ⟨hcs, _⟩ | ⟨x, l, c, m, n, D, Pl, hcs, hb, hl, hm, hmm, _, hi⟩
  · simp [Value.cells] at hcs
    obtain ⟨rfl, rfl, rfl⟩ := hcs
    exact ⟨[], by simp [itemFlds], none, 0, rfl, Nat.zero_le _, Nat.zero_le _, .inl rfl⟩
  · simp [Value.cells] at hcs
    obtain ⟨rfl, rfl, rfl⟩ := hcs
    have hsz : Tryd.prog.cellsOf 46 = 3 := by kernel_rfl
    have hlm : len ≤ m := by rw [hmm]; split <;> omega
    by_cases hz : len = 0
    · subst hz
      exact ⟨[], by simp [itemFlds], _, cap, rfl, Nat.zero_le _, hm, .inl rfl⟩
    obtain ⟨b, off, spot⟩ := x
    have hspot : spot = none := by
      obtain ⟨cs', hc, _⟩ := hi 0 (by omega)
      rw [hsz] at hc
      obtain ⟨_, hcl, hat⟩ := World.cells?_some hc
      have g0 := hat 0 (by omega)
      rw [List.getElem?_eq_getElem (by omega)] at g0
      simpa [Addr.add] using World.cell?_spot g0
    subst hspot
    have hall : ∀ i, i < len → ∃ o : ItemR, b < W.heap.size ∧ ∀ r g, o.flds[r]? = some g → ∃ u, W.cell? ⟨b, off + (i * 3 + r), none⟩ = some u ∧ g.reads Any W u := by
      intro i hil
      obtain ⟨cs', hc, ht'⟩ := hi i (by omega)
      rw [hsz] at hc
      obtain ⟨ys, n', -, -, -, hyl, hfd⟩ := DataW.trod_struct Tryd.underlying46 ht'
      obtain ⟨_, hcl, hat⟩ := World.cells?_some hc
      match cs', hcl with
      | [v0, v1, v2], _ =>
        have g0 := hat 0 (by omega)
        have g1 := hat 1 (by omega)
        have g2 := hat 2 (by omega)
        simp only [List.getElem?_cons_zero, List.getElem?_cons_succ] at g0 g1 g2
        rw [addr_add, addr_add] at g0 g1 g2
        match ys, hyl with
        | [y0, y1, y2], _ =>
          have t0 : DataW.trod enc Tryd.prog W base sp held n' 9 (([v0, v1, v2].drop 0).take (Tryd.prog.cellsOf 9)) = some y0 := hfd 0 _ rfl
          have t1 : DataW.trod enc Tryd.prog W base sp held n' 4 (([v0, v1, v2].drop 1).take (Tryd.prog.cellsOf 4)) = some y1 := hfd 1 _ rfl
          have t2 : DataW.trod enc Tryd.prog W base sp held n' 26 (([v0, v1, v2].drop 2).take (Tryd.prog.cellsOf 26)) = some y2 := hfd 2 _ rfl
          rw [show Tryd.prog.cellsOf 9 = 1 from by kernel_rfl] at t0
          rw [show Tryd.prog.cellsOf 4 = 1 from by kernel_rfl] at t1
          rw [show Tryd.prog.cellsOf 26 = 1 from by kernel_rfl] at t2
          obtain ⟨f0, r0⟩ := fld_txt t0
          obtain ⟨f1, r1⟩ := fld_bool t1
          obtain ⟨f2, r2⟩ := fld_nums t2
          refine ⟨⟨f0, f1, f2⟩, World.block_lt_of_cell? W _ g0, fun r g hg => ?_⟩
          match r, hg with
          | 0, hg => simp [ItemR.flds] at hg; subst hg; exact ⟨v0, by rw [← Nat.add_assoc]; exact g0, r0⟩
          | 1, hg => simp [ItemR.flds] at hg; subst hg; exact ⟨v1, by rw [← Nat.add_assoc]; exact g1, r1⟩
          | 2, hg => simp [ItemR.flds] at hg; subst hg; exact ⟨v2, by rw [← Nat.add_assoc]; exact g2, r2⟩
          | n + 3, hg => simp [ItemR.flds] at hg
    obtain ⟨os, hol, ho⟩ := list_of _ len hall
    subst hol
    refine ⟨os, ?_⟩
    have hpos : 0 < os.length := by omega
    obtain ⟨o, hoo⟩ := get_of hpos
    exact recs_of (sz := 3) (fun _ => rfl) (by omega) hl hm (.inr ⟨trivial, (ho 0 o hoo).1, fun q o hq => (ho q o hq).2⟩)

end Go.Proofs.YtkffejommncinaaDoor
