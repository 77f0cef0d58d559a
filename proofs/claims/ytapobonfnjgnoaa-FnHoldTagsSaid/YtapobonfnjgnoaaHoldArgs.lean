/- The statements' arguments: slices of holds and a hold, opened. -/
import Derived.Test.YtapobonfnjgnoaaOpenRecs
import Derived.Test.YtapobonfnjgnoaaHoldImpl
namespace Go.Proofs.Ytapobonfnjgnoaa
open Go.RowKit Go.ChangeShapes Go.WideShapes Go.Deep

theorem putR_len (os : List HoldR) (x : HoldR) : (putR os x).1.length ≤ os.length + 1 := by
  unfold putR
  split
  · simp [insH_len]
  · simp
theorem dropR_len (os : List HoldR) (x : HoldR) : (dropR os x).1.length ≤ os.length := by
  unfold dropR
  split
  · exact List.length_filter_le _ _
  · simp

/-- A hold handed in by value. -/
def HoldArg (v : Value) (o : HoldR) : Prop := v = .agg #[txt o.snap, txt o.tag] ∧ HFit o

set_option maxRecDepth 4000 in
theorem open_hold {H : Type} {enc : TypeId × Value → H} {W : World} {base b2 : Nat} {rg : Reach} {sp : Nat → Bool} {held : Bool} {v : Value} {d : DataW H} {p : List MemPlace}
    (hv : Value.okWide Try.prog W rg b2 39 v) (h : DataW.Trod enc Try.prog W base sp held 39 v d p) : ∃ o, HoldArg v o := by
  obtain ⟨cs, rfl, hsz⟩ := okWide_struct Try.underlying39 hv
  rw [show Try.prog.cellsOf 39 = 2 by kernel_rfl] at hsz
  obtain ⟨fuel, hf⟩ := h
  obtain ⟨cs⟩ := cs
  match cs, hsz with
  | [v0, v1], _ =>
    have hf' : DataW.trod enc Try.prog W base sp held fuel 39 [v0, v1] = some (d, p) := by simpa [Value.cells] using hf
    obtain ⟨ys, n', -, -, -, hyl, hfd⟩ := DataW.trod_struct Try.underlying39 hf'
    match ys, hyl with
    | [y0, y1], _ =>
      have t0 : DataW.trod enc Try.prog W base sp held n' 9 (([v0, v1].drop 0).take (Try.prog.cellsOf 9)) = some y0 := hfd 0 _ rfl
      have t1 : DataW.trod enc Try.prog W base sp held n' 9 (([v0, v1].drop 1).take (Try.prog.cellsOf 9)) = some y1 := hfd 1 _ rfl
      rw [show Try.prog.cellsOf 9 = 1 from by kernel_rfl] at t0 t1
      obtain ⟨f0, r0⟩ := fld_txt t0
      obtain ⟨f1, r1⟩ := fld_txt t1
      obtain ⟨rfl, hl⟩ := r0
      obtain ⟨rfl, hl1⟩ := r1
      exact ⟨⟨f0, f1⟩, rfl, hl, hl1⟩

set_option maxRecDepth 4000 in
theorem open_holds {H : Type} {enc : TypeId × Value → H} {W : World} {base : Nat} {sp : Nat → Bool} {held : Bool} {a : Option Addr} {len cap : Nat} {d : DataW H} {p : List MemPlace}
    (h : DataW.Trod enc Try.prog W base sp held 38 (.slice a len cap) d p) : ∃ os, Holds Any W (.slice a len cap) os := by
  obtain ⟨fuel, hf⟩ := h
  rcases open_slice Try.underlying38 hf with ⟨hcs, _⟩ | ⟨x, l, c, m, n, D, Pl, hcs, hb, hl, hm, hmm, _, hi⟩
  · simp [Value.cells] at hcs
    obtain ⟨rfl, rfl, rfl⟩ := hcs
    exact ⟨[], by simp [holdFlds], none, 0, rfl, Nat.zero_le _, Nat.zero_le _, .inl rfl⟩
  · simp [Value.cells] at hcs
    obtain ⟨rfl, rfl, rfl⟩ := hcs
    have hsz : Try.prog.cellsOf 39 = 2 := by kernel_rfl
    have hlm : len ≤ m := by rw [hmm]; split <;> omega
    by_cases hz : len = 0
    · subst hz
      exact ⟨[], by simp [holdFlds], _, cap, rfl, Nat.zero_le _, hm, .inl rfl⟩
    obtain ⟨b, off, spot⟩ := x
    have hspot : spot = none := by
      obtain ⟨cs', hc, _⟩ := hi 0 (by omega)
      rw [hsz] at hc
      obtain ⟨_, hcl, hat⟩ := World.cells?_some hc
      have g0 := hat 0 (by omega)
      rw [List.getElem?_eq_getElem (by omega)] at g0
      simpa [Addr.add] using World.cell?_spot g0
    subst hspot
    have hall : ∀ i, i < len → ∃ o : HoldR, b < W.heap.size ∧ ∀ r g, o.flds[r]? = some g → ∃ u, W.cell? ⟨b, off + (i * 2 + r), none⟩ = some u ∧ g.reads Any W u := by
      intro i hil
      obtain ⟨cs', hc, ht'⟩ := hi i (by omega)
      rw [hsz] at hc
      obtain ⟨ys, n', -, -, -, hyl, hfd⟩ := DataW.trod_struct Try.underlying39 ht'
      obtain ⟨_, hcl, hat⟩ := World.cells?_some hc
      match cs', hcl with
      | [v0, v1], _ =>
        have g0 := hat 0 (by omega)
        have g1 := hat 1 (by omega)
        simp only [List.getElem?_cons_zero, List.getElem?_cons_succ] at g0 g1
        rw [addr_add, addr_add] at g0 g1
        match ys, hyl with
        | [y0, y1], _ =>
          have t0 : DataW.trod enc Try.prog W base sp held n' 9 (([v0, v1].drop 0).take (Try.prog.cellsOf 9)) = some y0 := hfd 0 _ rfl
          have t1 : DataW.trod enc Try.prog W base sp held n' 9 (([v0, v1].drop 1).take (Try.prog.cellsOf 9)) = some y1 := hfd 1 _ rfl
          rw [show Try.prog.cellsOf 9 = 1 from by kernel_rfl] at t0 t1
          obtain ⟨f0, r0⟩ := fld_txt t0
          obtain ⟨f1, r1⟩ := fld_txt t1
          refine ⟨⟨f0, f1⟩, World.block_lt_of_cell? W _ g0, fun r g hg => ?_⟩
          match r, hg with
          | 0, hg => simp [HoldR.flds] at hg; subst hg; exact ⟨v0, by rw [← Nat.add_assoc]; exact g0, r0⟩
          | 1, hg => simp [HoldR.flds] at hg; subst hg; exact ⟨v1, by rw [← Nat.add_assoc]; exact g1, r1⟩
          | n + 2, hg => simp [HoldR.flds] at hg
    obtain ⟨os, hol, ho⟩ := list_of _ len hall
    subst hol
    refine ⟨os, ?_⟩
    have hpos : 0 < os.length := by omega
    obtain ⟨o, hoo⟩ := get_of hpos
    exact recs_of (sz := 2) (fun _ => rfl) (by omega) hl hm (.inr ⟨trivial, (ho 0 o hoo).1, fun q o hq => (ho q o hq).2⟩)

end Go.Proofs.Ytapobonfnjgnoaa
