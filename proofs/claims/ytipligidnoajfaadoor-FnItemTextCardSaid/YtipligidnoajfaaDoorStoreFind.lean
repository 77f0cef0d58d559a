/- The store's find: the id of a block with these bytes. -/
import Derived.Test.YtipligidnoajfaaDoorStoreLaw
import Derived.Maps.RangeWalk
namespace Go.Proofs.YtipligidnoajfaaDoor
open Go.RowKit Go.Maps

section
variable {w : World} {ops : Array Oper} {rest : List Oper} {o : Oper} {a : Act} {Q : Exit → Act → World → Prop}
/-- 'range' over a store: its step. -/
theorem wpList_next_store (hg : o.guard = none) (it : Operand) (hop : o.op = Op.next it false) {ps : List HP} (hsh : ∀ p ∈ ps, ∃ au cu, p.2 = .slice au p.1.bytes.length cu) (b r n : Nat) (left : Lit → Bool) (cnt : Nat)
    (hit : a.eval it = .pointer (some ⟨r, 0, none⟩)) (h : w.ranges Tryd.prog 3 RV b r n (.map (ps.map HP.ent)) left cnt)
    (hDone : cnt = 0 → (∀ kl, left kl = false) → wpList Tryd.prog ops Q rest (a.put o.dst (.tuple #[.bool false])) w)
    (hMore : ∀ (q : HeldR) (au : Option Addr) (cu : Nat) (w' : World) (cnt' : Nat), (q, Value.slice au q.bytes.length cu) ∈ ps → left (.int .i64 q.id) = true → w'.ranges Tryd.prog 3 RV b r n (.map (ps.map HP.ent)) (fun z => left z && !z.sameKey (.int .i64 q.id)) cnt' → cnt' < cnt →
      w.grownBy w' (some r) → w'.heap.size = w.heap.size → (Instr.entry (.pointer (some ⟨r, 0, none⟩))).run Tryd.prog w' = .ok (.tuple #[.int .i64 q.id, .agg #[.int .i64 q.id, .slice au q.bytes.length cu, .int .i64 q.uses]]) w' →
      wpList Tryd.prog ops Q rest (a.put o.dst (.tuple #[.bool true, .int .i64 q.id, .agg #[.int .i64 q.id, .slice au q.bytes.length cu, .int .i64 q.uses]])) w') :
    wpList Tryd.prog ops Q (o :: rest) a w := by
  refine wpList_next_ranges w hg it hop 3 KI RV (Value.int .i64) (fun v : Value => v) (fun key kl hkey => ?_) (fun v y _ => ⟨v, rfl⟩) b r n _ left cnt hit h hDone ?_
  · obtain ⟨x, rfl, -, -⟩ := Maps.keyOf_int_inv Tryd.underlying3 hkey
    exact ⟨x, rfl⟩
  intro x c kl y w' cnt' hkey hlk hv hat hrg hlt hgr hsz hen
  obtain ⟨x', ex, rfl, hwf⟩ := Maps.keyOf_int_inv Tryd.underlying3 hkey
  cases ex
  obtain rfl : y = (.held c, []) := (Option.some.inj hv).symm
  have h0 := hat (.lit (.int .i64 0))
  rw [map_at] at h0
  rcases hp : atP x ps with _ | p
  · rw [hp] at h0; simp at h0
  · rw [hp] at h0
    obtain ⟨hm, rfl⟩ := atP_some hp
    obtain rfl : p.val = c := by simpa using h0
    obtain ⟨q, v⟩ := p
    obtain ⟨au, cu, e⟩ := hsh _ hm
    simp only at e
    subst e
    exact hMore q au cu w' cnt' hm hlk hrg hlt hgr hsz hen
end

theorem Store.bytesOf {S : Nat → Prop} {w : World} {b n : Nat} {ps : List HP} (h : Store S w b n ps) {p : HP} (hp : p ∈ ps) : Ints S w p.2 p.1.bytes := by
  obtain ⟨i, hi⟩ := List.mem_iff_getElem?.1 hp
  obtain ⟨x, hx, ho⟩ := h.2.2.2.2.get (i := i) (f := .nums p.1.bytes) (by simp [hi])
  have hxu : x = p.2 := by simpa [hi] using hx.symm
  subst hxu
  exact (OwnI.nums ho).mono fun _ _ hj => hj.1
theorem Store.shapes {S : Nat → Prop} {w : World} {b n : Nat} {ps : List HP} (h : Store S w b n ps) : ∀ p ∈ ps, ∃ au cu, p.2 = .slice au p.1.bytes.length cu := fun p hp => by
  obtain ⟨a, c, e, -⟩ := Ints.shapeOf (h.bytesOf hp)
  exact ⟨a, c, e⟩

def FindPost (xs : List Int) (ps : List HP) (w : World) (e : Ending) (w' : World) : Prop :=
  New w w' ∧ ((∃ p ∈ ps, p.1.bytes = xs ∧ e = .returned (.int .i64 p.1.id)) ∨ ((∀ p ∈ ps, p.1.bytes ≠ xs) ∧ e = .returned (.int .i64 0)))

end Go.Proofs.YtipligidnoajfaaDoor
