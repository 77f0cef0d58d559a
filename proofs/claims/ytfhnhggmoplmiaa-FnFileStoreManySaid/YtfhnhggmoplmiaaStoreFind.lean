/- The store's find: the id of a block with these bytes. -/
import Derived.Test.YtfhnhggmoplmiaaStoreLaw
import Derived.Maps.RangeWalk
namespace Go.Proofs.Ytfhnhggmoplmiaa
open Go.RowKit Go.Maps

section
variable {w : World} {ops : Array Oper} {rest : List Oper} {o : Oper} {a : Act} {Q : Exit → Act → World → Prop}
/-- 'range' over a store: its step. -/
theorem wpList_next_store (hg : o.guard = none) (it : Operand) (hop : o.op = Op.next it false) {ps : List HP} (hsh : ∀ p ∈ ps, ∃ au cu, p.2 = .slice au p.1.bytes.length cu) (b r n : Nat) (left : Lit → Bool) (cnt : Nat)
    (hit : a.eval it = .pointer (some ⟨r, 0, none⟩)) (h : w.ranges Try.prog 3 RV b r n (.map (ps.map HP.ent)) left cnt)
    (hDone : cnt = 0 → (∀ kl, left kl = false) → wpList Try.prog ops Q rest (a.put o.dst (.tuple #[.bool false])) w)
    (hMore : ∀ (q : HeldR) (au : Option Addr) (cu : Nat) (w' : World) (cnt' : Nat), (q, Value.slice au q.bytes.length cu) ∈ ps → left (.int .i64 q.id) = true → w'.ranges Try.prog 3 RV b r n (.map (ps.map HP.ent)) (fun z => left z && !z.sameKey (.int .i64 q.id)) cnt' → cnt' < cnt →
      w.grownBy w' (some r) → w'.heap.size = w.heap.size → (Instr.entry (.pointer (some ⟨r, 0, none⟩))).run Try.prog w' = .ok (.tuple #[.int .i64 q.id, .agg #[.int .i64 q.id, .slice au q.bytes.length cu, .int .i64 q.uses]]) w' →
      wpList Try.prog ops Q rest (a.put o.dst (.tuple #[.bool true, .int .i64 q.id, .agg #[.int .i64 q.id, .slice au q.bytes.length cu, .int .i64 q.uses]])) w') :
    wpList Try.prog ops Q (o :: rest) a w := by
  refine wpList_next_ranges w hg it hop 3 KI RV (Value.int .i64) (fun v : Value => v) (fun key kl hkey => ?_) (fun v y _ => ⟨v, rfl⟩) b r n _ left cnt hit h hDone ?_
  · obtain ⟨x, rfl, -, -⟩ := Maps.keyOf_int_inv Try.underlying3 hkey
    exact ⟨x, rfl⟩
  intro x c kl y w' cnt' hkey hlk hv hat hrg hlt hgr hsz hen
  obtain ⟨x', ex, rfl, hwf⟩ := Maps.keyOf_int_inv Try.underlying3 hkey
  cases ex
  obtain rfl : y = (.held c, []) := (Option.some.inj hv).symm
  have h0 := hat (.lit (.int .i64 0))
  rw [map_at] at h0
  rcases hp : atP x ps with _ | p
  · rw [hp] at h0; simp at h0
  · rw [hp] at h0
    obtain ⟨hm, rfl⟩ := atP_some hp
    obtain rfl : p.val = c := by simpa using h0
    obtain ⟨q, v⟩ := p
    obtain ⟨au, cu, e⟩ := hsh _ hm
    simp only at e
    subst e
    exact hMore q au cu w' cnt' hm hlk hrg hlt hgr hsz hen
end

theorem Store.bytesOf {S : Nat → Prop} {w : World} {b n : Nat} {ps : List HP} (h : Store S w b n ps) {p : HP} (hp : p ∈ ps) : Ints S w p.2 p.1.bytes := by
  obtain ⟨i, hi⟩ := List.mem_iff_getElem?.1 hp
  obtain ⟨x, hx, ho⟩ := h.2.2.2.2.get (i := i) (f := .nums p.1.bytes) (by simp [hi])
  have hxu : x = p.2 := by simpa [hi] using hx.symm
  subst hxu
  exact (OwnI.nums ho).mono fun _ _ hj => hj.1
theorem Store.shapes {S : Nat → Prop} {w : World} {b n : Nat} {ps : List HP} (h : Store S w b n ps) : ∀ p ∈ ps, ∃ au cu, p.2 = .slice au p.1.bytes.length cu := fun p hp => by
  obtain ⟨a, c, e, -⟩ := Ints.shapeOf (h.bytesOf hp)
  exact ⟨a, c, e⟩

def FindPost (xs : List Int) (ps : List HP) (w : World) (e : Ending) (w' : World) : Prop :=
  New w w' ∧ ((∃ p ∈ ps, p.1.bytes = xs ∧ e = .returned (.int .i64 p.1.id)) ∨ ((∀ p ∈ ps, p.1.bytes ≠ xs) ∧ e = .returned (.int .i64 0)))

set_option maxRecDepth 4000 in
set_option maxHeartbeats 1000000 in
theorem implFind {S T : Nat → Prop} (b n : Nat) (ps : List HP) (u : Value) (xs : List Int) (w : World) (h : Store S w b n ps) (g : Ints T w u xs) :
    Calls Try.prog 79 #[.map (some b), u] w (FindPost xs ps w) := by
  have hst := fun (W : World) (nw : New w W) => h.new nw
  have Hst := Lib.hid hst
  have hxs := fun (W : World) (nw : New w W) => g.new nw
  have Hxs := Lib.hid hxs
  have hsh := h.shapes
  have Hsh := Lib.hid hsh
  have hris := h.2.2.2.1
  have Hris := Lib.hid hris
  have hb := h.2.1
  obtain ⟨au, cu, rfl, -, -, -, -⟩ := g
  clear hst hxs hsh hris
  go_enter Try.func79, Try.ntmps79
  go_wp2_with (first | (at_range; refine wpList_range_own _ rfl _ 57 rfl 3 49 KI under_store RV b n (.map (ps.map HP.ent)) rfl h.2.2.1 ?_; intro w0 hrg0 hg0 hs0) | fail)
  go_frame
  have n0 : New w w0 := (New.refl w).grown hg0 (by simp)
  have hall : ∀ p ∈ ps, (Maps.has (DataW.map (ps.map HP.ent))) (.int .i64 p.1.id) = false → p.1.bytes ≠ xs := by
    intro p hp hf
    rw [map_has] at hf
    have he : atP p.1.id ps = none := by
      rcases e : atP p.1.id ps with _ | q
      · rfl
      · rw [e] at hf; simp at hf
    have := List.find?_eq_none.1 he p hp
    simp at this
  have Hall := Lib.hid hall
  clear hall h hg0
  go_loopw [] (fun wr => ∃ left cnt, wr.ranges Try.prog 3 RV b w.heap.size n (.map (ps.map HP.ent)) left cnt ∧ New w wr ∧ ∀ p ∈ ps, left (.int .i64 p.1.id) = false → p.1.bytes ≠ xs) (fun wr => wr.rangeLeft b w.heap.size)
  case atStart => exact ⟨_, _, hrg0, n0, Hall.out⟩
  case round =>
    obtain ⟨left, cnt, hrg, hn, hl⟩ := hrel
    have Hl := Lib.hid hl
    clear hl hrg0
    go_wp2_with (first | (at_next; refine wpList_next_store rfl _ rfl Hsh.out b w.heap.size n left cnt rfl hrg ?_ ?_) | fail)
    · intro hc0 hl0
      go_wp2_with fail
      go_ret
      exact ⟨hn, .inr ⟨fun p hp => Hl.out p hp (hl0 _), rfl⟩⟩
    · intro q aq cq w1 cnt1 hm hlk hrg1 hlt hg1 hs1 hen
      have c1 : Chg (fun j => j = w.heap.size) _ w1 := chg_of_grown hg1
      have n1 : New w w1 := hn.trans_chg c1 (fun j hj e => by omega)
      have hcall := fun (W : World) (nw : New w W) => slEqual (.slice aq q.bytes.length cq) (.slice au xs.length cu) q.bytes xs W ((Hst.out W nw).bytesOf hm) (Hxs.out W nw)
      have Hcall := Lib.hid hcall
      clear hcall hg1 c1 hlk
      have c0 : (w1.alloc (.cells #[.int .i64 q.id, .slice aq q.bytes.length cq, .int .i64 q.uses] 49)).cell? ⟨w1.heap.size, 1, none⟩ = some (.slice aq q.bytes.length cq) := by rw [cell_alloc]; rfl
      go_wp2_with fail
      refine (Hcall.out _ (n1.alloc _)).mono ?_
      by_cases hq : q.bytes = xs
      · rw [decide_eq_true hq]
        rintro e w2 ⟨rfl, d2⟩
        go_wp2_with fail
        go_ret
        exact ⟨(n1.alloc _).trans d2.new, .inl ⟨_, hm, hq, rfl⟩⟩
      · rw [decide_eq_false hq]
        rintro e w2 ⟨rfl, d2⟩
        have Hq := Lib.hid hq
        clear hq
        have n2 := (n1.alloc (.cells #[.int .i64 q.id, .slice aq q.bytes.length cq, .int .i64 q.uses] 49)).trans d2.new
        have hrg2 : w2.ranges Try.prog 3 RV b w.heap.size n (.map (ps.map HP.ent)) (fun z => left z && !z.sameKey (.int .i64 q.id)) cnt1 := by
          obtain ⟨m, rfl⟩ := d2
          exact hrg1.alloc _
        go_wp2_with fail
        go_roundw
        case rel =>
          refine ⟨_, _, hrg2, n2, fun p hp hf => ?_⟩
          simp only [Bool.and_eq_false_iff, Bool.not_eq_false'] at hf
          rcases hf with hf | hf
          · exact Hl.out p hp hf
          · have e : p.1.id = q.id := by simpa [Lit.sameKey] using hf
            obtain ⟨i, hi, ei⟩ := List.mem_iff_getElem.1 hp
            obtain ⟨j, hj, ej⟩ := List.mem_iff_getElem.1 hm
            have hr := List.pairwise_iff_getElem.1 Hris.out
            have hij : i = j := by
              rcases Nat.lt_trichotomy i j with h | h | h
              · have := hr i j hi hj h; rw [ei, ej] at this; simp only at this; omega
              · exact h
              · have := hr j i hj hi h; rw [ei, ej] at this; simp only at this; omega
            subst hij
            rw [ei] at ej
            rw [ej]
            exact Hq.out
        case measure => rw [hrg2.left_eq, hrg.left_eq]; omega
end Go.Proofs.Ytfhnhggmoplmiaa
