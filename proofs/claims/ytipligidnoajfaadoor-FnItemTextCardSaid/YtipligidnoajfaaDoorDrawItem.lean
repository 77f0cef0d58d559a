/- The draw of a store and an item: DrawItemText. -/
import Derived.Test.YtipligidnoajfaaDoorFileSpec
import Derived.Test.YtipligidnoajfaaDoorDrawStore
import Derived.Test.YtipligidnoajfaaDoorDrawFile
import Derived.Test.YtipligidnoajfaaDoorDrawPath
import Derived.Test.YtipligidnoajfaaDoorItem
namespace Go.Proofs.YtipligidnoajfaaDoor
open Go.RowKit

def DrawnItem (w : World) (e : Ending) (w' : World) : Prop :=
  ∃ v os u o, e = .returned (.tuple #[v, .agg #[txt (ItemR.path o), .bool o.dir, u]]) ∧ o.path.length ≤ 100 ∧ Helds Any w' v os ∧ Ints Any w' u o.ids ∧ New w w'

set_option maxRecDepth 4000 in
/-- What the last store leaves, read as the two results. -/
theorem drawn_end {w w6 : World} {g : Nat} {v : Value} {os : List HeldR} {l : List UInt8} {d : Bool} {u : Value} {xs : List Int} (hl : l.length ≤ 100)
    (hg : w.heap.size ≤ g) (hv : Helds (fun j => j ≠ g) w6 v os) (hu : Ints (fun j => j ≠ g) w6 u xs) (n : New w w6) :
    ∀ w7, Chg (fun k => k = g) w6 w7 → DrawnItem w (.returned (.tuple #[v, .agg #[txt l, .bool d, u]])) w7 := fun w7 c =>
  ⟨v, os, u, ⟨l, d, xs⟩, rfl, hl, (Recs.chg hv c (fun j _ hj e => hj e)).mono (fun _ _ _ => trivial), (hu.chg c (fun j _ hj e => hj e)).mono (fun _ _ _ => trivial), n.trans_chg c (fun j hj e => by omega)⟩

theorem set3 (w : World) (g : Nat) (x y z : Value) : Chg (fun k => k = g) w (((w.setCell ⟨g, 0, none⟩ x).setCell ⟨g, 1, none⟩ y).setCell ⟨g, 2, none⟩ z) := by
  have h0 : Chg (fun k => k = g) w w := Chg.refl _ _
  have h1 := h0.setCell (a := ⟨g, 0, none⟩) x (fun _ => rfl)
  have h2 := h1.setCell (a := ⟨g, 1, none⟩) y (fun _ => rfl)
  exact h2.setCell (a := ⟨g, 2, none⟩) z (fun _ => rfl)

set_option maxRecDepth 4000 in
set_option maxHeartbeats 2000000 in
theorem drawItem {S : Nat → Prop} (v : Value) (bs : List Int) (w : World) (h : Nums .u8 S w v bs) :
    Calls Tryd.prog 13 #[v] w (DrawnItem w) := by
  have n0 : New w (w.alloc (.cells #[.string ⟨#[]⟩, .bool false, .slice none 0 0] 31)) := (New.refl w).alloc _
  have hB : (w.alloc (.cells #[.string ⟨#[]⟩, .bool false, .slice none 0 0] 31)).heap[w.heap.size]? = some (.cells #[.string ⟨#[]⟩, .bool false, .slice none 0 0] 31) := heap_alloc_new w _
  have hop := l6Open v bs _ (h.new n0)
  have Hop := Lib.hid hop
  have N0 := Lib.hid n0
  have HB := Lib.hid hB
  have z0 := n0.size
  have z00 : w.heap.size < (w.alloc (.cells #[.string ⟨#[]⟩, .bool false, .slice none 0 0] 31)).heap.size := by simp
  clear hop n0 hB h
  go_enter Tryd.func13, Tryd.ntmps13
  go_wp2_with fail
  refine Hop.out.mono ?_
  rintro e w1 ⟨g, rfl, hg, hr, n1⟩
  go_wp2_with fail
  refine (l91Store g 0 w1 hr (by omega)).mono ?_
  rintro e w2 ⟨v2, os, rfl, ⟨hl, -⟩, ho, hr2, c2⟩
  have hgl := hr.lt
  have z1 := n1.size
  have z2 := c2.size
  obtain ⟨-, a, c, rfl, -⟩ := id ho
  go_wp2_with fail
  refine (l91File g _ w2 hr2 (by omega)).mono ?_
  rintro e w3 ⟨u, xs, rfl, hxs, hx, hr3, c3⟩
  have ho3 := Recs.chg ho c3 (fun j _ hj e => by omega)
  have z3 := c3.size
  have n3 := (N0.out.trans n1).trans_chg (c2.trans c3) (fun k hk e => by omega)
  have HB3 := Lib.hid (c3.heap (c2.heap (n1.heap HB.out) (fun e => by omega)) (fun e => by omega))
  obtain ⟨au, cu, rfl, -, -⟩ := hx.shape
  have hcall := specFileStore _ _ os xs _ ho3 hx.nums
  have Hcall := Lib.hid hcall
  generalize hgb : w.heap.size = gb at *
  clear hcall ho ho3 hx c2 c3 n1 N0 HB Hop
  rcases hr : fileStoreH xs os with _ | ⟨os', ks⟩
  · have Hr := Lib.hid hr
    clear hr
    go_wp2_with fail
    refine Hcall.out.mono ?_
    intro e w4 hpost
    rw [Hr.out] at hpost
    obtain ⟨v4, t4, rfl, o4, i4, n4⟩ := hpost
    have hr4 := hr3.new n4
    have z4 := n4.size
    clear o4 i4
    go_wp2_with fail
    refine (l91Store g _ w4 hr4 (by omega)).mono ?_
    rintro e w5 ⟨v5, os5, rfl, ⟨hl5, -⟩, ho5, hr5, c5⟩
    have z5 := c5.size
    go_wp2_with fail
    refine (drawPath g _ w5 hr5 (by omega)).mono ?_
    rintro e w6 ⟨l, rfl, hl6, hr6, c6⟩
    have hB6 := c6.heap (c5.heap (n4.heap HB3.out) (fun e => by omega)) (fun e => by omega)
    have ho6 := (Recs.chg ho5 c6 (fun j _ hj e => by omega)).mono (T := fun j => j ≠ gb) (fun j _ hj e => by omega)
    have n6 := (n3.trans n4).trans_chg (c5.trans c6) (fun k hk e => by omega)
    have Fin := drawn_end (d := true) (u := .slice none 0 0) (xs := []) hl6 (by omega) ho6 (Nums.nil _ _ _) n6
    have c10 : w6.cell? ⟨gb, 0, none⟩ = some (.string ⟨#[]⟩) := by simp [World.cell?, hB6]
    have c11 : w6.cell? ⟨gb, 1, none⟩ = some (.bool false) := by simp [World.cell?, hB6]
    have c12 : w6.cell? ⟨gb, 2, none⟩ = some (.slice none 0 0) := by simp [World.cell?, hB6]
    have f10 : w6.frozen? ⟨gb, 0, none⟩ = false := by simp [World.frozen?, hB6]
    have f11 : w6.frozen? ⟨gb, 1, none⟩ = false := by simp [World.frozen?, hB6]
    have f12 : w6.frozen? ⟨gb, 2, none⟩ = false := by simp [World.frozen?, hB6]
    unfold txt at Fin ⊢
    clear hB6 ho6 n6 c6 ho5 c5 n4 n3
    go_wp2_with fail
    have cs : Chg (fun k => k = gb) w6 (((w6.setCell ⟨gb, 0, none⟩ (.string ⟨l.toArray⟩)).setCell ⟨gb, 1, none⟩ (.bool true)).setCell ⟨gb, 2, none⟩ (.slice none 0 0)) := set3 w6 gb _ _ _
    exact bodyPost_ret (v := .tuple #[v5, .agg #[.string ⟨l.toArray⟩, .bool true, .slice none 0 0]]) (by simp [results, Tryd.results13, go_sem, c10, c11, c12]) rfl (Fin _ cs)
  · have Hr := Lib.hid hr
    clear hr
    go_wp2_with fail
    refine Hcall.out.mono ?_
    intro e w4 hpost
    rw [Hr.out] at hpost
    obtain ⟨v4, t4, rfl, o4, i4, n4⟩ := hpost
    have hr4 := hr3.new n4
    have z4 := n4.size
    go_wp2_with fail
    refine (pick g _ 4 _ hr4 (by omega) (by omega) (by omega)).mono ?_
    rintro e wp ⟨t, rfl, ht0, ht1, hrp, cp⟩
    have op := Recs.chg o4 cp (fun j _ hj e => by omega)
    have ip := i4.chg cp (fun j _ hj e => by omega)
    have np := (n3.trans n4).trans_chg cp (fun k hk e => by omega)
    have zp := cp.size
    have HBp := Lib.hid (cp.heap (n4.heap HB3.out) (fun e => by omega))
    clear o4 i4 cp n3 n4 hr4
    by_cases hq : t = 0
    · subst hq
      go_wp2_with fail
      refine (l91Store g _ wp hrp (by omega)).mono ?_
      rintro e w5 ⟨v5, os5, rfl, ⟨hl5, -⟩, ho5, hr5, c5⟩
      have z5 := c5.size
      go_wp2_with fail
      refine (drawPath g _ w5 hr5 (by omega)).mono ?_
      rintro e w6 ⟨l, rfl, hl6, hr6, c6⟩
      have hB6 := c6.heap (c5.heap HBp.out (fun e => by omega)) (fun e => by omega)
      have ho6 := (Recs.chg ho5 c6 (fun j _ hj e => by omega)).mono (T := fun j => j ≠ gb) (fun j _ hj e => by omega)
      have n6 := np.trans_chg (c5.trans c6) (fun k hk e => by omega)
      have Fin := drawn_end (d := true) (u := .slice none 0 0) (xs := []) hl6 (by omega) ho6 (Nums.nil _ _ _) n6
      have c10 : w6.cell? ⟨gb, 0, none⟩ = some (.string ⟨#[]⟩) := by simp [World.cell?, hB6]
      have c11 : w6.cell? ⟨gb, 1, none⟩ = some (.bool false) := by simp [World.cell?, hB6]
      have c12 : w6.cell? ⟨gb, 2, none⟩ = some (.slice none 0 0) := by simp [World.cell?, hB6]
      have f10 : w6.frozen? ⟨gb, 0, none⟩ = false := by simp [World.frozen?, hB6]
      have f11 : w6.frozen? ⟨gb, 1, none⟩ = false := by simp [World.frozen?, hB6]
      have f12 : w6.frozen? ⟨gb, 2, none⟩ = false := by simp [World.frozen?, hB6]
      unfold txt at Fin ⊢
      clear hB6 ho6 n6 c6 ho5 c5 np op ip
      go_wp2_with fail
      have cs : Chg (fun k => k = gb) w6 (((w6.setCell ⟨gb, 0, none⟩ (.string ⟨l.toArray⟩)).setCell ⟨gb, 1, none⟩ (.bool true)).setCell ⟨gb, 2, none⟩ (.slice none 0 0)) := set3 w6 gb _ _ _
      exact bodyPost_ret (v := .tuple #[v5, .agg #[.string ⟨l.toArray⟩, .bool true, .slice none 0 0]]) (by simp [results, Tryd.results13, go_sem, c10, c11, c12]) rfl (Fin _ cs)
    · have hq' : (t == 0) = false := by simp [hq]
      go_wp2_with fail
      refine (drawPath g _ wp hrp (by omega)).mono ?_
      rintro e w6 ⟨l, rfl, hl6, hr6, c6⟩
      have hB6 := c6.heap HBp.out (fun e => by omega)
      have ho6 := (Recs.chg op c6 (fun j _ hj e => by omega)).mono (T := fun j => j ≠ gb) (fun j _ hj e => by omega)
      have hi6 := (ip.chg c6 (fun j _ hj e => by omega)).mono (T := fun j => j ≠ gb) (fun j _ hj e => by omega)
      have n6 := np.trans_chg c6 (fun k hk e => by omega)
      have Fin := drawn_end (d := false) hl6 (by omega) ho6 hi6 n6
      obtain ⟨a4, c4, rfl, -, -⟩ := id hi6
      have c10 : w6.cell? ⟨gb, 0, none⟩ = some (.string ⟨#[]⟩) := by simp [World.cell?, hB6]
      have c11 : w6.cell? ⟨gb, 1, none⟩ = some (.bool false) := by simp [World.cell?, hB6]
      have c12 : w6.cell? ⟨gb, 2, none⟩ = some (.slice none 0 0) := by simp [World.cell?, hB6]
      have f10 : w6.frozen? ⟨gb, 0, none⟩ = false := by simp [World.frozen?, hB6]
      have f11 : w6.frozen? ⟨gb, 1, none⟩ = false := by simp [World.frozen?, hB6]
      have f12 : w6.frozen? ⟨gb, 2, none⟩ = false := by simp [World.frozen?, hB6]
      unfold txt at Fin ⊢
      clear hB6 ho6 hi6 n6 c6 np op ip
      go_wp2_with fail
      have cs : Chg (fun k => k = gb) w6 (((w6.setCell ⟨gb, 0, none⟩ (.string ⟨l.toArray⟩)).setCell ⟨gb, 1, none⟩ (.bool false)).setCell ⟨gb, 2, none⟩ (.slice a4 ks.length c4)) := set3 w6 gb _ _ _
      exact bodyPost_ret (v := .tuple #[v4, .agg #[.string ⟨l.toArray⟩, .bool false, .slice a4 ks.length c4]]) (by simp [results, Tryd.results13, go_sem, c10, c11, c12]) rfl (Fin _ cs)
end Go.Proofs.YtipligidnoajfaaDoor
