/- sameChanges. -/
import Derived.Test.YtkffejommncinaaDoorChangeKit
namespace Go.Proofs.YtkffejommncinaaDoor
open Go.RowKit

theorem sameChg {S T : Nat → Prop} (x y : ChR) (u t : Value) (w : World) (h : Ints S w u x.item.ids) (g : Ints T w t y.item.ids) :
    Calls Tryd.prog 66 #[.agg #[.int .i64 x.kind, txt x.item.path, .bool x.item.dir, u], .agg #[.int .i64 y.kind, txt y.item.path, .bool y.item.dir, t]] w fun e w' => e = .returned (.bool (decide (x = y))) ∧ New w w' := by
  have h := sameChange x.kind y.kind x.item y.item u t w h g
  rwa [show decide (x.kind = y.kind ∧ x.item = y.item) = decide (x = y) from by
    obtain ⟨k, o⟩ := x
    obtain ⟨k', p⟩ := y
    simp] at h

set_option maxRecDepth 4000 in
set_option maxHeartbeats 400000 in
theorem sameChanges {S T : Nat → Prop} (v u : Value) (xs ys : List ChR) (w : World) (h : Chs S w v xs) (g : Chs T w u ys) :
    Calls Tryd.prog 36 #[v, u] w fun e w' => e = .returned (.bool (decide (xs = ys))) ∧ New w w' := by
  have h0 := h
  have g0 := g
  obtain ⟨-, a, c, rfl, h1, h2, -⟩ := h
  obtain ⟨-, a', c', rfl, g1, g2, -⟩ := g
  unfold maxLen at h2 g2
  by_cases hl : xs.length = ys.length
  · have e0 := eqLs_is xs ys hl
    have E0 := Lib.hid e0
    have hne : (((xs.length : Int) != (ys.length : Int))) = false := by simp [hl]
    have Hl := Lib.hid hl
    have hat := fun (W : World) (n : New w W) (k : Nat) (o : ChR) (ho : xs[k]? = some o) => Chs.at (Recs.new h0 n) ho
    have gat := fun (W : World) (n : New w W) (k : Nat) (o : ChR) (ho : ys[k]? = some o) => Chs.at (Recs.new g0 n) ho
    have Hat := Lib.hid hat
    have Gat := Lib.hid gat
    clear e0 hl hat gat
    go_enter Tryd.func36, Tryd.ntmps36
    go_wp2
    go_loopg [5] xs.length (fun gk i wr => ∃ (k : Nat), gk = xs.length - k ∧ k ≤ xs.length ∧ i = .int .i64 k ∧ New w wr ∧ eqLs ChR xs ys = eqLs ChR (xs.drop k) (ys.drop k))
    case atStart => exact ⟨0, by omega, Nat.zero_le _, rfl, New.refl _, rfl⟩
    case round =>
      obtain ⟨k, hgk, hk, rfl, hw, he⟩ := hrel
      have Hgk := Lib.hid hgk
      have He := Lib.hid he
      clear he hgk
      by_cases hlt : k < xs.length
      · obtain ⟨x, hx⟩ := get_of hlt
        have hlt2 : k < ys.length := by rw [← Hl.out]; exact hlt
        obtain ⟨y, hy⟩ := get_of hlt2
        obtain ⟨b, off, cb, r, e1, -, c0, c1, c2, c3, r2⟩ := Hat.out wr hw k x hx
        obtain ⟨b', off', cb', r', e2, -, d0, d1, d2, d3, s2⟩ := Gat.out wr hw k y hy
        simp only [Value.slice.injEq] at e1 e2
        obtain ⟨rfl, -, rfl⟩ := e1
        obtain ⟨rfl, -, rfl⟩ := e2
        have Hx := Lib.hid (drop_of hx)
        have Hy := Lib.hid (drop_of hy)
        have n3 : New wr (wr.drewN 1) := (New.refl _).drewN 1
        have hcall := sameChg x y r r' (wr.drewN 1) (r2.new n3) (s2.new n3)
        unfold txt at c1 d1 hcall
        have C0 : (wr.drewN 1).cell? ⟨b, off + k * 4, none⟩ = some (.int .i64 x.kind) := c0
        have C1 : (wr.drewN 1).cell? ⟨b, off + k * 4 + 1, none⟩ = some (.string ⟨x.item.path.toArray⟩) := c1
        have C2 : (wr.drewN 1).cell? ⟨b, off + k * 4 + 2, none⟩ = some (.bool x.item.dir) := c2
        have C3 : (wr.drewN 1).cell? ⟨b, off + k * 4 + 3, none⟩ = some (r) := c3
        have D0 : (wr.drewN 1).cell? ⟨b', off' + k * 4, none⟩ = some (.int .i64 y.kind) := d0
        have D1 : (wr.drewN 1).cell? ⟨b', off' + k * 4 + 1, none⟩ = some (.string ⟨y.item.path.toArray⟩) := d1
        have D2 : (wr.drewN 1).cell? ⟨b', off' + k * 4 + 2, none⟩ = some (.bool y.item.dir) := d2
        have D3 : (wr.drewN 1).cell? ⟨b', off' + k * 4 + 3, none⟩ = some (r') := d3
        have Hcall := Lib.hid hcall
        clear hcall hx hy r2 s2 c0 c1 c2 c3 d0 d1 d2 d3
        by_cases hxy : x = y
        · have hd : decide (x = y) = true := by simp [hxy]
          rw [hd] at Hcall
          have Hxy := Lib.hid hxy
          clear hd hxy
          go_wp2
          refine wp_region_still_tail 8 (by kernel_rfl) (by kernel_rfl) ?_
          simp only [List.take_succ_cons, List.take_zero, List.drop_succ_cons, List.drop_zero]
          change wpStill _ _ (wr.drewN 1) (fun a' => wpList _ _ _ _ a' (wr.drewN 1)) _ _
          generalize hw3 : wr.drewN 1 = w3 at *
          have Hw3 := Lib.hid hw3
          clear hw3
          iterate 8 still_step
          refine wpStill_nil ?_
          go_wp2_with fail
          refine Hcall.out.mono ?_
          rintro e w4 ⟨rfl, n4⟩
          go_wp2_with fail
          go_roundg (xs.length - (k + 1))
          case measure => rw [Hgk.out]; omega
          case rel => exact ⟨k + 1, rfl, by omega, by go_num, (hw.trans n3).trans n4, by rw [He.out, Hx.out, Hy.out, eqLs, if_pos Hxy.out]⟩
        · have hd : decide (x = y) = false := by simp [hxy]
          rw [hd] at Hcall
          have Hxy := Lib.hid hxy
          clear hd hxy
          go_wp2
          refine wp_region_still_tail 8 (by kernel_rfl) (by kernel_rfl) ?_
          simp only [List.take_succ_cons, List.take_zero, List.drop_succ_cons, List.drop_zero]
          change wpStill _ _ (wr.drewN 1) (fun a' => wpList _ _ _ _ a' (wr.drewN 1)) _ _
          generalize hw3 : wr.drewN 1 = w3 at *
          have Hw3 := Lib.hid hw3
          clear hw3
          iterate 8 still_step
          refine wpStill_nil ?_
          go_wp2_with fail
          refine Hcall.out.mono ?_
          rintro e w4 ⟨rfl, n4⟩
          go_wp2_with fail
          go_ret
          exact ⟨ret_bool (by rw [← E0.out, He.out, Hx.out, Hy.out, eqLs, if_neg Hxy.out]), (hw.trans n3).trans n4⟩
      · go_wp2
        go_ret
        exact ⟨ret_bool (by rw [← E0.out, He.out, drop_end hlt]; simp [eqLs]), hw⟩
  · have hne : (((xs.length : Int) != (ys.length : Int))) = true := by simp; omega
    have Hl := Lib.hid hl
    clear hl
    go_enter Tryd.func36, Tryd.ntmps36
    go_wp2
    go_ret
    exact ⟨ret_bool (by simp; intro e; exact Hl.out (by rw [e])), New.refl _⟩
end Go.Proofs.YtkffejommncinaaDoor
