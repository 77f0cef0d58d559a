/- Slices of items: szItemS, eqItemS, sameTree, toItemS. -/
import Derived.Test.YtkffejommncinaaDoorItemT
import Derived.Test.YtkffejommncinaaDoorTreeKit
namespace Go.Proofs.YtkffejommncinaaDoor
open Go.RowKit

def itemFlds (os : List ItemR) : List Fld := os.flatMap ItemR.flds
/-- a slice that reads as items -/
def Items (S : Nat → Prop) (w : World) (v : Value) (os : List ItemR) : Prop := Recs 3 S w v os.length (itemFlds os)
def OwnItems (S : Nat → Prop) (w : World) (v : Value) (os : List ItemR) : Prop := OwnRecs 28 3 S w v os.length (itemFlds os)
theorem Items.at {S : Nat → Prop} {w : World} {v : Value} {os : List ItemR} (h : Items S w v os) {i : Nat} {o : ItemR} (ho : os[i]? = some o) :
    ∃ b off c u, v = .slice (some ⟨b, off, none⟩) os.length c ∧ b < w.heap.size ∧ w.cell? ⟨b, off + i * 3, none⟩ = some (txt o.path) ∧ w.cell? ⟨b, off + i * 3 + 1, none⟩ = some (.bool o.dir) ∧ w.cell? ⟨b, off + i * 3 + 2, none⟩ = some u ∧
      o.path.length ≤ maxLen ∧ Ints S w u o.ids := by
  obtain ⟨b, off, c, rfl, hS, hb, hc⟩ := h.head (by have := (List.getElem?_eq_some_iff.1 ho).1; omega)
  have g := fun j hj => flds_get ItemR.flds 3 (fun _ => rfl) os (j := j) ho hj
  obtain ⟨u0, c0, r0, l0⟩ := hc (i * 3 + 0) (.txt o.path) (g 0 (by omega))
  obtain ⟨u1, c1, r1⟩ := hc (i * 3 + 1) (.bool o.dir) (g 1 (by omega))
  obtain ⟨u2, c2, r2⟩ := hc (i * 3 + 2) (.nums o.ids) (g 2 (by omega))
  subst r0
  have r1' : u1 = .bool o.dir := r1
  subst r1'
  exact ⟨b, off, c, u2, rfl, hb, c0, c1, c2, l0, r2⟩

def SzPostI (os : List ItemR) (w : World) (e : Ending) (w' : World) : Prop :=
  ∃ r : Int, e = .returned (.int .i64 r) ∧ r ≤ 1048576 ∧ (0 ≤ r → os.length ≤ 1048576 ∧ ∀ o ∈ os, o.size ≤ 1048576) ∧ New w w'

set_option maxRecDepth 4000 in
set_option maxHeartbeats 400000 in
theorem szItems {S : Nat → Prop} (v : Value) (os : List ItemR) (w : World) (h : Items S w v os) :
    Calls Tryd.prog 24 #[v, .int .i64 1048576] w (SzPostI os w) := by
  have h0 := h
  obtain ⟨-, a, c, rfl, h1, h2, -⟩ := h
  unfold maxLen at h2
  by_cases hl : 1048576 < os.length
  · have h5 : (1048576 : Int) - (os.length : Int) < 0 := by omega
    go_enter Tryd.func24, Tryd.ntmps24
    go_wp2
    go_ret
    exact ⟨-1, rfl, by omega, fun h => by omega, New.refl _⟩
  · have h5 : ¬ ((1048576 : Int) - (os.length : Int) < 0) := by omega
    have hat := fun (W : World) (n : New w W) (k : Nat) (o : ItemR) (ho : os[k]? = some o) => Items.at (Recs.new h0 n) ho
    have Hat := Lib.hid hat
    clear hat
    go_enter Tryd.func24, Tryd.ntmps24
    go_wp2
    go_loopg [1, 5] os.length (fun gk s1 s5 wr => ∃ (k : Nat) (r : Int), gk = os.length - k ∧ k ≤ os.length ∧ s5 = .int .i64 k ∧ s1 = .int .i64 r ∧ 0 ≤ r ∧ r ≤ 1048576 ∧ (∀ o ∈ os.take k, o.size ≤ 1048576) ∧ New w wr)
    case atStart => exact ⟨0, 1048576 - os.length, by omega, by omega, rfl, rfl, by omega, by omega, by simp, New.refl _⟩
    case round =>
      obtain ⟨k, r, hgk, hk, rfl, rfl, hr0, hr1, hall, hn⟩ := hrel
      have Hgk := Lib.hid hgk
      have Hall := Lib.hid hall
      clear hgk hall
      by_cases hlt : k < os.length
      · obtain ⟨o, ho⟩ := get_of hlt
        obtain ⟨b, off, c', u, e1, hb, c0, c1, c2, lp, r2⟩ := Hat.out wr hn k o ho
        simp only [Value.slice.injEq] at e1
        obtain ⟨rfl, -, rfl⟩ := e1
        have hsz := szItem o u r wr r2 lp hr0 hr1
        unfold txt at c0 hsz
        have Hsz := Lib.hid hsz
        have Ho := Lib.hid ho
        clear hsz ho
        go_wp2_with fail
        refine Hsz.out.mono ?_
        by_cases hb1 : r < o.size
        · rw [if_pos hb1]
          rintro e w1 ⟨rfl, n1⟩
          go_wp2_with fail
          go_ret
          exact ⟨-1, rfl, by omega, fun h => by omega, hn.trans n1⟩
        · rw [if_neg hb1]
          rintro e w1 ⟨rfl, n1⟩
          have hge : ¬ (r - (o.size : Int) < 0) := by omega
          have hos : o.size ≤ 1048576 := by omega
          go_wp2_with fail
          go_roundg (os.length - (k + 1))
          case measure => rw [Hgk.out]; omega
          case rel =>
            refine ⟨k + 1, r - o.size, rfl, by omega, by go_num, rfl, by omega, by omega, fun x hx => ?_, hn.trans n1⟩
            rw [List.take_succ_eq_append_getElem hlt, List.mem_append, List.mem_singleton] at hx
            rcases hx with hx | rfl
            · exact Hall.out x hx
            · have := (List.getElem?_eq_some_iff.1 Ho.out).2
              rw [this]; exact hos
      · go_wp2_with fail
        go_ret
        refine ⟨r, rfl, hr1, fun _ => ⟨by omega, fun o ho => ?_⟩, hn⟩
        have := Hall.out
        rw [List.take_of_length_le (by omega)] at this
        exact this o ho

set_option maxRecDepth 4000 in
set_option maxHeartbeats 400000 in
theorem sameItem {S T : Nat → Prop} (o p : ItemR) (u t : Value) (w : World) (h : Ints S w u o.ids) (g : Ints T w t p.ids) :
    Calls Tryd.prog 14 #[.agg #[txt o.path, .bool o.dir, u], .agg #[txt p.path, .bool p.dir, t]] w fun e w' => e = .returned (.bool (decide (o = p))) ∧ New w w' := by
  obtain ⟨k, l, xs⟩ := o
  obtain ⟨k', l', ys⟩ := p
  simp only at h g ⊢
  unfold txt
  have hn : ∀ (W : World) (o o' : Obj), New W ((W.alloc o).alloc o') := fun W o o' => ((New.refl W).alloc o).alloc o'
  have Hn := Lib.hid hn
  have heq := fun (W : World) (n : New w W) => sameInts u t xs ys W (h.new n) (g.new n)
  have Heq := Lib.hid heq
  obtain ⟨a, c, rfl, h1, ⟨h2, -⟩, -, -⟩ := h
  obtain ⟨a', c', rfl, g1, ⟨g2, -⟩, -, -⟩ := g
  unfold maxLen at h2 g2
  clear hn heq
  by_cases hk : k = k'
  · subst hk
    by_cases hl : l = l'
    · subst hl
      by_cases hx : xs = ys
      · have hd : decide (ItemR.mk k l xs = ItemR.mk k l ys) = true := by simp [hx]
        have hd2 : decide (xs = ys) = true := by simp [hx]
        rw [hd]
        rw [hd2] at Heq
        clear hd hd2 hx
        go_enter Tryd.func14, Tryd.ntmps14
        go_wp2_with fail
        refine (Heq.out _ (Hn.out _ _ _)).mono ?_
        rintro e w1 ⟨rfl, d1⟩
        have n1 := (Hn.out w _ _).trans d1.new
        clear d1
        go_wp2_with fail
        go_ret
        exact ⟨rfl, n1⟩
      · have hd : decide (ItemR.mk k l xs = ItemR.mk k l ys) = false := by simp [hx]
        have hd2 : decide (xs = ys) = false := by simp [hx]
        rw [hd]
        rw [hd2] at Heq
        clear hd hd2 hx
        go_enter Tryd.func14, Tryd.ntmps14
        go_wp2_with fail
        refine (Heq.out _ (Hn.out _ _ _)).mono ?_
        rintro e w1 ⟨rfl, d1⟩
        have n1 := (Hn.out w _ _).trans d1.new
        clear d1
        go_wp2_with fail
        go_ret
        exact ⟨rfl, n1⟩
    · have hd : decide (ItemR.mk k l xs = ItemR.mk k l' ys) = false := by simp [hl]
      rw [hd]
      have hcs : (l = true ∧ l' = false) ∨ (l = false ∧ l' = true) := by revert hl; cases l <;> cases l' <;> simp
      clear hd hl
      rcases hcs with ⟨rfl, rfl⟩ | ⟨rfl, rfl⟩
      all_goals
        go_enter Tryd.func14, Tryd.ntmps14
        go_wp2_with fail
        go_ret
        exact ⟨rfl, Hn.out _ _ _⟩
  · have hd : decide (ItemR.mk k l xs = ItemR.mk k' l' ys) = false := by simp [hk]
    have hb : (k == k') = false := by simp [hk]
    have hb2 : (k != k') = true := by simp [hk]
    rw [hd]
    clear hd hk
    go_enter Tryd.func14, Tryd.ntmps14
    go_wp2_with fail
    go_ret
    exact ⟨rfl, Hn.out _ _ _⟩

set_option maxRecDepth 4000 in
set_option maxHeartbeats 400000 in
theorem eqItems {S T : Nat → Prop} (v u : Value) (xs ys : List ItemR) (w : World) (h : Items S w v xs) (g : Items T w u ys) :
    Calls Tryd.prog 26 #[v, u] w fun e w' => e = .returned (.bool (decide (xs = ys))) ∧ New w w' := by
  have h0 := h
  have g0 := g
  obtain ⟨-, a, c, rfl, h1, h2, -⟩ := h
  obtain ⟨-, a', c', rfl, g1, g2, -⟩ := g
  unfold maxLen at h2 g2
  by_cases hl : xs.length = ys.length
  · have e0 := eqLs_is xs ys hl
    have E0 := Lib.hid e0
    have hne : (((xs.length : Int) != (ys.length : Int))) = false := by simp [hl]
    have Hl := Lib.hid hl
    have hat := fun (W : World) (n : New w W) (k : Nat) (o : ItemR) (ho : xs[k]? = some o) => Items.at (Recs.new h0 n) ho
    have gat := fun (W : World) (n : New w W) (k : Nat) (o : ItemR) (ho : ys[k]? = some o) => Items.at (Recs.new g0 n) ho
    have Hat := Lib.hid hat
    have Gat := Lib.hid gat
    clear e0 hl hat gat
    go_enter Tryd.func26, Tryd.ntmps26
    go_wp2
    go_loopg [5] xs.length (fun gk i wr => ∃ (k : Nat), gk = xs.length - k ∧ k ≤ xs.length ∧ i = .int .i64 k ∧ New w wr ∧ eqLs ItemR xs ys = eqLs ItemR (xs.drop k) (ys.drop k))
    case atStart => exact ⟨0, by omega, Nat.zero_le _, rfl, New.refl _, rfl⟩
    case round =>
      obtain ⟨k, hgk, hk, rfl, hw, he⟩ := hrel
      have Hgk := Lib.hid hgk
      have He := Lib.hid he
      clear he hgk
      by_cases hlt : k < xs.length
      · obtain ⟨x, hx⟩ := get_of hlt
        have hlt2 : k < ys.length := by rw [← Hl.out]; exact hlt
        obtain ⟨y, hy⟩ := get_of hlt2
        obtain ⟨b, off, cb, r, e1, -, c0, c1, c2, -, r2⟩ := Hat.out wr hw k x hx
        obtain ⟨b', off', cb', r', e2, -, d0, d1, d2, -, s2⟩ := Gat.out wr hw k y hy
        simp only [Value.slice.injEq] at e1 e2
        obtain ⟨rfl, -, rfl⟩ := e1
        obtain ⟨rfl, -, rfl⟩ := e2
        have Hx := Lib.hid (drop_of hx)
        have Hy := Lib.hid (drop_of hy)
        have n3 : New wr (wr.drewN 1) := (New.refl _).drewN 1
        have hcall := eqItem x y r r' (wr.drewN 1) (r2.new n3) (s2.new n3)
        unfold txt at c0 d0 hcall
        have C0 : (wr.drewN 1).cell? ⟨b, off + k * 3, none⟩ = some (.string ⟨x.path.toArray⟩) := c0
        have C1 : (wr.drewN 1).cell? ⟨b, off + k * 3 + 1, none⟩ = some (.bool x.dir) := c1
        have C2 : (wr.drewN 1).cell? ⟨b, off + k * 3 + 2, none⟩ = some r := c2
        have D0 : (wr.drewN 1).cell? ⟨b', off' + k * 3, none⟩ = some (.string ⟨y.path.toArray⟩) := d0
        have D1 : (wr.drewN 1).cell? ⟨b', off' + k * 3 + 1, none⟩ = some (.bool y.dir) := d1
        have D2 : (wr.drewN 1).cell? ⟨b', off' + k * 3 + 2, none⟩ = some r' := d2
        have Hcall := Lib.hid hcall
        clear hcall hx hy r2 s2 c0 c1 c2 d0 d1 d2
        by_cases hxy : x = y
        · have hd : decide (x = y) = true := by simp [hxy]
          rw [hd] at Hcall
          have Hxy := Lib.hid hxy
          clear hd hxy
          go_wp2
          refine wp_region_still_tail 8 (by kernel_rfl) (by kernel_rfl) ?_
          simp only [List.take_succ_cons, List.take_zero, List.drop_succ_cons, List.drop_zero]
          change wpStill _ _ (wr.drewN 1) (fun a' => wpList _ _ _ _ a' (wr.drewN 1)) _ _
          generalize hw3 : wr.drewN 1 = w3 at *
          have Hw3 := Lib.hid hw3
          clear hw3
          iterate 8 still_step
          refine wpStill_nil ?_
          go_wp2_with fail
          refine Hcall.out.mono ?_
          rintro e w4 ⟨rfl, n4⟩
          go_wp2_with fail
          go_roundg (xs.length - (k + 1))
          case measure => rw [Hgk.out]; omega
          case rel => exact ⟨k + 1, rfl, by omega, by go_num, (hw.trans n3).trans n4, by rw [He.out, Hx.out, Hy.out, eqLs, if_pos Hxy.out]⟩
        · have hd : decide (x = y) = false := by simp [hxy]
          rw [hd] at Hcall
          have Hxy := Lib.hid hxy
          clear hd hxy
          go_wp2
          refine wp_region_still_tail 8 (by kernel_rfl) (by kernel_rfl) ?_
          simp only [List.take_succ_cons, List.take_zero, List.drop_succ_cons, List.drop_zero]
          change wpStill _ _ (wr.drewN 1) (fun a' => wpList _ _ _ _ a' (wr.drewN 1)) _ _
          generalize hw3 : wr.drewN 1 = w3 at *
          have Hw3 := Lib.hid hw3
          clear hw3
          iterate 8 still_step
          refine wpStill_nil ?_
          go_wp2_with fail
          refine Hcall.out.mono ?_
          rintro e w4 ⟨rfl, n4⟩
          go_wp2_with fail
          go_ret
          exact ⟨ret_bool (by rw [← E0.out, He.out, Hx.out, Hy.out, eqLs, if_neg Hxy.out]), (hw.trans n3).trans n4⟩
      · go_wp2
        go_ret
        exact ⟨ret_bool (by rw [← E0.out, He.out, drop_end hlt]; simp [eqLs]), hw⟩
  · have hne : (((xs.length : Int) != (ys.length : Int))) = true := by simp; omega
    have Hl := Lib.hid hl
    clear hl
    go_enter Tryd.func26, Tryd.ntmps26
    go_wp2
    go_ret
    exact ⟨ret_bool (by simp; intro e; exact Hl.out (by rw [e])), New.refl _⟩
set_option maxRecDepth 4000 in
set_option maxHeartbeats 400000 in
theorem sameTree {S T : Nat → Prop} (v u : Value) (xs ys : List ItemR) (w : World) (h : Items S w v xs) (g : Items T w u ys) :
    Calls Tryd.prog 20 #[v, u] w fun e w' => e = .returned (.bool (decide (xs = ys))) ∧ New w w' := by
  have h0 := h
  have g0 := g
  obtain ⟨-, a, c, rfl, h1, h2, -⟩ := h
  obtain ⟨-, a', c', rfl, g1, g2, -⟩ := g
  unfold maxLen at h2 g2
  by_cases hl : xs.length = ys.length
  · have e0 := eqLs_is xs ys hl
    have E0 := Lib.hid e0
    have hne : (((xs.length : Int) != (ys.length : Int))) = false := by simp [hl]
    have Hl := Lib.hid hl
    have hat := fun (W : World) (n : New w W) (k : Nat) (o : ItemR) (ho : xs[k]? = some o) => Items.at (Recs.new h0 n) ho
    have gat := fun (W : World) (n : New w W) (k : Nat) (o : ItemR) (ho : ys[k]? = some o) => Items.at (Recs.new g0 n) ho
    have Hat := Lib.hid hat
    have Gat := Lib.hid gat
    clear e0 hl hat gat
    go_enter Tryd.func20, Tryd.ntmps20
    go_wp2
    go_loopg [5] xs.length (fun gk i wr => ∃ (k : Nat), gk = xs.length - k ∧ k ≤ xs.length ∧ i = .int .i64 k ∧ New w wr ∧ eqLs ItemR xs ys = eqLs ItemR (xs.drop k) (ys.drop k))
    case atStart => exact ⟨0, by omega, Nat.zero_le _, rfl, New.refl _, rfl⟩
    case round =>
      obtain ⟨k, hgk, hk, rfl, hw, he⟩ := hrel
      have Hgk := Lib.hid hgk
      have He := Lib.hid he
      clear he hgk
      by_cases hlt : k < xs.length
      · obtain ⟨x, hx⟩ := get_of hlt
        have hlt2 : k < ys.length := by rw [← Hl.out]; exact hlt
        obtain ⟨y, hy⟩ := get_of hlt2
        obtain ⟨b, off, cb, r, e1, -, c0, c1, c2, -, r2⟩ := Hat.out wr hw k x hx
        obtain ⟨b', off', cb', r', e2, -, d0, d1, d2, -, s2⟩ := Gat.out wr hw k y hy
        simp only [Value.slice.injEq] at e1 e2
        obtain ⟨rfl, -, rfl⟩ := e1
        obtain ⟨rfl, -, rfl⟩ := e2
        have Hx := Lib.hid (drop_of hx)
        have Hy := Lib.hid (drop_of hy)
        have n3 : New wr (wr.drewN 1) := (New.refl _).drewN 1
        have hcall := sameItem x y r r' (wr.drewN 1) (r2.new n3) (s2.new n3)
        unfold txt at c0 d0 hcall
        have C0 : (wr.drewN 1).cell? ⟨b, off + k * 3, none⟩ = some (.string ⟨x.path.toArray⟩) := c0
        have C1 : (wr.drewN 1).cell? ⟨b, off + k * 3 + 1, none⟩ = some (.bool x.dir) := c1
        have C2 : (wr.drewN 1).cell? ⟨b, off + k * 3 + 2, none⟩ = some r := c2
        have D0 : (wr.drewN 1).cell? ⟨b', off' + k * 3, none⟩ = some (.string ⟨y.path.toArray⟩) := d0
        have D1 : (wr.drewN 1).cell? ⟨b', off' + k * 3 + 1, none⟩ = some (.bool y.dir) := d1
        have D2 : (wr.drewN 1).cell? ⟨b', off' + k * 3 + 2, none⟩ = some r' := d2
        have Hcall := Lib.hid hcall
        clear hcall hx hy r2 s2 c0 c1 c2 d0 d1 d2
        by_cases hxy : x = y
        · have hd : decide (x = y) = true := by simp [hxy]
          rw [hd] at Hcall
          have Hxy := Lib.hid hxy
          clear hd hxy
          go_wp2
          refine wp_region_still_tail 8 (by kernel_rfl) (by kernel_rfl) ?_
          simp only [List.take_succ_cons, List.take_zero, List.drop_succ_cons, List.drop_zero]
          change wpStill _ _ (wr.drewN 1) (fun a' => wpList _ _ _ _ a' (wr.drewN 1)) _ _
          generalize hw3 : wr.drewN 1 = w3 at *
          have Hw3 := Lib.hid hw3
          clear hw3
          iterate 8 still_step
          refine wpStill_nil ?_
          go_wp2_with fail
          refine Hcall.out.mono ?_
          rintro e w4 ⟨rfl, n4⟩
          go_wp2_with fail
          go_roundg (xs.length - (k + 1))
          case measure => rw [Hgk.out]; omega
          case rel => exact ⟨k + 1, rfl, by omega, by go_num, (hw.trans n3).trans n4, by rw [He.out, Hx.out, Hy.out, eqLs, if_pos Hxy.out]⟩
        · have hd : decide (x = y) = false := by simp [hxy]
          rw [hd] at Hcall
          have Hxy := Lib.hid hxy
          clear hd hxy
          go_wp2
          refine wp_region_still_tail 8 (by kernel_rfl) (by kernel_rfl) ?_
          simp only [List.take_succ_cons, List.take_zero, List.drop_succ_cons, List.drop_zero]
          change wpStill _ _ (wr.drewN 1) (fun a' => wpList _ _ _ _ a' (wr.drewN 1)) _ _
          generalize hw3 : wr.drewN 1 = w3 at *
          have Hw3 := Lib.hid hw3
          clear hw3
          iterate 8 still_step
          refine wpStill_nil ?_
          go_wp2_with fail
          refine Hcall.out.mono ?_
          rintro e w4 ⟨rfl, n4⟩
          go_wp2_with fail
          go_ret
          exact ⟨ret_bool (by rw [← E0.out, He.out, Hx.out, Hy.out, eqLs, if_neg Hxy.out]), (hw.trans n3).trans n4⟩
      · go_wp2
        go_ret
        exact ⟨ret_bool (by rw [← E0.out, He.out, drop_end hlt]; simp [eqLs]), hw⟩
  · have hne : (((xs.length : Int) != (ys.length : Int))) = true := by simp; omega
    have Hl := Lib.hid hl
    clear hl
    go_enter Tryd.func20, Tryd.ntmps20
    go_wp2
    go_ret
    exact ⟨ret_bool (by simp; intro e; exact Hl.out (by rw [e])), New.refl _⟩

theorem slItem : SliceOf Tryd.prog 23 28 (.agg #[.string ByteArray.empty, .bool false, .slice none 0 0]) 3 48 := by refine ⟨by kernel_rfl, by kernel_rfl, rfl, by decide⟩

def ToItemsPost (os : List ItemR) (w : World) (e : Ending) (w' : World) : Prop :=
  ∃ v, e = .returned v ∧ OwnItems (fun j => w.heap.size ≤ j) w' v os ∧ New w w'

set_option maxRecDepth 4000 in
set_option maxHeartbeats 400000 in
theorem toItems {S : Nat → Prop} (v : Value) (os : List ItemR) (w : World) (h : Items S w v os) (hl : os.length ≤ 1048576) (hall : ∀ o ∈ os, o.size ≤ 1048576) :
    Calls Tryd.prog 25 #[v] w (ToItemsPost os w) := by
  have h0 := h
  obtain ⟨-, a, c, rfl, h1, h2, -⟩ := h
  unfold maxLen at h2
  have hat := fun (W : World) (n : New w W) (k : Nat) (o : ItemR) (ho : os[k]? = some o) => Items.at (Recs.new h0 n) ho
  have Hat := Lib.hid hat
  have Hall := Lib.hid hall
  clear hat hall
  go_enter Tryd.func25, Tryd.ntmps25
  go_wp2_with (at_make; refine wpRow_make slItem _ _ rfl rfl .i64 .i64 os.length rfl rfl (by omega) (by unfold maxLen; omega) ?_; intro w1 hrow hn1 hlt1)
  go_loopg [4] os.length (fun gk i wr => ∃ (k : Nat) (us : List Value), gk = os.length - k ∧ k ≤ os.length ∧ i = .int .i64 k ∧ us.length = os.length * 3 ∧ New w wr ∧ Row 28 3 (fun j => j = w.heap.size) wr (.slice (some ⟨w.heap.size, 0, none⟩) os.length os.length) os.length us ∧
    Fields (fun j => w.heap.size < j) wr (us.take (k * 3)) (itemFlds (os.take k)))
  case atStart => exact ⟨0, _, by omega, by omega, rfl, by simpa using hrow.1.1, hn1, hrow, by simp [itemFlds, Fields]⟩
  case round =>
    obtain ⟨k, us, hgk, hk, rfl, hul, hn, hr, hf⟩ := hrel
    have Hgk := Lib.hid hgk
    have Hul := Lib.hid hul
    clear hgk hul
    by_cases hlt : k < os.length
    · obtain ⟨o, ho⟩ := get_of hlt
      obtain ⟨b, off, c', u, e1, hb, c0, c1, c2, lp, r2⟩ := Hat.out wr hn k o ho
      simp only [Value.slice.injEq] at e1
      obtain ⟨rfl, -, rfl⟩ := e1
      have hos := Hall.out o (List.mem_of_getElem? ho)
      have htake : os.take (k + 1) = os.take k ++ [o] := by
        obtain ⟨hk', e⟩ := List.getElem?_eq_some_iff.1 ho
        rw [List.take_succ_eq_append_getElem hk', e]
      have Htake := Lib.hid htake
      have hcall := toItem o u wr r2 (by unfold ItemR.size at hos; omega)
      unfold txt at c0 hcall
      have Hcall := Lib.hid hcall
      have hix : ∀ j, j < 3 → k * 3 + j < us.length := fun j hj => by rw [Hul.out]; omega
      have Hix := Lib.hid hix
      clear hcall ho r2 htake hix
      go_wp2_with fail
      refine Hcall.out.mono ?_
      rintro e w2 ⟨u', rfl, o1, n2⟩
      unfold txt
      obtain ⟨a', ca', rfl, -, -⟩ := o1.shape
      have hr2 := hr.new n2
      obtain ⟨x0, hx0⟩ := get_of (Hix.out 0 (by omega))
      obtain ⟨x1, hx1⟩ := get_of (Hix.out 1 (by omega))
      obtain ⟨x2, hx2⟩ := get_of (Hix.out 2 (by omega))
      have g0 := hr2.cellAt hx0
      have g1 := hr2.cellAt hx1
      have g2 := hr2.cellAt hx2
      have f0 := hr2.frozenAt (k * 3)
      have f1 := hr2.frozenAt (k * 3 + 1)
      have f2 := hr2.frozenAt (k * 3 + 2)
      rw [Nat.add_zero] at g0
      have hf2' := (hf.old).new n2
      have hnn := hn.trans n2
      have hsz := hn.size
      have hsz2 := n2.size
      have hposr : w.heap.size < wr.heap.size := hr.lt w.heap.size rfl
      clear hx0 hx1 hx2 hr hf
      go_wp2_with fail
      have hr3 := ((hr2.set (k * 3) (.string ⟨o.path.toArray⟩)).set (k * 3 + 1) (.bool o.dir)).set (k * 3 + 2) (.slice a' o.ids.length ca')
      have cs := chg_set3 w2 w.heap.size (k * 3) (k * 3 + 1) (k * 3 + 2) (.string ⟨o.path.toArray⟩) (.bool o.dir) (.slice a' o.ids.length ca')
      go_roundg (os.length - (k + 1))
      case measure => rw [Hgk.out]; omega
      case rel =>
        refine ⟨k + 1, _, rfl, by omega, by go_num, by simp [Hul.out], hnn.trans_chg cs (fun j hj hh => by omega), hr3, ?_⟩
        have e3 : (k + 1) * 3 = k * 3 + 3 := by omega
        have hpos : w.heap.size < wr.heap.size := by
          exact hposr
        rw [e3, take_set3 (Hix.out 2 (by omega)), Htake.out]
        unfold itemFlds
        rw [List.flatMap_append]
        have f1 : Fields (fun j => wr.heap.size ≤ j) w2 [.string ⟨o.path.toArray⟩, .bool o.dir, .slice a' o.ids.length ca'] o.flds := by
          exact ⟨⟨rfl, lp⟩, rfl, (OwnI.of o1).mono (fun j _ hj => ⟨⟨hj, by simp [blk]⟩, by simp [blk]⟩), trivial⟩
        have f2 := Fields.append f1 hf2' (fun j hj hT => by omega)
        refine (f2.chg cs (fun j _ hj hh => by rcases hj with hj | hj <;> omega)).mono (fun j _ hj => by rcases hj with hj | hj <;> omega)
    · go_wp2_with fail
      go_ret
      have hf' := hf
      rw [List.take_of_length_le (by rw [Hul.out]; omega), List.take_of_length_le (by omega)] at hf'
      exact ⟨_, rfl, ⟨us, hr.mono (fun j _ hj => by omega), hf'.mono (fun j _ hj => ⟨by omega, by simp [Value.ownBlock]; omega⟩)⟩, hn⟩

end Go.Proofs.YtkffejommncinaaDoor
