/- The walk of FnExactTreePut (printed by wip/gen_exactput.py). -/
import Derived.Test.YtkffejommncinaaDoorSpecTreePut
import Derived.Test.YtkffejommncinaaDoorItemHeld
import Derived.Test.YtkffejommncinaaDoorPutLaw
import Derived.Test.YtkffejommncinaaDoorOpenArg
import Derived.Test.YtkffejommncinaaDoorBoxes
import Derived.Deep.RegionHeld3
import Derived.Deep.CutRange
import Derived.Deep.CutBlock
namespace Go.Proofs.YtkffejommncinaaDoor
open Go.RowKit

theorem putS_len {x : ItemR} : ∀ {os : List ItemR}, (putS x os).length ≤ os.length + 1
  | [] => by simp [putS]
  | o :: r => by
    have ih := putS_len (x := x) (os := r)
    rw [putS]
    split
    · simp only [List.length_cons]; omega
    · split <;> simp
theorem putR_small {os : List ItemR} {x : ItemR} (hall : ∀ o ∈ os, o.size ≤ 1048576) (hx : x.size ≤ 1048576) : ((putR os x).getD []).length ≤ os.length + 1 ∧ ∀ o ∈ (putR os x).getD [], o.size ≤ 1048576 := by
  rcases h : putR os x with _ | r
  · exact ⟨by simp, by simp⟩
  · refine ⟨?_, put_size h hall hx⟩
    obtain ⟨-, -, rfl, -, -⟩ := putR_some h
    exact putS_len
theorem sizes_items : ∀ {os : List ItemR}, (∀ o ∈ os, o.size ≤ 1048576) → sizes (itemFlds os) ≤ os.length * 1048578
  | [], _ => by simp [itemFlds, sizes]
  | o :: r, h => by
    have ih := sizes_items (os := r) fun x hx => h x (List.mem_cons_of_mem _ hx)
    have ho := h o List.mem_cons_self
    unfold ItemR.size at ho
    show sizes (o.flds ++ itemFlds r) ≤ _
    rw [sizes_append]
    have : sizes o.flds = 2 + o.ids.length := by simp [ItemR.flds, sizes, Fld.size]; omega
    rw [List.length_cons]; omega

set_option maxRecDepth 4000 in
set_option maxHeartbeats 8000000 in
theorem walkFnExactTreePut (v : Value) (os : List ItemR) (iv : Value) (x : ItemR) (w : World) (h : Items Any w v os) (hi : ItemArg w iv x) :
    Calls Tryd.prog 9 #[v, iv] w fun e w' => e = .returned (.bool true) ∧ New w w' := by
  obtain ⟨hpm, u, rfl, hu⟩ := hi
  have hsz := fun (W : World) (n : New w W) => szItems v os W (Recs.new h n)
  have hszi := fun (W : World) (n : New w W) l h0 h1 => szItem x u l W (hu.new n) hpm h0 h1
  have htoi := fun (W : World) (n : New w W) hl => toItem x u W (hu.new n) hl
  have heqi := fun (u t : Value) (W : World) (H : Ints Any W u x.ids) (G : Ints Any W t x.ids) => eqItem x x u t W H G
  rw [decide_eq_true rfl] at heqi
  unfold ToItemPost at htoi
  have hto := fun (W : World) (n : New w W) hl hall => toItems v os W (Recs.new h n) hl hall
  have Hto0 := Lib.hid hto
  have Htoi0 := Lib.hid htoi
  have Hszi := Lib.hid hszi
  have Heqi := Lib.hid heqi
  have Hsz0 := Lib.hid hsz
  clear hto htoi hszi heqi hsz
  obtain ⟨-, a, c, rfl, h1, h2, -⟩ := h
  obtain ⟨au, cu, rfl, g1, ⟨g2, -⟩, -, -⟩ := hu
  unfold maxLen at h2 g2 hpm
  unfold txt at Hszi Htoi0 Heqi ⊢
  have n0 : New w (w.alloc (.cells #[.string ⟨x.path.toArray⟩, .bool x.dir, .slice au x.ids.length cu] 46)) := (New.refl w).alloc _
  have k0 : (w.alloc (.cells #[.string ⟨x.path.toArray⟩, .bool x.dir, .slice au x.ids.length cu] 46)).cell? ⟨w.heap.size, 0, none⟩ = some (.string ⟨x.path.toArray⟩) := by rw [cell_alloc]; rfl
  have k1 : (w.alloc (.cells #[.string ⟨x.path.toArray⟩, .bool x.dir, .slice au x.ids.length cu] 46)).cell? ⟨w.heap.size, 1, none⟩ = some (.bool x.dir) := by rw [cell_alloc]; rfl
  have k2 : (w.alloc (.cells #[.string ⟨x.path.toArray⟩, .bool x.dir, .slice au x.ids.length cu] 46)).cell? ⟨w.heap.size, 2, none⟩ = some (.slice au x.ids.length cu) := by rw [cell_alloc]; rfl
  have z0 : w.heap.size < (w.alloc (.cells #[.string ⟨x.path.toArray⟩, .bool x.dir, .slice au x.ids.length cu] 46)).heap.size := by simp
  have Hsz := Lib.hid (Hsz0.out _ n0)
  have N0 := Lib.hid n0
  clear n0 Hsz0
  go_enter Tryd.func9, Tryd.ntmps9
  go_wp2_with fail
  refine Hsz.out.mono ?_
  rintro e w1 ⟨r0, rfl, hr1, hr0, n1⟩
  have m0 := n1.cell k0
  have m1 := n1.cell k1
  have m2 := n1.cell k2
  have z1 := n1.size
  replace n1 := N0.out.trans n1
  clear k0 k1 k2
  by_cases hneg : r0 < 0
  · go_wp2_with fail
    go_ret
    exact ⟨rfl, n1⟩
  obtain ⟨hl, hall⟩ := hr0 (by omega)
  go_wp2_with fail
  refine (Hszi.out _ n1 r0 (by omega) hr1).mono ?_
  by_cases hb : r0 < (x.size : Int)
  · rw [if_pos hb]
    rintro e w2 ⟨rfl, n2⟩
    go_wp2_with fail
    go_ret
    exact ⟨rfl, n1.trans n2⟩
  rw [if_neg hb]
  rintro e w2 ⟨rfl, n2⟩
  have hxs : x.size ≤ 1048576 := by omega
  have hx12 : x.path.length ≤ 1048576 ∧ x.ids.length ≤ 1048576 := by
    unfold ItemR.size at hxs; omega
  obtain ⟨hx1, hx2⟩ := hx12
  have hto := fun (W : World) (n : New w W) => Hto0.out W n hl hall
  have Hto := Lib.hid hto
  have htoi := fun (W : World) (n : New w W) => Htoi0.out W n hx2
  have Htoi := Lib.hid htoi
  have hsp := fun (u v : Value) (W : World) (H : Items Any W u os) (G : Ints Any W v x.ids) => specTreePut u os x v W H hall G hxs
  have him := fun (u v : Value) (W : World) (H : Items Any W u os) (G : Ints Any W v x.ids) => implTreePut u os x v W H hall G hx1
  obtain ⟨hrl, hrs⟩ := putR_small hall hxs
  have hbig3 := sizes_items hrs
  have hbig0 := sizes_items hall
  have hbig1 : sizes (itemFlds os) ≤ 4398046511104 := by omega
  have hbig2 : sizes (itemFlds ((putR os x).getD [])) ≤ 4398046511104 := by omega
  unfold TreesPost txt at hsp him
  generalize (putR os x).getD [] = r at *
  generalize (putR os x).isSome = ok at *
  have hbb : (ok != ok) = false := by simp
  have Hsp := Lib.hid hsp
  have Him := Lib.hid him
  have p0 := n2.cell m0
  have p1 := n2.cell m1
  have p2 := n2.cell m2
  have z2 := n2.size
  replace n2 := n1.trans n2
  clear hto htoi hsp him hrl hrs hr0 hall hbig0 hbig3 m0 m1 m2 n1 Hto0 Htoi0 Hszi
  have hge : ¬ (r0 - (x.size : Int) < 0) := by omega
  have nd := n2.drew
  have nn := n2
  clear n2
  generalize hg : w.heap.size = g at z0 p0 p1 p2 ⊢
  have hgw : g = w.heap.size := hg.symm
  have zw : w.heap.size ≤ g := by omega
  have zg : g < w2.heap.size := by omega
  clear hg hgw z0 z1 z2
  go_upto_region 8 with fail
  go_cut [6, 7] from 17 to 118 (fun s6 s7 wx => ∃ (av : Option Addr) (cv : Nat), s6 = .slice av r.length cv ∧ s7 = .bool ok ∧ OwnItems (fun j => w2.heap.size ≤ j) wx (.slice av r.length cv) r ∧ New w2 wx ∧ (wx.cell? ⟨g, 0, none⟩ = some (.string ⟨x.path.toArray⟩) ∧ wx.cell? ⟨g, 1, none⟩ = some (.bool x.dir) ∧ wx.cell? ⟨g, 2, none⟩ = some (.slice au x.ids.length cu)))
  case first =>
    go_region_held3 (fun w' => w'.cell? ⟨g, 0, none⟩ = some (.string ⟨x.path.toArray⟩) ∧ w'.cell? ⟨g, 1, none⟩ = some (.bool x.dir) ∧ w'.cell? ⟨g, 2, none⟩ = some (.slice au x.ids.length cu)) (first | exact ⟨p0, p1, p2⟩ | exact ⟨nh.cell p0, nh.cell p1, nh.cell p2⟩ | exact ⟨ni.cell p0, ni.cell p1, ni.cell p2⟩ | exact ⟨ni.cell (nh.cell p0), ni.cell (nh.cell p1), ni.cell (nh.cell p2)⟩ | exact ⟨nh.cell (ni.cell p0), nh.cell (ni.cell p1), nh.cell (ni.cell p2)⟩ | exact ⟨ns.cell (ni.cell (nh.cell p0)), ns.cell (ni.cell (nh.cell p1)), ns.cell (ni.cell (nh.cell p2))⟩ | exact ⟨ns.cell (nh.cell (ni.cell p0)), ns.cell (nh.cell (ni.cell p1)), ns.cell (nh.cell (ni.cell p2))⟩)
      (first
        | (go_at_call 25; refine (Hto.out _ ?_).mono ?_; (first | exact nd | exact nd.trans ni); rintro e wh ⟨vh, rfl, oh, nh⟩; obtain ⟨ah1, ch1, rfl, -⟩ := oh.shape; have ah : Items Any wh _ os := Recs.mono (OwnRecs.recs oh) (fun _ _ _ => trivial))
        | (go_at_call 30; refine (Htoi.out _ ?_).mono ?_; (first | exact nd | exact nd.trans nh); rintro e wi ⟨ui, rfl, oi, ni⟩; obtain ⟨ai, ci, rfl, -, -⟩ := oi.shape; have qi : Ints Any wi _ x.ids := oi.nums.mono (fun _ _ _ => trivial))
        | (go_at_call 19; refine (Hsp.out _ _ _ ?_ ?_).mono ?_; (first | exact ah | exact Recs.new ah ni); (first | exact qi | exact qi.new nh); rintro e ws ⟨vs, rfl, os3, ns⟩; obtain ⟨avs, cvs, rfl, -⟩ := os3.shape))
    all_goals
      rename_i hH
      have nz := (New.refl w2).drew
      have nr : New w2 ws := by first | exact ((nz.trans nh).trans ni).trans ns | exact ((nz.trans ni).trans nh).trans ns
      have y0 := nz.size
      have y1 := nh.size
      have y2 := ni.size
      have os4 := OwnRecs.mono os3 (T := fun j => w2.heap.size ≤ j) (fun j _ hj => by omega)
      clear y0 y1 y2 ah oh oi qi p0 p1 p2 os3
      go_wp2_with fail
      go_meet
      case rel => exact ⟨avs, cvs, rfl, rfl, os4, nr, hH⟩
  case rest =>
    obtain ⟨av3, cv3, rfl, rfl, o3, n3, p0, p1, p2⟩ := hcut
    replace o3 := OwnRecs.old o3
    replace nn := nn.trans n3
    have z3 := n3.size
    clear nd n3 Hsp
    go_wp2_with fail
    refine (Hto.out _ nn).mono ?_
    rintro e w4 ⟨v4, rfl, o4, n4⟩
    obtain ⟨av4, cv4, rfl, -⟩ := o4.shape
    replace o4 := OwnRecs.old o4
    have z4 := n4.size
    replace p0 := n4.cell p0
    replace p1 := n4.cell p1
    replace p2 := n4.cell p2
    replace o3 := OwnRecs.new o3 n4
    replace nn := nn.trans n4
    clear n4
    go_wp2_with fail
    refine (Htoi.out w4 nn).mono ?_
    rintro e w8 ⟨u8, rfl, o8, n8⟩
    obtain ⟨a8, c8, rfl, -, -⟩ := o8.shape
    have z8 := n8.size
    have i4 := OwnI.of o8
    replace i4 := OwnI.old i4
    replace p0 := n8.cell p0
    replace p1 := n8.cell p1
    replace p2 := n8.cell p2
    replace o3 := OwnRecs.new o3 n8
    replace o4 := OwnRecs.new o4 n8
    replace nn := nn.trans n8
    clear n8 o8
    have nb : New w8 (w8.alloc (.cells #[.string ⟨x.path.toArray⟩, .bool x.dir, .slice a8 x.ids.length c8] 28)) := (New.refl w8).alloc _
    have zb : w8.heap.size < (w8.alloc (.cells #[.string ⟨x.path.toArray⟩, .bool x.dir, .slice a8 x.ids.length c8] 28)).heap.size := by simp
    have b0 : (w8.alloc (.cells #[.string ⟨x.path.toArray⟩, .bool x.dir, .slice a8 x.ids.length c8] 28)).cell? ⟨w8.heap.size, 0, none⟩ = some (.string ⟨x.path.toArray⟩) := by rw [cell_alloc]; rfl
    have b1 : (w8.alloc (.cells #[.string ⟨x.path.toArray⟩, .bool x.dir, .slice a8 x.ids.length c8] 28)).cell? ⟨w8.heap.size, 1, none⟩ = some (.bool x.dir) := by rw [cell_alloc]; rfl
    have b2 : (w8.alloc (.cells #[.string ⟨x.path.toArray⟩, .bool x.dir, .slice a8 x.ids.length c8] 28)).cell? ⟨w8.heap.size, 2, none⟩ = some (.slice a8 x.ids.length c8) := by rw [cell_alloc]; rfl
    replace p0 := nb.cell p0
    replace p1 := nb.cell p1
    replace p2 := nb.cell p2
    replace o3 := OwnRecs.new o3 nb
    replace o4 := OwnRecs.new o4 nb
    replace i4 := OwnI.new i4 nb
    replace nn := nn.trans nb
    clear nb
    go_upto_region 11 with fail
    generalize w8.alloc (.cells #[.string ⟨x.path.toArray⟩, .bool x.dir, .slice a8 x.ids.length c8] 28) = wb at o3 o4 i4 p0 p1 p2 b0 b1 b2 nn zb ⊢
    generalize w8.heap.size = g8 at z8 zb o3 o4 i4 b0 b1 b2 ⊢
    go_wp2_with fail
    refine (Him.out _ _ _ (Recs.mono (OwnRecs.recs o4) (fun _ _ _ => trivial)) (i4.nums.mono (fun _ _ _ => trivial))).mono ?_
    rintro e w5 ⟨v5, rfl, o5, n5⟩
    obtain ⟨av5, cv5, rfl, -⟩ := o5.shape
    replace o5 := OwnRecs.old o5
    have z5 := n5.size
    replace p0 := n5.cell p0
    replace p1 := n5.cell p1
    replace p2 := n5.cell p2
    replace b0 := n5.cell b0
    replace b1 := n5.cell b1
    replace b2 := n5.cell b2
    replace o3 := OwnRecs.new o3 n5
    replace o4 := OwnRecs.new o4 n5
    replace i4 := OwnI.new i4 n5
    replace nn := nn.trans n5
    clear n5
    go_wp2_with fail
    refine (eqItems _ _ r r _ (OwnRecs.recs o5) (OwnRecs.recs o3)).mono ?_
    rw [decide_eq_true rfl]
    rintro e w6 ⟨rfl, n6⟩
    replace p0 := n6.cell p0
    replace p1 := n6.cell p1
    replace p2 := n6.cell p2
    replace b0 := n6.cell b0
    replace b1 := n6.cell b1
    replace b2 := n6.cell b2
    replace o3 := OwnRecs.new o3 n6
    replace o4 := OwnRecs.new o4 n6
    replace o5 := OwnRecs.new o5 n6
    replace i4 := OwnI.new i4 n6
    replace nn := nn.trans n6
    clear n6
    go_wp2_with fail
    refine (Hto.out w6 nn).mono ?_
    rintro e w7 ⟨v7, rfl, o7, n7⟩
    obtain ⟨av7, cv7, rfl, -⟩ := o7.shape
    replace p0 := n7.cell p0
    replace p1 := n7.cell p1
    replace p2 := n7.cell p2
    replace b0 := n7.cell b0
    replace b1 := n7.cell b1
    replace b2 := n7.cell b2
    replace o3 := OwnRecs.new o3 n7
    replace o4 := OwnRecs.new o4 n7
    replace o5 := OwnRecs.new o5 n7
    replace i4 := OwnI.new i4 n7
    replace nn := nn.trans n7
    clear n7
    go_wp2_with fail
    refine (eqItems _ _ os os _ (OwnRecs.recs o4) (OwnRecs.recs o7)).mono ?_
    rw [decide_eq_true rfl]
    rintro e w9 ⟨rfl, n9⟩
    replace p0 := n9.cell p0
    replace p1 := n9.cell p1
    replace p2 := n9.cell p2
    replace b0 := n9.cell b0
    replace b1 := n9.cell b1
    replace b2 := n9.cell b2
    replace o3 := OwnRecs.new o3 n9
    replace o4 := OwnRecs.new o4 n9
    replace o5 := OwnRecs.new o5 n9
    replace i4 := OwnI.new i4 n9
    replace nn := nn.trans n9
    clear n9 o7
    have nq := (New.refl w9).drew
    replace nn := nn.trans nq
    replace o3 := OwnRecs.new o3 nq
    replace o4 := OwnRecs.new o4 nq
    replace o5 := OwnRecs.new o5 nq
    replace i4 := OwnI.new i4 nq
    have A9 : Ints Any w9.drew _ x.ids := i4.nums.mono (fun _ _ _ => trivial)
    clear nq
    go_wp2_with fail
    go_region_held3 (fun w' => w'.cell? ⟨g, 0, none⟩ = some (.string ⟨x.path.toArray⟩) ∧ w'.cell? ⟨g, 1, none⟩ = some (.bool x.dir) ∧ w'.cell? ⟨g, 2, none⟩ = some (.slice au x.ids.length cu) ∧ w'.cell? ⟨g8, 0, none⟩ = some (.string ⟨x.path.toArray⟩) ∧ w'.cell? ⟨g8, 1, none⟩ = some (.bool x.dir) ∧ w'.cell? ⟨g8, 2, none⟩ = some (.slice a8 x.ids.length c8))
      (first | exact ⟨p0, p1, p2, b0, b1, b2⟩ | exact ⟨n12.cell p0, n12.cell p1, n12.cell p2, n12.cell b0, n12.cell b1, n12.cell b2⟩ | exact ⟨n13.cell (n12.cell p0), n13.cell (n12.cell p1), n13.cell (n12.cell p2), n13.cell (n12.cell b0), n13.cell (n12.cell b1), n13.cell (n12.cell b2)⟩)
      (first
        | (go_at_call 30; refine (Htoi.out _ nn).mono ?_; rintro e w12 ⟨u12, rfl, o12, n12⟩; obtain ⟨a12, c12, rfl, -, -⟩ := o12.shape; have B12 : Ints Any w12 _ x.ids := o12.nums.mono (fun _ _ _ => trivial))
        | (go_at_call 31; refine (Heqi.out _ _ _ (A9.new n12) B12).mono ?_; rintro e w13 ⟨rfl, n13⟩))
    rename_i hH
    clear p0 p1 p2 b0 b1 b2 A9 B12 o12
    obtain ⟨p0, p1, p2, b0, b1, b2⟩ := hH
    have nr := n12.trans n13
    clear n12 n13
    replace o3 := OwnRecs.new o3 nr
    replace o4 := OwnRecs.new o4 nr
    replace o5 := OwnRecs.new o5 nr
    replace i4 := OwnI.new i4 nr
    replace nn := nn.trans nr
    clear nr Heqi
    go_wp2_with fail
    refine (markItems _ os 1 _ o4 (by omega) (by omega) (by omega)).mono ?_
    rintro e w14 ⟨rfl, c14, -⟩
    replace p0 := c14.cell p0 (fun e => by omega)
    replace p1 := c14.cell p1 (fun e => by omega)
    replace p2 := c14.cell p2 (fun e => by omega)
    replace b0 := c14.cell b0 (fun e => by omega)
    replace b1 := c14.cell b1 (fun e => by omega)
    replace b2 := c14.cell b2 (fun e => by omega)
    replace o3 := OwnRecs.chg o3 c14 (fun j _ hj e => by omega)
    replace o5 := OwnRecs.chg o5 c14 (fun j _ hj e => by omega)
    replace i4 := OwnI.chg i4 c14 (fun j _ hj e => by omega)
    replace nn := nn.trans_chg c14 (fun j hj e => by omega)
    clear c14 o4
    go_wp2_with fail
    refine (markItem x _ (1 + (sizes (itemFlds os) : Int)) _ i4 (by omega) (by omega) (by omega)).mono ?_
    rintro e w15 ⟨rfl, c15, -⟩
    replace p0 := c15.cell p0 (fun e => by omega)
    replace p1 := c15.cell p1 (fun e => by omega)
    replace p2 := c15.cell p2 (fun e => by omega)
    replace o3 := OwnRecs.chg o3 c15 (fun j _ hj e => by omega)
    replace o5 := OwnRecs.chg o5 c15 (fun j _ hj e => by omega)
    replace nn := nn.trans_chg c15 (fun j hj e => by omega)
    clear c15 i4 b0 b1 b2
    have hk0 : ¬ (1 + (sizes (itemFlds os) : Int) + (x.ids.length : Int) < 0) := by omega
    go_wp2_with fail
    refine (eqItems _ _ r r _ (OwnRecs.recs o5) (OwnRecs.recs o3)).mono ?_
    rw [decide_eq_true rfl]
    rintro e w16 ⟨rfl, n16⟩
    replace p0 := n16.cell p0
    replace p1 := n16.cell p1
    replace p2 := n16.cell p2
    replace o3 := OwnRecs.new o3 n16
    replace o5 := OwnRecs.new o5 n16
    replace nn := nn.trans n16
    clear n16
    go_wp2_with fail
    refine (markItems _ r 1 _ o5 (by omega) (by omega) (by omega)).mono ?_
    rintro e w17 ⟨rfl, c17, o17⟩
    replace p0 := c17.cell p0 (fun e => by omega)
    replace p1 := c17.cell p1 (fun e => by omega)
    replace p2 := c17.cell p2 (fun e => by omega)
    replace o3 := OwnRecs.chg o3 c17 (fun j _ hj e => by omega)
    replace nn := nn.trans_chg c17 (fun j hj e => by omega)
    clear c17 o5
    go_wp2_with fail
    refine (heldItems _ r 1 _ (OwnRecs.recs o17) (by omega) (by omega) (by omega)).mono ?_
    rintro e w18 ⟨rfl, n18⟩
    have hm0 : ¬ (1 + (sizes (itemFlds r) : Int) < 0) := by omega
    replace p0 := n18.cell p0
    replace p1 := n18.cell p1
    replace p2 := n18.cell p2
    replace o3 := OwnRecs.new o3 n18
    replace o17 := OwnRecs.new o17 n18
    replace nn := nn.trans n18
    clear n18
    have nd := nn.drew
    go_upto_region 31 with fail
    go_cut [15, 16] from 17 to 118 (fun s6 s7 wx => ∃ (av : Option Addr) (cv : Nat), s6 = .slice av r.length cv ∧ s7 = .bool ok ∧ OwnItems (fun j => w18.heap.size ≤ j) wx (.slice av r.length cv) r ∧ New w18 wx ∧ (wx.cell? ⟨g, 0, none⟩ = some (.string ⟨x.path.toArray⟩) ∧ wx.cell? ⟨g, 1, none⟩ = some (.bool x.dir) ∧ wx.cell? ⟨g, 2, none⟩ = some (.slice au x.ids.length cu)))
    case first =>
      go_region_held3 (fun w' => w'.cell? ⟨g, 0, none⟩ = some (.string ⟨x.path.toArray⟩) ∧ w'.cell? ⟨g, 1, none⟩ = some (.bool x.dir) ∧ w'.cell? ⟨g, 2, none⟩ = some (.slice au x.ids.length cu)) (first | exact ⟨p0, p1, p2⟩ | exact ⟨nh.cell p0, nh.cell p1, nh.cell p2⟩ | exact ⟨ni.cell p0, ni.cell p1, ni.cell p2⟩ | exact ⟨ni.cell (nh.cell p0), ni.cell (nh.cell p1), ni.cell (nh.cell p2)⟩ | exact ⟨nh.cell (ni.cell p0), nh.cell (ni.cell p1), nh.cell (ni.cell p2)⟩ | exact ⟨ns.cell (ni.cell (nh.cell p0)), ns.cell (ni.cell (nh.cell p1)), ns.cell (ni.cell (nh.cell p2))⟩ | exact ⟨ns.cell (nh.cell (ni.cell p0)), ns.cell (nh.cell (ni.cell p1)), ns.cell (nh.cell (ni.cell p2))⟩)
        (first
          | (go_at_call 25; refine (Hto.out _ ?_).mono ?_; (first | exact nd | exact nd.trans ni); rintro e wh ⟨vh, rfl, oh, nh⟩; obtain ⟨ah1, ch1, rfl, -⟩ := oh.shape; have ah : Items Any wh _ os := Recs.mono (OwnRecs.recs oh) (fun _ _ _ => trivial))
          | (go_at_call 30; refine (Htoi.out _ ?_).mono ?_; (first | exact nd | exact nd.trans nh); rintro e wi ⟨ui, rfl, oi, ni⟩; obtain ⟨ai, ci, rfl, -, -⟩ := oi.shape; have qi : Ints Any wi _ x.ids := oi.nums.mono (fun _ _ _ => trivial))
          | (go_at_call 18; refine (Him.out _ _ _ ?_ ?_).mono ?_; (first | exact ah | exact Recs.new ah ni); (first | exact qi | exact qi.new nh); rintro e ws ⟨vs, rfl, os3, ns⟩; obtain ⟨avs, cvs, rfl, -⟩ := os3.shape))
      all_goals
        rename_i hH
        have nz := (New.refl w18).drew
        have nr : New w18 ws := by first | exact ((nz.trans nh).trans ni).trans ns | exact ((nz.trans ni).trans nh).trans ns
        have y0 := nz.size
        have y1 := nh.size
        have y2 := ni.size
        have os4 := OwnRecs.mono os3 (T := fun j => w18.heap.size ≤ j) (fun j _ hj => by omega)
        clear y0 y1 y2 ah oh oi qi p0 p1 p2 os3
        go_wp2_with fail
        go_meet
        case rel => exact ⟨avs, cvs, rfl, rfl, os4, nr, hH⟩
    case rest =>
      obtain ⟨av19, cv19, rfl, rfl, o19, n19, -⟩ := hcut
      replace o3 := OwnRecs.new o3 n19
      replace o17 := OwnRecs.new o17 n19
      replace nn := nn.trans n19
      clear n19 nd p0 p1 p2
      go_wp2_with fail
      refine (eqItems _ _ r r _ (OwnRecs.recs o19) (OwnRecs.recs o3)).mono ?_
      rw [decide_eq_true rfl]
      rintro e w20 ⟨rfl, n20⟩
      replace o17 := OwnRecs.new o17 n20
      replace nn := nn.trans n20
      clear n20 o19 o3
      go_wp2_with fail
      refine (heldItems _ r 1 _ (OwnRecs.recs o17) (by omega) (by omega) (by omega)).mono ?_
      rintro e w21 ⟨rfl, n21⟩
      go_wp2_with fail
      go_ret
      exact ⟨rfl, nn.trans n21⟩
end Go.Proofs.YtkffejommncinaaDoor
