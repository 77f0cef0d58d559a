/- The walk of FnExactHoldDrop. -/
import Derived.Test.YtapobonfnjgnoaaHoldSpec2
import Derived.Test.YtapobonfnjgnoaaHoldArgs
namespace Go.Proofs.Ytapobonfnjgnoaa
open Go.RowKit

set_option maxRecDepth 4000 in
set_option maxHeartbeats 4000000 in
theorem walkFnExactHoldDrop (v : Value) (os : List HoldR) (va : Value) (x : HoldR) (w : World) (h : Holds Any w v os) (hxa : HoldArg va x) :
    Calls Try.prog 8 #[v, va] w fun e w' => e = .returned (.bool true) ∧ New w w' := by
  have hxa0 := hxa
  obtain ⟨rfl, hxl⟩ := hxa
  have h0 := h
  have nb := (New.refl w).alloc (.cells #[.string ⟨x.snap.toArray⟩, .string ⟨x.tag.toArray⟩] 39)
  have hbx := heap_alloc_new w (.cells #[.string ⟨x.snap.toArray⟩, .string ⟨x.tag.toArray⟩] 39)
  have q0 : (w.alloc (.cells #[.string ⟨x.snap.toArray⟩, .string ⟨x.tag.toArray⟩] 39)).cell? ⟨w.heap.size, 0, none⟩ = some (.string ⟨x.snap.toArray⟩) := by unfold World.cell?; rw [hbx]; rfl
  have q1 : (w.alloc (.cells #[.string ⟨x.snap.toArray⟩, .string ⟨x.tag.toArray⟩] 39)).cell? ⟨w.heap.size, 1, none⟩ = some (.string ⟨x.tag.toArray⟩) := by unfold World.cell?; rw [hbx]; rfl
  have hsz := szHolds v os _ (h.new nb)
  have hszx := fun (l : Int) (W : World) h0 h1 => szHold x l W hxl.1 hxl.2 h0 h1
  unfold txt at hszx
  have Hsz := Lib.hid hsz
  have Hszx := Lib.hid hszx
  clear hsz hszx hbx
  obtain ⟨-, a, c, rfl, h1, h2, -⟩ := h
  unfold maxLen at h2
  unfold txt
  go_enter Try.func8, Try.ntmps8
  go_wp2_with fail
  generalize w.alloc (.cells #[.string ⟨x.snap.toArray⟩, .string ⟨x.tag.toArray⟩] 39) = wb at *
  generalize hg : w.heap.size = g at *
  refine Hsz.out.mono ?_
  rintro e w1 ⟨r0, rfl, hr1, hr0, n1⟩
  replace q0 := n1.cell q0
  replace q1 := n1.cell q1
  replace n1 := nb.trans n1
  clear nb
  by_cases hneg : r0 < 0
  · go_wp2_with fail
    go_ret
    exact ⟨rfl, n1⟩
  · obtain ⟨hl, hall⟩ := hr0 (by omega)
    have hsm : ∀ o ∈ os, HSm o := fun o ho => by have := hall o ho; unfold HoldR.size at this; exact ⟨by omega, by omega⟩
    have Hsm := Lib.hid hsm
    clear hall hr0 hsm
    go_wp2_with fail
    refine (Hszx.out r0 w1 (by omega) hr1).mono ?_
    by_cases hneg2 : r0 < x.size
    · rw [if_pos hneg2]
      rintro e w2 ⟨rfl, n2⟩
      go_wp2_with fail
      go_ret
      exact ⟨rfl, n1.trans n2⟩
    · rw [if_neg hneg2]
      rintro e w2 ⟨rfl, n2⟩
      have hx : HSm x := by unfold HoldR.size at hneg2; exact ⟨by omega, by omega⟩
      have hge : ¬ (r0 - (x.size : Int) < 0) := by omega
      have hto := fun (W : World) (n : New w W) => toHolds (.slice a os.length c) os W (Recs.new h0 n) hl
      have htx := fun (W : World) => toHold x W
      unfold txt at htx
      have Hto := Lib.hid hto
      have Htx := Lib.hid htx
      have hsp := fun (u : Value) (W : World) (H : Holds Any W u os) => specDrop u os x W H Hsm.out (by omega)
      have Hsp := Lib.hid hsp
      have him := fun (u : Value) (W : World) (H : Holds Any W u os) => implDrop u os x W H Hsm.out hx
      have Him := Lib.hid him
      have hrl := dropR_len os x
      have hbig1 : sizes (holdFlds os) ≤ 4194304 := by rw [sizes_hold]; omega
      have hbig2 : sizes (holdFlds (dropR os x).1) ≤ 4194304 := by rw [sizes_hold]; omega
      unfold HoldPost at Hsp Him
      clear hto htx hsp him hrl
      generalize (dropR os x) = rr at *
      obtain ⟨r, ok⟩ := rr
      simp only at Hsp Him hbig2
      have hbb : (ok != ok) = false := by simp
      have p0 : w2.drew.cell? ⟨g, 0, none⟩ = some (.string ⟨x.snap.toArray⟩) := n2.cell q0
      have p1 : w2.drew.cell? ⟨g, 1, none⟩ = some (.string ⟨x.tag.toArray⟩) := n2.cell q1
      have nd : New w w2.drew := (n1.trans n2).drew
      clear q0 q1 n1 n2
      go_wp2_with fail
      go_region_held3 (fun w' => w'.cell? ⟨g, 0, none⟩ = some (.string ⟨x.snap.toArray⟩) ∧ w'.cell? ⟨g, 1, none⟩ = some (.string ⟨x.tag.toArray⟩)) (first | exact ⟨p0, p1⟩ | exact ⟨nh.cell p0, nh.cell p1⟩ | exact ⟨ni.cell p0, ni.cell p1⟩ | exact ⟨ni.cell (nh.cell p0), ni.cell (nh.cell p1)⟩ | exact ⟨nh.cell (ni.cell p0), nh.cell (ni.cell p1)⟩ | exact ⟨ns.cell (ni.cell (nh.cell p0)), ns.cell (ni.cell (nh.cell p1))⟩ | exact ⟨ns.cell (nh.cell (ni.cell p0)), ns.cell (nh.cell (ni.cell p1))⟩)
        (first
          | (go_at_call 25; refine (Hto.out _ ?_).mono ?_; (first | exact nd | exact nd.trans ni); rintro e wh ⟨vh, rfl, oh, nh⟩; have ah : Holds Any wh vh os := Recs.mono (OwnRecs.recs oh) (fun _ _ _ => trivial))
          | (go_at_call 26; refine (Htx.out _).mono ?_; rintro e wi ⟨rfl, ni⟩)
          | (go_at_call 22; refine (Hsp.out _ _ ?_).mono ?_; (first | exact ah | exact Recs.new ah ni); rintro e ws ⟨v3, rfl, o3, ns⟩))
      all_goals
        rename_i hH
        obtain ⟨q0, q1⟩ := hH
        have hgw : g < ws.heap.size := World.block_lt_of_cell? ws _ q0
        have z0 := nd.size
        have z1 := nh.size
        have z2 := ni.size
        have nn : New w ws := by first | exact ((nd.trans nh).trans ni).trans ns | exact ((nd.trans ni).trans nh).trans ns
        replace o3 : OwnHolds (fun j => w.heap.size ≤ j ∧ j < ws.heap.size) ws v3 r := (OwnRecs.old o3).mono (fun j hj hh => ⟨by omega, hj⟩)
        obtain ⟨av3, cv3, rfl, -⟩ := o3.shape
        clear ah oh nh ni ns p0 p1 nd z0 z1 z2
        go_wp2_with fail
        refine (Hto.out ws nn).mono ?_
        rintro e w4 ⟨v4, rfl, o4, n4⟩
        obtain ⟨av4, cv4, rfl, -⟩ := o4.shape
        replace o3 := OwnRecs.new o3 n4
        have z4 := n4.size
        have m0 := n4.cell q0
        have m1 := n4.cell q1
        replace nn := nn.trans n4
        clear q0 q1 n4
        go_wp2_with fail
        refine (Htx.out _).mono ?_
        rintro e w4b ⟨rfl, n4b⟩
        replace o3 := OwnRecs.new o3 n4b
        replace o4 := OwnRecs.new o4 n4b
        have z4b := n4b.size
        replace m0 := n4b.cell m0
        replace m1 := n4b.cell m1
        replace nn := nn.trans n4b
        replace o4 := OwnRecs.old o4
        clear n4b
        go_wp2_with fail
        refine (Him.out _ _ (Recs.mono (OwnRecs.recs o4) (fun _ _ _ => trivial))).mono ?_
        rintro e w5 ⟨v5, rfl, o5, n5⟩
        obtain ⟨av5, cv5, rfl, -⟩ := o5.shape
        replace o3 := OwnRecs.new o3 n5
        replace o4 := OwnRecs.new o4 n5
        replace m0 := n5.cell m0
        replace m1 := n5.cell m1
        replace nn := nn.trans n5
        replace o5 := OwnRecs.old o5
        have z5 := n5.size
        clear n5
        go_wp2_with fail
        refine (eqHolds _ _ r r _ (OwnRecs.recs o5) (OwnRecs.recs o3)).mono ?_
        rw [decide_eq_true rfl]
        rintro e w6 ⟨rfl, n6⟩
        replace o3 := OwnRecs.new o3 n6
        replace o4 := OwnRecs.new o4 n6
        replace o5 := OwnRecs.new o5 n6
        replace m0 := n6.cell m0
        replace m1 := n6.cell m1
        replace nn := nn.trans n6
        clear n6
        go_wp2_with fail
        refine (Hto.out w6 nn).mono ?_
        rintro e w7 ⟨v7, rfl, o7, n7⟩
        obtain ⟨av7, cv7, rfl, -⟩ := o7.shape
        replace o3 := OwnRecs.new o3 n7
        replace o4 := OwnRecs.new o4 n7
        replace o5 := OwnRecs.new o5 n7
        replace m0 := n7.cell m0
        replace m1 := n7.cell m1
        replace nn := nn.trans n7
        clear n7
        go_wp2_with fail
        refine (eqHolds _ _ os os _ (OwnRecs.recs o4) (OwnRecs.recs o7)).mono ?_
        rw [decide_eq_true rfl]
        rintro e w8 ⟨rfl, n8⟩
        replace o3 := OwnRecs.new o3 n8
        replace o4 := OwnRecs.new o4 n8
        replace o5 := OwnRecs.new o5 n8
        replace m0 := n8.cell m0
        replace m1 := n8.cell m1
        replace nn := nn.trans n8
        clear o7 n8
        go_wp2_with fail
        refine (markHolds _ os 1 _ o4 (by omega) (by omega) (by omega)).mono ?_
        rintro e w9 ⟨rfl, c9, -⟩
        replace o3 := OwnRecs.chg o3 c9 (fun j _ hj e => by omega)
        replace o5 := OwnRecs.chg o5 c9 (fun j _ hj e => by omega)
        replace m0 := c9.cell m0 (fun e => by omega)
        replace m1 := c9.cell m1 (fun e => by omega)
        replace nn := nn.trans_chg c9 (fun j hj e => by omega)
        clear c9 o4
        have hk0 : ¬ (1 + (sizes (holdFlds os) : Int) < 0) := by omega
        go_wp2_with fail
        refine (eqHolds _ _ r r _ (OwnRecs.recs o5) (OwnRecs.recs o3)).mono ?_
        rw [decide_eq_true rfl]
        rintro e w10 ⟨rfl, n10⟩
        replace o3 := OwnRecs.new o3 n10
        replace o5 := OwnRecs.new o5 n10
        replace m0 := n10.cell m0
        replace m1 := n10.cell m1
        replace nn := nn.trans n10
        clear n10
        go_wp2_with fail
        refine (markHolds _ r 1 _ o5 (by omega) (by omega) (by omega)).mono ?_
        rintro e w11 ⟨rfl, c11, o11⟩
        replace o3 := OwnRecs.chg o3 c11 (fun j _ hj e => by omega)
        replace m0 := c11.cell m0 (fun e => by omega)
        replace m1 := c11.cell m1 (fun e => by omega)
        replace nn := nn.trans_chg c11 (fun j hj e => by omega)
        clear c11 o5
        go_wp2_with fail
        refine (heldHolds _ r 1 _ (OwnRecs.recs o11) (by omega) (by omega) (by omega)).mono ?_
        rintro e w12 ⟨rfl, n12⟩
        have hm0 : ¬ (1 + (sizes (holdFlds r) : Int) < 0) := by omega
        replace o3 := OwnRecs.new o3 n12
        replace o11 := OwnRecs.new o11 n12
        have p0 : w12.drew.cell? ⟨g, 0, none⟩ = some (.string ⟨x.snap.toArray⟩) := n12.cell m0
        have p1 : w12.drew.cell? ⟨g, 1, none⟩ = some (.string ⟨x.tag.toArray⟩) := n12.cell m1
        have nd : New w w12.drew := (nn.trans n12).drew
        have o3d := OwnRecs.new o3 (New.refl w12).drew
        have o11d := OwnRecs.new o11 (New.refl w12).drew
        clear n12 m0 m1 nn o3 o11
        go_wp2_with fail
        go_region_held3 (fun w' => w'.cell? ⟨g, 0, none⟩ = some (.string ⟨x.snap.toArray⟩) ∧ w'.cell? ⟨g, 1, none⟩ = some (.string ⟨x.tag.toArray⟩)) (first | exact ⟨p0, p1⟩ | exact ⟨nh.cell p0, nh.cell p1⟩ | exact ⟨ni.cell p0, ni.cell p1⟩ | exact ⟨ni.cell (nh.cell p0), ni.cell (nh.cell p1)⟩ | exact ⟨nh.cell (ni.cell p0), nh.cell (ni.cell p1)⟩ | exact ⟨nu.cell (ni.cell (nh.cell p0)), nu.cell (ni.cell (nh.cell p1))⟩ | exact ⟨nu.cell (nh.cell (ni.cell p0)), nu.cell (nh.cell (ni.cell p1))⟩)
          (first
            | (go_at_call 25; refine (Hto.out _ ?_).mono ?_; (first | exact nd | exact nd.trans ni); rintro e wh ⟨vh, rfl, oh, nh⟩; have ah : Holds Any wh vh os := Recs.mono (OwnRecs.recs oh) (fun _ _ _ => trivial))
            | (go_at_call 26; refine (Htx.out _).mono ?_; rintro e wi ⟨rfl, ni⟩)
            | (go_at_call 16; refine (Him.out _ _ ?_).mono ?_; (first | exact ah | exact Recs.new ah ni); rintro e wu ⟨vu, rfl, ou, nu⟩))
      all_goals
        rename_i hH
        have nt : New w12.drew wu := by first | exact (nh.trans ni).trans nu | exact (ni.trans nh).trans nu
        have nn := nd.trans nt
        have ol := OwnRecs.new o11d nt
        have oq := OwnRecs.new o3d nt
        have au : Holds _ wu vu r := OwnRecs.recs ou
        obtain ⟨avu, cvu, rfl, -⟩ := ou.shape
        clear ah oh nh ni nu p0 p1 nd nt ou hH o11d o3d
        go_wp2_with fail
        refine (eqHolds _ _ r r _ au (OwnRecs.recs oq)).mono ?_
        rw [decide_eq_true rfl]
        rintro e w15 ⟨rfl, n15⟩
        replace ol := OwnRecs.new ol n15
        replace nn := nn.trans n15
        clear au oq n15
        go_wp2_with fail
        refine (heldHolds _ r 1 _ (OwnRecs.recs ol) (by omega) (by omega) (by omega)).mono ?_
        rintro e w16 ⟨rfl, n16⟩
        go_wp2_with fail
        go_ret
        exact ⟨rfl, nn.trans n16⟩
end Go.Proofs.Ytapobonfnjgnoaa
