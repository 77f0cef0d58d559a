/- The walk of FnExactItemText. -/
import Derived.Test.YtipligidnoajfaaDoorItemText
import Derived.Test.YtipligidnoajfaaDoorSzMore
import Derived.Test.YtipligidnoajfaaDoorOpenItem
namespace Go.Proofs.YtipligidnoajfaaDoor
open Go.RowKit

set_option maxRecDepth 4000 in
set_option maxHeartbeats 4000000 in
theorem walkFnExactItemText (v : Value) (os : List HeldR) (iv : Value) (o : ItemR) (w : World) (h : Helds Any w v os) (hi : ItemArg w iv o) :
    Calls Tryd.prog 3 #[v, iv] w fun e w' => e = .returned (.bool true) ∧ New w w' := by
  obtain ⟨hpm, u, rfl, hu⟩ := hi
  have hsz := fun (W : World) (n : New w W) => szHelds2 v os W (Recs.new h n)
  have hszi := fun (W : World) (n : New w W) l h0 h1 => szItem o u l W (hu.new n) hpm h0 h1
  have htoi := fun (W : World) (n : New w W) hl => toItem o u W (hu.new n) hl
  have hsp := fun (v u : Value) (W : World) (H : Helds Any W v os) (G : Ints Any W u o.ids) hp => specItemText v os o u W H G hp
  have him := fun (v u : Value) (W : World) (H : Helds Any W v os) (G : Ints Any W u o.ids) hp => implItemText v os o u W H G hp
  have heqi := fun (u t : Value) (W : World) (H : Ints Any W u o.ids) (G : Ints Any W t o.ids) => eqItem o o u t W H G
  rw [decide_eq_true rfl] at heqi
  have hsmall : ∀ r : Int, r ≤ 1048576 → ¬ (r < o.size) → o.path.length ≤ 1048576 ∧ o.ids.length ≤ 1048576 := fun r h1 h2 => by
    unfold ItemR.size at h2
    omega
  have h0 := h
  have hto := fun (W : World) (n : New w W) hl hall => toHelds v os W (Recs.new h0 n) hl hall
  have Hto0 := Lib.hid hto
  clear hto
  obtain ⟨-, a, c, rfl, h1, h2, -⟩ := h
  obtain ⟨au, cu, rfl, g1, ⟨g2, -⟩, -, -⟩ := hu
  unfold maxLen at h2 g2 hpm
  obtain ⟨l, d, xs⟩ := o
  simp only at hszi hsp him htoi heqi hsmall g1 g2 hpm ⊢
  unfold ToItemPost at htoi
  simp only at htoi
  generalize textH ⟨l, d, xs⟩ os = T at *
  have hsize : ((ItemR.mk l d xs).size : Int) = l.length + xs.length := by simp [ItemR.size]
  generalize (ItemR.mk l d xs).size = z at *
  have Hszi := Lib.hid hszi
  have Htoi0 := Lib.hid htoi
  have Hsp0 := Lib.hid hsp
  have Him0 := Lib.hid him
  have Heqi := Lib.hid heqi
  have Hsmall := Lib.hid hsmall
  clear hszi htoi hsp him heqi hsmall
  unfold txt at Hszi Htoi0 Hsp0 Him0 Heqi ⊢
  have n0 : New w (w.alloc (.cells #[.string ⟨l.toArray⟩, .bool d, .slice au xs.length cu] 25)) := (New.refl w).alloc _
  have k0 : (w.alloc (.cells #[.string ⟨l.toArray⟩, .bool d, .slice au xs.length cu] 25)).cell? ⟨w.heap.size, 0, none⟩ = some (.string ⟨l.toArray⟩) := by rw [cell_alloc]; rfl
  have k1 : (w.alloc (.cells #[.string ⟨l.toArray⟩, .bool d, .slice au xs.length cu] 25)).cell? ⟨w.heap.size, 1, none⟩ = some (.bool d) := by rw [cell_alloc]; rfl
  have k2 : (w.alloc (.cells #[.string ⟨l.toArray⟩, .bool d, .slice au xs.length cu] 25)).cell? ⟨w.heap.size, 2, none⟩ = some (.slice au xs.length cu) := by rw [cell_alloc]; rfl
  have Hsz := Lib.hid (hsz _ n0)
  have N0 := Lib.hid n0
  clear hsz n0
  go_enter Tryd.func3, Tryd.ntmps3
  go_wp2_with fail
  refine Hsz.out.mono ?_
  rintro e w1 ⟨r0, rfl, hr1, hr0, n1⟩
  have m0 := n1.cell k0
  have m1 := n1.cell k1
  have m2 := n1.cell k2
  replace n1 := N0.out.trans n1
  clear k0 k1 k2
  by_cases hneg : r0 < 0
  · go_wp2_with fail
    go_ret
    exact ⟨rfl, n1⟩
  obtain ⟨hl, hall⟩ := hr0 (by omega)
  have hto := fun (W : World) (n : New w W) => Hto0.out W n hl hall
  have Hto := Lib.hid hto
  clear hto
  go_wp2_with fail
  refine (Hszi.out _ n1 r0 (by omega) hr1).mono ?_
  by_cases hb : r0 < (z : Int)
  · rw [if_pos hb]
    rintro e w2 ⟨rfl, n2⟩
    go_wp2_with fail
    go_ret
    exact ⟨rfl, n1.trans n2⟩
  rw [if_neg hb]
  rintro e w2 ⟨rfl, n2⟩
  obtain ⟨hs1, hs2⟩ := Hsmall.out r0 hr1 (by omega)
  have htoi := fun (W : World) (n : New w W) => Htoi0.out W n hs2
  have Htoi := Lib.hid htoi
  have hsp := fun (v u : Value) (W : World) (H : Helds Any W v os) (G : Ints Any W u xs) => Hsp0.out v u W H G hs1
  have Hsp := Lib.hid hsp
  have him := fun (v u : Value) (W : World) (H : Helds Any W v os) (G : Ints Any W u xs) => Him0.out v u W H G hs1
  have Him := Lib.hid him
  have p0 := n2.cell m0
  have p1 := n2.cell m1
  have p2 := n2.cell m2
  replace n2 := n1.trans n2
  clear htoi hsp him m0 m1 m2 n1
  have hge : ¬ (r0 - (z : Int) < 0) := by omega
  have nd := n2.drew
  clear n2
  generalize hg : w.heap.size = g at *
  go_wp2_with fail
  go_region_held3 (fun w' => w'.cell? ⟨g, 0, none⟩ = some (.string ⟨l.toArray⟩) ∧ w'.cell? ⟨g, 1, none⟩ = some (.bool d) ∧ w'.cell? ⟨g, 2, none⟩ = some (.slice au xs.length cu)) (first | exact ⟨p0, p1, p2⟩ | exact ⟨nh.cell p0, nh.cell p1, nh.cell p2⟩ | exact ⟨ni.cell p0, ni.cell p1, ni.cell p2⟩ | exact ⟨ni.cell (nh.cell p0), ni.cell (nh.cell p1), ni.cell (nh.cell p2)⟩ | exact ⟨nh.cell (ni.cell p0), nh.cell (ni.cell p1), nh.cell (ni.cell p2)⟩ | exact ⟨ns.cell (ni.cell (nh.cell p0)), ns.cell (ni.cell (nh.cell p1)), ns.cell (ni.cell (nh.cell p2))⟩ | exact ⟨ns.cell (nh.cell (ni.cell p0)), ns.cell (nh.cell (ni.cell p1)), ns.cell (nh.cell (ni.cell p2))⟩)
    (first
      | (go_at_call 8; refine (Hto.out _ ?_).mono ?_; (first | exact nd | exact nd.trans ni); rintro e wh ⟨vh, rfl, oh, nh⟩; have ah : Helds Any wh vh os := Recs.mono (OwnRecs.recs oh) (fun _ _ _ => trivial))
      | (go_at_call 9; refine (Htoi.out _ ?_).mono ?_; (first | exact nd | exact nd.trans nh); rintro e wi ⟨ui, rfl, oi, ni⟩; obtain ⟨ai, ci, rfl, -, -⟩ := oi.shape; have qi : Ints Any wi _ xs := oi.nums.mono (fun _ _ _ => trivial))
      | (go_at_call 7; refine (Hsp.out _ _ _ ?_ ?_).mono ?_; (first | exact ah | exact Recs.new ah ni); (first | exact qi | exact qi.new nh); rintro e ws ⟨rfl, ns⟩))
  all_goals
    rename_i hH
    obtain ⟨q0, q1, q2⟩ := hH
    have nn : New w ws := by first | exact ((nd.trans nh).trans ni).trans ns | exact ((nd.trans ni).trans nh).trans ns
    clear ah oh oi qi nh ni ns p0 p1 p2 nd
    go_wp2_with fail
    refine (Hto.out ws nn).mono ?_
    rintro e w7 ⟨v7, rfl, o7, n7⟩
    have m0 := n7.cell q0
    have m1 := n7.cell q1
    have m2 := n7.cell q2
    replace nn := nn.trans n7
    clear q0 q1 q2 n7
    go_wp2_with fail
    refine (Htoi.out w7 nn).mono ?_
    rintro e w8 ⟨u8, rfl, o8, n8⟩
    obtain ⟨a8, c8, rfl, -, -⟩ := o8.shape
    have q0 := n8.cell m0
    have q1 := n8.cell m1
    have q2 := n8.cell m2
    replace o7 := Recs.new (OwnRecs.recs o7) n8
    replace nn := nn.trans n8
    clear m0 m1 m2 n8
    go_wp2_with fail
    have nb : New w8 (w8.alloc (.cells #[.string ⟨l.toArray⟩, .bool d, .slice a8 xs.length c8] 31)) := (New.refl w8).alloc _
    have b0 : (w8.alloc (.cells #[.string ⟨l.toArray⟩, .bool d, .slice a8 xs.length c8] 31)).cell? ⟨w8.heap.size, 0, none⟩ = some (.string ⟨l.toArray⟩) := by rw [cell_alloc]; rfl
    have b1 : (w8.alloc (.cells #[.string ⟨l.toArray⟩, .bool d, .slice a8 xs.length c8] 31)).cell? ⟨w8.heap.size, 1, none⟩ = some (.bool d) := by rw [cell_alloc]; rfl
    have b2 : (w8.alloc (.cells #[.string ⟨l.toArray⟩, .bool d, .slice a8 xs.length c8] 31)).cell? ⟨w8.heap.size, 2, none⟩ = some (.slice a8 xs.length c8) := by rw [cell_alloc]; rfl
    generalize w8.alloc (.cells #[.string ⟨l.toArray⟩, .bool d, .slice a8 xs.length c8] 31) = wb at *
    generalize w8.heap.size = g8 at *
    have A7 : Helds Any wb v7 os := Recs.mono (Recs.new o7 nb) (fun _ _ _ => trivial)
    have A8 : Ints Any wb (.slice a8 xs.length c8) xs := (o8.nums.new nb).mono (fun _ _ _ => trivial)
    refine (Him.out _ _ _ A7 A8).mono ?_
    rintro e w9 ⟨rfl, n9⟩
    replace q0 := n9.cell (nb.cell q0)
    replace q1 := n9.cell (nb.cell q1)
    replace q2 := n9.cell (nb.cell q2)
    replace b0 := n9.cell b0
    replace b1 := n9.cell b1
    replace b2 := n9.cell b2
    replace A7 := Recs.new A7 n9
    replace A8 := A8.new n9
    replace nn := (nn.trans nb).trans n9
    clear o7 o8 nb n9
    go_wp2_with fail
    refine (Hto.out w9 nn).mono ?_
    rintro e w10 ⟨v10, rfl, o10, n10⟩
    replace q0 := n10.cell q0
    replace q1 := n10.cell q1
    replace q2 := n10.cell q2
    replace b0 := n10.cell b0
    replace b1 := n10.cell b1
    replace b2 := n10.cell b2
    replace A7 := Recs.new A7 n10
    replace A8 := A8.new n10
    replace nn := nn.trans n10
    clear n10
    go_wp2_with fail
    refine (eqHelds _ _ os os _ A7 (OwnRecs.recs o10)).mono ?_
    rw [decide_eq_true rfl]
    rintro e w11 ⟨rfl, n11⟩
    replace q0 := n11.cell q0
    replace q1 := n11.cell q1
    replace q2 := n11.cell q2
    replace b0 := n11.cell b0
    replace b1 := n11.cell b1
    replace b2 := n11.cell b2
    replace A8 := A8.new n11
    replace nn := (nn.trans n11).drew
    have A9 := A8.new (New.refl w11).drew
    clear n11 o10 A7 A8
    go_wp2_with fail
    go_region_held3 (fun w' => w'.cell? ⟨g, 0, none⟩ = some (.string ⟨l.toArray⟩) ∧ w'.cell? ⟨g, 1, none⟩ = some (.bool d) ∧ w'.cell? ⟨g, 2, none⟩ = some (.slice au xs.length cu) ∧ w'.cell? ⟨g8, 0, none⟩ = some (.string ⟨l.toArray⟩) ∧ w'.cell? ⟨g8, 1, none⟩ = some (.bool d) ∧ w'.cell? ⟨g8, 2, none⟩ = some (.slice a8 xs.length c8))
      (first | exact ⟨q0, q1, q2, b0, b1, b2⟩ | exact ⟨n12.cell q0, n12.cell q1, n12.cell q2, n12.cell b0, n12.cell b1, n12.cell b2⟩ | exact ⟨n13.cell (n12.cell q0), n13.cell (n12.cell q1), n13.cell (n12.cell q2), n13.cell (n12.cell b0), n13.cell (n12.cell b1), n13.cell (n12.cell b2)⟩)
      (first
        | (go_at_call 9; refine (Htoi.out _ nn).mono ?_; rintro e w12 ⟨u12, rfl, o12, n12⟩; obtain ⟨a12, c12, rfl, -, -⟩ := o12.shape; have B12 : Ints Any w12 _ xs := o12.nums.mono (fun _ _ _ => trivial))
        | (go_at_call 12; refine (Heqi.out _ _ _ (A9.new n12) B12).mono ?_; rintro e w13 ⟨rfl, n13⟩))
    go_wp2_with fail
    go_ret
    exact ⟨rfl, (nn.trans n12).trans n13⟩
end Go.Proofs.YtipligidnoajfaaDoor
