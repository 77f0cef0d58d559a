/- The walk of FnExactFileStore. -/
import Derived.Test.YtfhnhggmoplmiaaFileSpec
import Derived.Test.YtfhnhggmoplmiaaSmallH
namespace Go.Proofs.Ytfhnhggmoplmiaa
open Go.RowKit

theorem fileStoreH_small (xs : List Int) (os : List HeldR) : smallH (((fileStoreH xs os).map Prod.fst).getD []) ∧ (((fileStoreH xs os).map Prod.snd).getD []).length ≤ 10 := by
  rcases h : fileStoreH xs os with _ | ⟨os', ks⟩
  · exact ⟨small_nil, by simp⟩
  · refine ⟨small_store (law_fileStore h).1, ?_⟩
    obtain ⟨hf, hl, -⟩ := law_fileMany h
    have := cuts_count xs
    have := (fileOk_parts hf).1
    simp only [Option.map_some, Option.getD_some]; omega
theorem OwnI.new {S : Nat → Prop} {w w' : World} {v : Value} {xs : List Int} (h : OwnI S w v xs) (g : New w w') : OwnI S w' v xs := h.chg g fun _ _ _ hf => hf
theorem OwnI.blk {S : Nat → Prop} {w : World} {v : Value} {xs : List Int} (h : OwnI S w v xs) : ∀ j, blk v (.nums xs) = some j → S j := fun j e => (Fld.owns.blk (f := .nums xs) h j e).1

set_option maxRecDepth 4000 in
set_option maxHeartbeats 4000000 in
theorem walkFnExactFileStore (v : Value) (os : List HeldR) (u : Value) (xs : List Int) (w : World) (h : Helds Any w v os) (g : Ints Any w u xs) :
    Calls Try.prog 4 #[v, u] w fun e w' => e = .returned (.bool true) ∧ New w w' := by
  have h0 := h
  have g0 := g
  have hsz := szHelds v os w h
  have Hsz := Lib.hid hsz
  clear hsz
  obtain ⟨-, a, c, rfl, h1, h2, -⟩ := h
  obtain ⟨au, cu, rfl, g1, ⟨g2, -⟩, -, -⟩ := g
  unfold maxLen at h2 g2
  by_cases hbl : 1048576 < xs.length
  · have hbl' : (1048576 : Int) < xs.length := by omega
    go_enter Try.func4, Try.ntmps4
    go_wp2_with fail
    go_ret
    exact ⟨rfl, New.refl _⟩
  have hbl' : ¬ ((1048576 : Int) < xs.length) := by omega
  go_enter Try.func4, Try.ntmps4
  go_wp2_with fail
  refine Hsz.out.mono ?_
  rintro e w1 ⟨r0, rfl, hr0, nn⟩
  by_cases hneg : r0 < 0
  · go_wp2_with fail
    go_ret
    exact ⟨rfl, nn⟩
  · obtain ⟨hl, hall⟩ := hr0 (by omega)
    have hto := fun (W : World) (n : New w W) => toHelds (.slice a os.length c) os W (Recs.new h0 n) hl hall
    have Hto := Lib.hid hto
    have hti := fun (W : World) (n : New w W) => toInts (.slice au xs.length cu) xs W (g0.new n) (by omega)
    have Hti := Lib.hid hti
    have hsp := fun (S T : Nat → Prop) (v u : Value) (W : World) (H : Helds S W v os) (G : Ints T W u xs) => specFileStore v u os xs W H G
    have Hsp := Lib.hid hsp
    have him := fun (S T : Nat → Prop) (v u : Value) (W : World) (H : Helds S W v os) (G : Ints T W u xs) => implFileStore v u os xs W H G
    have Him := Lib.hid him
    have hsm := (fileStoreH_small xs os).1.sizes
    have hsi := (fileStoreH_small xs os).2
    have hbig : sizes (heldFlds os) ≤ 4611686018427 := by
      have := sizes_bound os 1048576 (fun o ho => hall o ho)
      have : os.length * (1048576 + 2) ≤ 1048576 * (1048576 + 2) := Nat.mul_le_mul_right _ hl
      omega
    unfold FilePost at Him
    unfold FileRead at Hsp
    clear hto hti hsp him hall
    generalize ((fileStoreH xs os).map Prod.fst).getD [] = r at *
    generalize ((fileStoreH xs os).map Prod.snd).getD [] = ks at *
    generalize (fileStoreH xs os).isSome = ok at *
    have hbb : (ok != ok) = false := by simp
    have z1 := nn.size
    go_wp2_with fail
    refine (Hto.out w1 nn).mono ?_
    rintro e w2 ⟨v2, rfl, o2, n2⟩
    have z2 := n2.size
    replace nn := nn.trans n2
    clear n2
    go_wp2_with fail
    refine (Hti.out w2 nn).mono ?_
    rintro e w3 ⟨v3, rfl, n3, i3⟩
    have z3 := n3.size
    replace o2 := OwnRecs.new o2 n3
    replace nn := nn.trans n3
    clear n3
    go_wp2_with fail
    refine (Hsp.out _ _ _ _ w3 (OwnRecs.recs o2) i3.nums).mono ?_
    rintro e w4 ⟨v4, t4, rfl, o4, j4, n4⟩
    have z4 := n4.size
    replace nn := nn.trans n4
    clear n4
    clear o2
    clear i3
    replace o4 := Recs.old o4
    replace j4 := j4.old
    go_wp2_with fail
    refine (Hto.out w4 nn).mono ?_
    rintro e w5 ⟨v5, rfl, o5, n5⟩
    have z5 := n5.size
    replace o4 := Recs.new o4 n5
    replace j4 := j4.new n5
    replace nn := nn.trans n5
    clear n5
    replace o5 := OwnRecs.old o5
    go_wp2_with fail
    refine (Hti.out w5 nn).mono ?_
    rintro e w6 ⟨v6, rfl, n6, i6⟩
    have z6 := n6.size
    replace o4 := Recs.new o4 n6
    replace j4 := j4.new n6
    replace o5 := OwnRecs.new o5 n6
    replace nn := nn.trans n6
    clear n6
    replace i6 := i6.old
    go_wp2_with fail
    refine (Him.out _ _ _ _ w6 (OwnRecs.recs o5) i6.nums).mono ?_
    rintro e w7 ⟨v7, t7, B, rfl, o7, j7, hB, n7⟩
    have z7 := n7.size
    replace o4 := Recs.new o4 n7
    replace j4 := j4.new n7
    replace o5 := OwnRecs.new o5 n7
    replace i6 := i6.new n7
    replace nn := nn.trans n7
    clear n7
    replace o7 := OwnRecs.old o7
    go_wp2_with fail
    refine (eqHelds _ _ r r w7 (OwnRecs.recs o7) o4).mono ?_
    rw [decide_eq_true rfl]
    rintro e w8 ⟨rfl, n8⟩
    have z8 := n8.size
    replace o4 := Recs.new o4 n8
    replace j4 := j4.new n8
    replace o5 := OwnRecs.new o5 n8
    replace i6 := i6.new n8
    replace o7 := OwnRecs.new o7 n8
    replace j7 := j7.new n8
    replace nn := nn.trans n8
    clear n8
    go_wp2_with fail
    refine (eqInts _ _ ks ks w8 j7.nums j4).mono ?_
    rw [decide_eq_true rfl]
    rintro e w9 ⟨rfl, n9⟩
    replace n9 := n9.new
    have z9 := n9.size
    replace o4 := Recs.new o4 n9
    replace j4 := j4.new n9
    replace o5 := OwnRecs.new o5 n9
    replace i6 := i6.new n9
    replace o7 := OwnRecs.new o7 n9
    replace j7 := j7.new n9
    replace nn := nn.trans n9
    clear n9
    go_wp2_with fail
    refine (Hto.out w9 nn).mono ?_
    rintro e w10 ⟨v10, rfl, o10, n10⟩
    have z10 := n10.size
    replace o4 := Recs.new o4 n10
    replace j4 := j4.new n10
    replace o5 := OwnRecs.new o5 n10
    replace i6 := i6.new n10
    replace o7 := OwnRecs.new o7 n10
    replace j7 := j7.new n10
    replace nn := nn.trans n10
    clear n10
    go_wp2_with fail
    refine (eqHelds _ _ os os w10 (OwnRecs.recs o5) (OwnRecs.recs o10)).mono ?_
    rw [decide_eq_true rfl]
    rintro e w11 ⟨rfl, n11⟩
    have z11 := n11.size
    replace o4 := Recs.new o4 n11
    replace j4 := j4.new n11
    replace o5 := OwnRecs.new o5 n11
    replace i6 := i6.new n11
    replace o7 := OwnRecs.new o7 n11
    replace j7 := j7.new n11
    replace nn := nn.trans n11
    clear n11
    clear o10
    go_wp2_with fail
    refine (Hti.out w11 nn).mono ?_
    rintro e w12 ⟨v12, rfl, n12, i12⟩
    have z12 := n12.size
    replace o4 := Recs.new o4 n12
    replace j4 := j4.new n12
    replace o5 := OwnRecs.new o5 n12
    replace i6 := i6.new n12
    replace o7 := OwnRecs.new o7 n12
    replace j7 := j7.new n12
    replace nn := nn.trans n12
    clear n12
    go_wp2_with fail
    refine (eqInts _ _ xs xs w12 i6.nums i12.nums).mono ?_
    rw [decide_eq_true rfl]
    rintro e w13 ⟨rfl, n13⟩
    replace n13 := n13.new
    have z13 := n13.size
    replace o4 := Recs.new o4 n13
    replace j4 := j4.new n13
    replace o5 := OwnRecs.new o5 n13
    replace i6 := i6.new n13
    replace o7 := OwnRecs.new o7 n13
    replace j7 := j7.new n13
    replace nn := nn.trans n13
    clear n13
    clear i12
    go_wp2_with fail
    refine (markHelds _ os 1 w13 o5 (by omega) (by omega) (by omega)).mono ?_
    rintro e w14 ⟨rfl, c14, -⟩
    replace o4 := Recs.chg o4 c14 (fun j _ hj e => by omega)
    replace j4 := j4.chg c14 (fun j _ hj e => by omega)
    replace i6 := i6.chg c14 (fun j _ hj e => by omega)
    replace o7 := OwnRecs.chg o7 c14 (fun j _ hj e => by omega)
    replace j7 := j7.chg c14 (fun j _ hj e => by omega)
    replace nn := nn.trans_chg c14 (fun j hj e => by omega)
    clear c14
    clear o5
    have hb6 := OwnI.blk (OwnI.of i6)
    go_wp2_with fail
    refine (markI _ xs _ w14 (OwnI.of i6) (by omega) (by omega) (by omega)).mono ?_
    rintro e w15 ⟨rfl, c15, -⟩
    replace o4 := Recs.chg o4 c15 (fun j _ hj e => by have := hb6 j e; omega)
    replace j4 := j4.chg c15 (fun j _ hj e => by have := hb6 j e; omega)
    replace o7 := OwnRecs.chg o7 c15 (fun j _ hj e => by have := hb6 j e; omega)
    replace j7 := j7.chg c15 (fun j _ hj e => by have := hb6 j e; omega)
    replace nn := nn.trans_chg c15 (fun j hj e => by have := hb6 j e; omega)
    clear c15
    clear i6
    have hk0 : ¬ (1 + (sizes (heldFlds os) : Int) + (xs.length : Int) < 0) := by omega
    go_wp2_with fail
    refine (eqHelds _ _ r r w15 (OwnRecs.recs o7) o4).mono ?_
    rw [decide_eq_true rfl]
    rintro e w16 ⟨rfl, n16⟩
    have z16 := n16.size
    replace o4 := Recs.new o4 n16
    replace j4 := j4.new n16
    replace o7 := OwnRecs.new o7 n16
    replace j7 := j7.new n16
    replace nn := nn.trans n16
    clear n16
    go_wp2_with fail
    refine (eqInts _ _ ks ks w16 j7.nums j4).mono ?_
    rw [decide_eq_true rfl]
    rintro e w17 ⟨rfl, n17⟩
    replace n17 := n17.new
    have z17 := n17.size
    replace o4 := Recs.new o4 n17
    replace j4 := j4.new n17
    replace o7 := OwnRecs.new o7 n17
    replace j7 := j7.new n17
    replace nn := nn.trans n17
    clear n17
    go_wp2_with fail
    refine (markHelds _ r 1 w17 o7 (by omega) (by omega) (by omega)).mono ?_
    rintro e w18 ⟨rfl, c18, q7⟩
    replace o4 := Recs.chg o4 c18 (fun j _ hj e => by omega)
    replace j4 := j4.chg c18 (fun j _ hj e => by omega)
    replace j7 := j7.chg c18 (fun j _ hj e => by omega)
    replace nn := nn.trans_chg c18 (fun j hj e => by omega)
    clear c18
    clear o7
    have hb7 := OwnI.blk j7
    go_wp2_with fail
    refine (markI _ ks _ w18 j7 (by omega) (by omega) (by omega)).mono ?_
    rintro e w19 ⟨rfl, c19, hq8⟩
    replace o4 := Recs.chg o4 c19 (fun j _ hj e => by have := hb7 j e; omega)
    replace j4 := j4.chg c19 (fun j _ hj e => by have := hb7 j e; omega)
    replace q7 := OwnRecs.chg q7 c19 (fun j _ hj e => by have := hb7 j e; omega)
    replace nn := nn.trans_chg c19 (fun j hj e => by have := hb7 j e; omega)
    replace j7 := hq8 _ j7
    clear c19 hq8
    go_wp2_with fail
    refine (heldHelds _ r 1 w19 (OwnRecs.recs q7) (by omega) (by omega) (by omega)).mono ?_
    rintro e w20 ⟨rfl, rfl⟩
    have hm0 : ¬ (1 + (sizes (heldFlds r) : Int) < 0) := by omega
    go_wp2_with fail
    refine (heldInts _ ks.length (1 + (sizes (heldFlds r) : Int)) w19 j7.nums (by omega) (by omega) (by omega)).mono ?_
    rintro e w20 ⟨rfl, rfl⟩
    have hm1 : ¬ (1 + (sizes (heldFlds r) : Int) + (ks.length : Int) < 0) := by omega
    go_wp2_with fail
    refine (Hto.out w19 nn).mono ?_
    rintro e w20 ⟨v20, rfl, o20, n20⟩
    have z20 := n20.size
    replace o4 := Recs.new o4 n20
    replace j4 := j4.new n20
    replace j7 := j7.new n20
    replace q7 := OwnRecs.new q7 n20
    replace nn := nn.trans n20
    clear n20
    go_wp2_with fail
    refine (Hti.out w20 nn).mono ?_
    rintro e w21 ⟨v21, rfl, n21, i21⟩
    have z21 := n21.size
    replace o4 := Recs.new o4 n21
    replace j4 := j4.new n21
    replace j7 := j7.new n21
    replace q7 := OwnRecs.new q7 n21
    replace o20 := OwnRecs.new o20 n21
    replace nn := nn.trans n21
    clear n21
    go_wp2_with fail
    refine (Him.out _ _ _ _ w21 (OwnRecs.recs o20) i21.nums).mono ?_
    rintro e w22 ⟨v22, t22, B2, rfl, o22, j22, hB2, n22⟩
    have z22 := n22.size
    replace o4 := Recs.new o4 n22
    replace j4 := j4.new n22
    replace j7 := j7.new n22
    replace q7 := OwnRecs.new q7 n22
    replace nn := nn.trans n22
    clear n22
    clear o20
    clear i21
    go_wp2_with fail
    refine (eqHelds _ _ r r w22 (OwnRecs.recs o22) o4).mono ?_
    rw [decide_eq_true rfl]
    rintro e w23 ⟨rfl, n23⟩
    have z23 := n23.size
    replace o4 := Recs.new o4 n23
    replace j4 := j4.new n23
    replace j7 := j7.new n23
    replace q7 := OwnRecs.new q7 n23
    replace j22 := j22.new n23
    replace nn := nn.trans n23
    clear n23
    clear o22
    go_wp2_with fail
    refine (eqInts _ _ ks ks w23 j22.nums j4).mono ?_
    rw [decide_eq_true rfl]
    rintro e w24 ⟨rfl, n24⟩
    replace n24 := n24.new
    have z24 := n24.size
    replace j7 := j7.new n24
    replace q7 := OwnRecs.new q7 n24
    replace nn := nn.trans n24
    clear n24
    clear j22
    clear j4
    clear o4
    go_wp2_with fail
    refine (heldHelds _ r 1 w24 (OwnRecs.recs q7) (by omega) (by omega) (by omega)).mono ?_
    rintro e w25 ⟨rfl, rfl⟩
    go_wp2_with fail
    refine (heldInts _ ks.length (1 + (sizes (heldFlds r) : Int)) w24 j7.nums (by omega) (by omega) (by omega)).mono ?_
    rintro e w25 ⟨rfl, rfl⟩
    go_wp2_with fail
    go_ret
    exact ⟨rfl, nn⟩
end Go.Proofs.Ytfhnhggmoplmiaa
