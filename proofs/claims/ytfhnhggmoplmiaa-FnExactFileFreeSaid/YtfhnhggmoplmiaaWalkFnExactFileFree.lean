/- The walk of FnExactFileFree. -/
import Derived.Test.YtfhnhggmoplmiaaFileSpec
import Derived.Test.YtfhnhggmoplmiaaSmallH
namespace Go.Proofs.Ytfhnhggmoplmiaa
open Go.RowKit

theorem fileFreeH_small (xs : List Int) (os : List HeldR) : smallH ((fileFreeH xs os).getD []) := by
  rcases h : fileFreeH xs os with _ | os'
  · exact small_nil
  · exact small_store (law_fileFree h).1

set_option maxRecDepth 4000 in
set_option maxHeartbeats 4000000 in
theorem walkFnExactFileFree (v : Value) (os : List HeldR) (u : Value) (xs : List Int) (w : World) (h : Helds Any w v os) (g : Ints Any w u xs) :
    Calls Try.prog 3 #[v, u] w fun e w' => e = .returned (.bool true) ∧ New w w' := by
  have h0 := h
  have g0 := g
  have hsz := szHelds v os w h
  have Hsz := Lib.hid hsz
  clear hsz
  obtain ⟨-, a, c, rfl, h1, h2, -⟩ := h
  obtain ⟨au, cu, rfl, g1, ⟨g2, -⟩, -, -⟩ := g
  unfold maxLen at h2 g2
  by_cases hbl : 1048576 < xs.length
  · have hbl' : (1048576 : Int) < xs.length := by omega
    go_enter Try.func3, Try.ntmps3
    go_wp2_with fail
    go_ret
    exact ⟨rfl, New.refl _⟩
  have hbl' : ¬ ((1048576 : Int) < xs.length) := by omega
  go_enter Try.func3, Try.ntmps3
  go_wp2_with fail
  refine Hsz.out.mono ?_
  rintro e w1 ⟨r0, rfl, hr0, n1⟩
  by_cases hneg : r0 < 0
  · go_wp2_with fail
    go_ret
    exact ⟨rfl, n1⟩
  · obtain ⟨hl, hall⟩ := hr0 (by omega)
    have hto := fun (W : World) (n : New w W) => toHelds (.slice a os.length c) os W (Recs.new h0 n) hl hall
    have Hto := Lib.hid hto
    have hti := fun (W : World) (n : New w W) => toInts (.slice au xs.length cu) xs W (g0.new n) (by omega)
    have Hti := Lib.hid hti
    have hsp := fun (S T : Nat → Prop) (v u : Value) (W : World) (H : Helds S W v os) (G : Ints T W u xs) => specFileFree v u os xs W H G
    have Hsp := Lib.hid hsp
    have him := fun (S T : Nat → Prop) (v u : Value) (W : World) (H : Helds S W v os) (G : Ints T W u xs) => implFileFree v u os xs W H G
    have Him := Lib.hid him
    have hsm := (fileFreeH_small xs os).sizes
    have hbig : sizes (heldFlds os) ≤ 4611686018427 := by
      have := sizes_bound os 1048576 (fun o ho => hall o ho)
      have : os.length * (1048576 + 2) ≤ 1048576 * (1048576 + 2) := Nat.mul_le_mul_right _ hl
      omega
    unfold KeepPost at Him Hsp
    clear hto hti hsp him hall
    generalize (fileFreeH xs os).getD [] = r at *
    generalize (fileFreeH xs os).isSome = ok at *
    have hbb : (ok != ok) = false := by simp
    go_wp2_with fail
    refine (Hto.out w1 n1).mono ?_
    rintro e w2 ⟨v2, rfl, o2, n2⟩
    replace n1 := n1.trans n2
    clear n2
    go_wp2_with fail
    refine (Hti.out w2 n1).mono ?_
    rintro e w3 ⟨v3, rfl, n3, i3⟩
    replace n1 := n1.trans n3
    replace o2 := OwnRecs.new o2 n3
    clear n3
    go_wp2_with fail
    refine (Hsp.out _ _ _ _ _ (OwnRecs.recs o2) i3.nums).mono ?_
    rintro e w4 ⟨v4, rfl, o4, n4⟩
    replace o4 := OwnRecs.recs o4
    replace n1 := n1.trans n4
    have z4 := n4.size
    have z3 := n1.size
    clear o2 i3 n4
    go_wp2_with fail
    refine (Hto.out w4 n1).mono ?_
    rintro e w5 ⟨v5, rfl, o5, n5⟩
    have z5 := n5.size
    replace o4 := (Recs.old o4).new n5
    replace o5 := OwnRecs.old o5
    replace n1 := n1.trans n5
    clear n5
    go_wp2_with fail
    refine (Hti.out w5 n1).mono ?_
    rintro e w6 ⟨v6, rfl, n6, i6⟩
    have z6 := n6.size
    replace o4 := o4.new n6
    replace o5 := o5.new n6
    replace i6 := i6.old
    replace n1 := n1.trans n6
    clear n6
    go_wp2_with fail
    refine (Him.out _ _ _ _ _ (OwnRecs.recs o5) i6.nums).mono ?_
    rintro e w7 ⟨v7, rfl, o7, n7⟩
    have z7 := n7.size
    replace o4 := o4.new n7
    replace o5 := o5.new n7
    replace i6 := i6.new n7
    replace o7 := OwnRecs.old o7
    replace n1 := n1.trans n7
    clear n7
    go_wp2_with fail
    refine (eqHelds _ _ r r _ (OwnRecs.recs o7) o4).mono ?_
    rw [decide_eq_true rfl]
    rintro e w8 ⟨rfl, n8⟩
    replace o4 := o4.new n8
    replace o5 := o5.new n8
    replace i6 := i6.new n8
    replace o7 := o7.new n8
    replace n1 := n1.trans n8
    clear n8
    go_wp2_with fail
    refine (Hto.out w8 n1).mono ?_
    rintro e w9 ⟨v9, rfl, o9, n9⟩
    replace o4 := o4.new n9
    replace o5 := o5.new n9
    replace i6 := i6.new n9
    replace o7 := o7.new n9
    replace n1 := n1.trans n9
    clear n9
    go_wp2_with fail
    refine (eqHelds _ _ os os _ (OwnRecs.recs o5) (OwnRecs.recs o9)).mono ?_
    rw [decide_eq_true rfl]
    rintro e w10 ⟨rfl, n10⟩
    replace o4 := o4.new n10
    replace o5 := o5.new n10
    replace i6 := i6.new n10
    replace o7 := o7.new n10
    replace n1 := n1.trans n10
    clear n10 o9
    go_wp2_with fail
    refine (Hti.out w10 n1).mono ?_
    rintro e w11 ⟨v11, rfl, n11, i11⟩
    replace o4 := o4.new n11
    replace o5 := o5.new n11
    replace i6 := i6.new n11
    replace o7 := o7.new n11
    replace n1 := n1.trans n11
    clear n11
    go_wp2_with fail
    refine (eqInts _ _ xs xs _ i6.nums i11.nums).mono ?_
    rw [decide_eq_true rfl]
    rintro e w12 ⟨rfl, d12⟩
    have n12 := d12.new
    replace o4 := o4.new n12
    replace o5 := o5.new n12
    replace i6 := i6.new n12
    replace o7 := o7.new n12
    replace n1 := n1.trans n12
    clear n12 d12 i11
    go_wp2_with fail
    refine (markHelds _ os 1 _ o5 (by omega) (by omega) (by omega)).mono ?_
    rintro e w13 ⟨rfl, c13, -⟩
    replace o4 := o4.chg c13 (fun j _ hj e => by omega)
    replace o7 := o7.chg c13 (fun j _ hj e => by omega)
    replace i6 := i6.chg c13 (fun j _ hj e => by omega)
    replace n1 := n1.trans_chg c13 (fun j hj e => by omega)
    clear c13 o5
    go_wp2_with fail
    refine (markI _ xs _ _ (OwnI.of i6) (by omega) (by omega) (by omega)).mono ?_
    rintro e w14 ⟨rfl, c14, -⟩
    have hblk : ∀ j, blk v6 (.nums xs) = some j → w5.heap.size ≤ j ∧ j < w6.heap.size := fun j e => by
      have := (Fld.owns.blk (f := .nums xs) (OwnI.of i6) j e).1
      omega
    replace o4 := o4.chg c14 (fun j _ hj e => by have := hblk j e; omega)
    replace o7 := o7.chg c14 (fun j _ hj e => by have := hblk j e; omega)
    replace n1 := n1.trans_chg c14 (fun j hj e => by have := hblk j e; omega)
    clear c14 i6 hblk
    have hk0 : ¬ (1 + (sizes (heldFlds os) : Int) + (xs.length : Int) < 0) := by omega
    go_wp2_with fail
    refine (eqHelds _ _ r r _ (OwnRecs.recs o7) o4).mono ?_
    rw [decide_eq_true rfl]
    rintro e w15 ⟨rfl, n15⟩
    replace o4 := o4.new n15
    replace o7 := o7.new n15
    replace n1 := n1.trans n15
    clear n15
    go_wp2_with fail
    refine (markHelds _ r 1 _ o7 (by omega) (by omega) (by omega)).mono ?_
    rintro e w16 ⟨rfl, c16, o16⟩
    replace o4 := o4.chg c16 (fun j _ hj e => by omega)
    replace n1 := n1.trans_chg c16 (fun j hj e => by omega)
    clear c16 o7
    go_wp2_with fail
    refine (heldHelds _ r 1 _ (OwnRecs.recs o16) (by omega) (by omega) (by omega)).mono ?_
    rintro e w17 ⟨rfl, rfl⟩
    have hm0 : ¬ (1 + (sizes (heldFlds r) : Int) < 0) := by omega
    go_wp2_with fail
    refine (Hto.out w16 n1).mono ?_
    rintro e w18 ⟨v18, rfl, o18, n18⟩
    replace o4 := o4.new n18
    replace o16 := o16.new n18
    replace n1 := n1.trans n18
    clear n18
    go_wp2_with fail
    refine (Hti.out w18 n1).mono ?_
    rintro e w19 ⟨v19, rfl, n19, i19⟩
    replace o4 := o4.new n19
    replace o16 := o16.new n19
    replace o18 := OwnRecs.new o18 n19
    replace n1 := n1.trans n19
    clear n19
    go_wp2_with fail
    refine (Him.out _ _ _ _ _ (OwnRecs.recs o18) i19.nums).mono ?_
    rintro e w20 ⟨v20, rfl, o20, n20⟩
    replace o4 := o4.new n20
    replace o16 := o16.new n20
    replace n1 := n1.trans n20
    clear n20 o18 i19
    go_wp2_with fail
    refine (eqHelds _ _ r r _ (OwnRecs.recs o20) o4).mono ?_
    rw [decide_eq_true rfl]
    rintro e w21 ⟨rfl, n21⟩
    replace o16 := o16.new n21
    replace n1 := n1.trans n21
    clear o20 o4 n21
    go_wp2_with fail
    refine (heldHelds _ r 1 _ (OwnRecs.recs o16) (by omega) (by omega) (by omega)).mono ?_
    rintro e w22 ⟨rfl, rfl⟩
    go_wp2_with fail
    go_ret
    exact ⟨rfl, n1⟩
end Go.Proofs.Ytfhnhggmoplmiaa
