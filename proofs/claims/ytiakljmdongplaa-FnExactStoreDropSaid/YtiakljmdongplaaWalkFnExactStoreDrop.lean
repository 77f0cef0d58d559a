/- The walk of FnExactStoreDrop. -/
import Derived.Test.YtiakljmdongplaaStoreDropSpec
import Derived.Test.YtiakljmdongplaaSmallH
namespace Go.Proofs.Ytiakljmdongplaa
open Go.RowKit

set_option maxRecDepth 4000 in
set_option maxHeartbeats 2000000 in
theorem walkFnExactStoreDrop (v : Value) (os : List HeldR) (k : Int) (w : World) (h : Helds Any w v os) (hk : I64 k) :
    Calls Try.prog 4 #[v, .int .i64 k] w fun e w' => e = .returned (.bool true) ∧ New w w' := by
  have h0 := h
  have hsz := szHelds v os w h
  have Hsz := Lib.hid hsz
  clear hsz
  obtain ⟨-, a, c, rfl, h1, h2, -⟩ := h
  unfold maxLen at h2
  go_enter Try.func4, Try.ntmps4
  go_wp2_with fail
  refine Hsz.out.mono ?_
  rintro e w1 ⟨r0, rfl, hr0, n1⟩
  by_cases hneg : r0 < 0
  · go_wp2_with fail
    go_ret
    exact ⟨rfl, n1⟩
  · obtain ⟨hl, hall⟩ := hr0 (by omega)
    have hto := fun (W : World) (n : New w W) => toHelds (.slice a os.length c) os W (Recs.new h0 n) hl hall
    have Hto := Lib.hid hto
    have hsp := fun (S : Nat → Prop) (u : Value) (W : World) (H : Helds S W u os) => specStoreDrop u os k W H
    have Hsp := Lib.hid hsp
    have him := fun (S : Nat → Prop) (u : Value) (W : World) (H : Helds S W u os) => implStoreDrop u os k W H hk
    have Him := Lib.hid him
    have hsm := (dropH_small k os).sizes
    have hbig : sizes (heldFlds os) ≤ 4611686018427 := by
      have := sizes_bound os 1048576 (fun o ho => hall o ho)
      have : os.length * (1048576 + 2) ≤ 1048576 * (1048576 + 2) := Nat.mul_le_mul_right _ hl
      omega
    unfold KeepPost at Hsp Him
    clear hto hsp him hall
    generalize hrr : dropH k os = rr at *
    have Hrr := Lib.hid hrr
    clear hrr
    generalize rr.getD [] = r at *
    generalize rr.isSome = ok at *
    have hbb : (ok != ok) = false := by simp
    go_wp2_with fail
    refine (Hto.out w1 n1).mono ?_
    rintro e w2 ⟨v2, rfl, o2, n2⟩
    go_wp2_with fail
    refine (Hsp.out _ _ _ (OwnRecs.recs o2)).mono ?_
    rintro e w3 ⟨v3, rfl, o3, n3⟩
    have nn := (n1.trans n2).trans n3
    clear o2
    go_wp2_with fail
    refine (Hto.out w3 nn).mono ?_
    rintro e w4 ⟨v4, rfl, o4, n4⟩
    have z1 := n1.size
    have z2 := n2.size
    have z3 := n3.size
    have z4 := n4.size
    replace o3 := (OwnRecs.old o3).new n4
    replace o4 := OwnRecs.old o4
    replace nn := nn.trans n4
    clear n1 n2 n3 n4
    go_wp2_with fail
    refine (Him.out _ _ _ (OwnRecs.recs o4)).mono ?_
    rintro e w5 ⟨v5, rfl, o5, n5⟩
    replace o3 := o3.new n5
    replace o4 := o4.new n5
    replace nn := nn.trans n5
    replace o5 := OwnRecs.old o5
    have z5 := n5.size
    clear n5
    go_wp2_with fail
    refine (eqHelds _ _ r r _ (OwnRecs.recs o5) (OwnRecs.recs o3)).mono ?_
    rw [decide_eq_true rfl]
    rintro e w6 ⟨rfl, n6⟩
    replace o3 := o3.new n6
    replace o4 := o4.new n6
    replace o5 := o5.new n6
    replace nn := nn.trans n6
    clear n6
    go_wp2_with fail
    refine (Hto.out w6 nn).mono ?_
    rintro e w7 ⟨v7, rfl, o7, n7⟩
    replace o3 := o3.new n7
    replace o4 := o4.new n7
    replace o5 := o5.new n7
    replace nn := nn.trans n7
    go_wp2_with fail
    refine (eqHelds _ _ os os _ (OwnRecs.recs o4) (OwnRecs.recs o7)).mono ?_
    rw [decide_eq_true rfl]
    rintro e w8 ⟨rfl, n8⟩
    replace o3 := o3.new n8
    replace o4 := o4.new n8
    replace o5 := o5.new n8
    replace nn := nn.trans n8
    clear o7 n7 n8
    go_wp2_with fail
    refine (markHelds _ os 1 _ o4 (by omega) (by omega) (by omega)).mono ?_
    rintro e w9 ⟨rfl, c9, -⟩
    replace o3 := o3.chg c9 (fun j _ hj e => by omega)
    replace o5 := o5.chg c9 (fun j _ hj e => by omega)
    replace nn := nn.trans_chg c9 (fun j hj e => by omega)
    clear c9 o4
    have hk0 : ¬ (1 + (sizes (heldFlds os) : Int) < 0) := by omega
    go_wp2_with fail
    refine (eqHelds _ _ r r _ (OwnRecs.recs o5) (OwnRecs.recs o3)).mono ?_
    rw [decide_eq_true rfl]
    rintro e w10 ⟨rfl, n10⟩
    replace o3 := o3.new n10
    replace o5 := o5.new n10
    replace nn := nn.trans n10
    clear n10
    go_wp2_with fail
    refine (markHelds _ r 1 _ o5 (by omega) (by omega) (by omega)).mono ?_
    rintro e w11 ⟨rfl, c11, o11⟩
    replace o3 := o3.chg c11 (fun j _ hj e => by omega)
    replace nn := nn.trans_chg c11 (fun j hj e => by omega)
    clear c11 o5
    go_wp2_with fail
    refine (heldHelds _ r 1 _ (OwnRecs.recs o11) (by omega) (by omega) (by omega)).mono ?_
    rintro e w12 ⟨rfl, rfl⟩
    have hm0 : ¬ (1 + (sizes (heldFlds r) : Int) < 0) := by omega
    go_wp2_with fail
    refine (Hto.out w11 nn).mono ?_
    rintro e w13 ⟨v13, rfl, o13, n13⟩
    replace o3 := o3.new n13
    replace o11 := o11.new n13
    replace nn := nn.trans n13
    go_wp2_with fail
    refine (Him.out _ _ _ (OwnRecs.recs o13)).mono ?_
    rintro e w14 ⟨v14, rfl, o14, n14⟩
    replace o3 := o3.new n14
    replace o11 := o11.new n14
    replace nn := nn.trans n14
    clear o13 n13 n14
    go_wp2_with fail
    refine (eqHelds _ _ r r _ (OwnRecs.recs o14) (OwnRecs.recs o3)).mono ?_
    rw [decide_eq_true rfl]
    rintro e w15 ⟨rfl, n15⟩
    replace o11 := o11.new n15
    replace nn := nn.trans n15
    clear o14 o3 n15
    go_wp2_with fail
    refine (heldHelds _ r 1 _ (OwnRecs.recs o11) (by omega) (by omega) (by omega)).mono ?_
    rintro e w16 ⟨rfl, rfl⟩
    go_wp2_with fail
    go_ret
    exact ⟨rfl, nn⟩
end Go.Proofs.Ytiakljmdongplaa
