/- The walk of FnExactTreeDrop. -/
import Derived.Test.YtkffejommncinaaDoorSpecDrop
import Derived.Test.YtkffejommncinaaDoorItemHeld
namespace Go.Proofs.YtkffejommncinaaDoor
open Go.RowKit

theorem dropR_small {os : List ItemR} {p : List UInt8} (hall : ∀ o ∈ os, o.size ≤ 1048576) : ((dropR os p).getD []).length ≤ os.length ∧ ∀ o ∈ (dropR os p).getD [], o.size ≤ 1048576 := by
  unfold dropR
  split
  · exact ⟨List.length_filter_le _ _, fun o ho => hall o (mem_drop.1 ho).1⟩
  · exact ⟨by simp, by simp⟩
theorem sizes_items : ∀ {os : List ItemR}, (∀ o ∈ os, o.size ≤ 1048576) → sizes (itemFlds os) ≤ os.length * 1048578
  | [], _ => by simp [itemFlds, sizes]
  | o :: r, h => by
    have ih := sizes_items (os := r) fun x hx => h x (List.mem_cons_of_mem _ hx)
    have ho := h o List.mem_cons_self
    unfold ItemR.size at ho
    show sizes (o.flds ++ itemFlds r) ≤ _
    rw [sizes_append]
    have : sizes o.flds = 2 + o.ids.length := by simp [ItemR.flds, sizes, Fld.size]; omega
    rw [List.length_cons]; omega

set_option maxRecDepth 4000 in
set_option maxHeartbeats 4000000 in
theorem walkFnExactTreeDrop (v : Value) (os : List ItemR) (sb : ByteArray) (w : World) (h : Items Any w v os) (hsb : sb.size ≤ maxLen) :
    Calls Tryd.prog 7 #[v, .string sb] w fun e w' => e = .returned (.bool true) ∧ New w w' := by
  obtain ⟨s, rfl⟩ : ∃ s : List UInt8, sb = ⟨s.toArray⟩ := ⟨sb.data.toList, by rw [Lib.mk_data]⟩
  have hsl : (⟨s.toArray⟩ : ByteArray).size = s.length := by show s.toArray.size = _; simp
  rw [hsl] at hsb
  unfold maxLen at hsb
  have h0 := h
  have hsz := szItems v os w h
  have Hsz := Lib.hid hsz
  clear hsz hsl
  obtain ⟨-, a, c, rfl, h1, h2, -⟩ := h
  unfold maxLen at h2
  by_cases hbig : 1048576 < s.length
  · have hd : (1048576 : Int) < (s.length : Int) := by omega
    go_enter Tryd.func7, Tryd.ntmps7
    go_wp2_with fail
    go_ret
    exact ⟨rfl, New.refl _⟩
  have hd : ¬ ((1048576 : Int) < (s.length : Int)) := by omega
  go_enter Tryd.func7, Tryd.ntmps7
  go_wp2_with fail
  refine Hsz.out.mono ?_
  rintro e w1 ⟨r0, rfl, hr1, hr0, n1⟩
  by_cases hneg : r0 < 0
  · go_wp2_with fail
    go_ret
    exact ⟨rfl, n1⟩
  · obtain ⟨hl, hall⟩ := hr0 (by omega)
    have hto := fun (W : World) (n : New w W) => toItems (.slice a os.length c) os W (Recs.new h0 n) hl hall
    have Hto := Lib.hid hto
    have hsp := fun (u : Value) (W : World) (H : Items Any W u os) => specTreeDrop u os s W H hall
    have him := fun (u : Value) (W : World) (H : Items Any W u os) => implTreeDrop u os s W H hall (by omega)
    obtain ⟨hrl, hrs⟩ := dropR_small (p := s) hall
    have hbig3 := sizes_items hrs
    have hbig0 := sizes_items hall
    have hbig1 : sizes (itemFlds os) ≤ 4398046511104 := by omega
    have hbig2 : sizes (itemFlds ((dropR os s).getD [])) ≤ 4398046511104 := by omega
    unfold TreesPost txt at hsp him
    generalize (dropR os s).getD [] = r at *
    generalize (dropR os s).isSome = ok at *
    have hbb : (ok != ok) = false := by simp
    have Hsp := Lib.hid hsp
    have Him := Lib.hid him
    clear hto hsp him hrl hrs hr0 hall hbig0 hbig3
    go_wp2_with fail
    refine (Hto.out w1 n1).mono ?_
    rintro e w2 ⟨v2, rfl, o2, n2⟩
    obtain ⟨av2, cv2, rfl, -⟩ := o2.shape
    go_wp2_with fail
    refine (Hsp.out _ _ (Recs.mono (OwnRecs.recs o2) (fun _ _ _ => trivial))).mono ?_
    rintro e w3 ⟨v3, rfl, o3, n3⟩
    obtain ⟨av3, cv3, rfl, -⟩ := o3.shape
    have z1 := n1.size
    have z2 := n2.size
    have z3 := n3.size
    have nn := (n1.trans n2).trans n3
    replace o3 := OwnRecs.old o3
    clear o2 n1 n2 n3
    go_wp2_with fail
    refine (Hto.out w3 nn).mono ?_
    rintro e w4 ⟨v4, rfl, o4, n4⟩
    obtain ⟨av4, cv4, rfl, -⟩ := o4.shape
    replace o3 := OwnRecs.new o3 n4
    replace o4 := OwnRecs.old o4
    have z4 := n4.size
    replace nn := nn.trans n4
    clear n4
    go_wp2_with fail
    refine (Him.out _ _ (Recs.mono (OwnRecs.recs o4) (fun _ _ _ => trivial))).mono ?_
    rintro e w5 ⟨v5, rfl, o5, n5⟩
    obtain ⟨av5, cv5, rfl, -⟩ := o5.shape
    replace o3 := OwnRecs.new o3 n5
    replace o4 := OwnRecs.new o4 n5
    replace o5 := OwnRecs.old o5
    have z5 := n5.size
    replace nn := nn.trans n5
    clear n5
    go_wp2_with fail
    refine (eqItems _ _ r r _ (OwnRecs.recs o5) (OwnRecs.recs o3)).mono ?_
    rw [decide_eq_true rfl]
    rintro e w6 ⟨rfl, n6⟩
    replace o3 := OwnRecs.new o3 n6
    replace o4 := OwnRecs.new o4 n6
    replace o5 := OwnRecs.new o5 n6
    replace nn := nn.trans n6
    clear n6
    go_wp2_with fail
    refine (Hto.out w6 nn).mono ?_
    rintro e w7 ⟨v7, rfl, o7, n7⟩
    obtain ⟨av7, cv7, rfl, -⟩ := o7.shape
    replace o3 := OwnRecs.new o3 n7
    replace o4 := OwnRecs.new o4 n7
    replace o5 := OwnRecs.new o5 n7
    replace nn := nn.trans n7
    clear n7
    go_wp2_with fail
    refine (eqItems _ _ os os _ (OwnRecs.recs o4) (OwnRecs.recs o7)).mono ?_
    rw [decide_eq_true rfl]
    rintro e w8 ⟨rfl, n8⟩
    replace o3 := OwnRecs.new o3 n8
    replace o4 := OwnRecs.new o4 n8
    replace o5 := OwnRecs.new o5 n8
    replace nn := nn.trans n8
    clear o7 n8
    go_wp2_with fail
    refine (markItems _ os 1 _ o4 (by omega) (by omega) (by omega)).mono ?_
    rintro e w9 ⟨rfl, c9, -⟩
    replace o3 := OwnRecs.chg o3 c9 (fun j _ hj e => by omega)
    replace o5 := OwnRecs.chg o5 c9 (fun j _ hj e => by omega)
    replace nn := nn.trans_chg c9 (fun j hj e => by omega)
    clear c9 o4
    have hk0 : ¬ (1 + (sizes (itemFlds os) : Int) < 0) := by omega
    go_wp2_with fail
    refine (eqItems _ _ r r _ (OwnRecs.recs o5) (OwnRecs.recs o3)).mono ?_
    rw [decide_eq_true rfl]
    rintro e w10 ⟨rfl, n10⟩
    replace o3 := OwnRecs.new o3 n10
    replace o5 := OwnRecs.new o5 n10
    replace nn := nn.trans n10
    clear n10
    go_wp2_with fail
    refine (markItems _ r 1 _ o5 (by omega) (by omega) (by omega)).mono ?_
    rintro e w11 ⟨rfl, c11, o11⟩
    replace o3 := OwnRecs.chg o3 c11 (fun j _ hj e => by omega)
    replace nn := nn.trans_chg c11 (fun j hj e => by omega)
    clear c11 o5
    go_wp2_with fail
    refine (heldItems _ r 1 _ (OwnRecs.recs o11) (by omega) (by omega) (by omega)).mono ?_
    rintro e w12 ⟨rfl, n12⟩
    have hm0 : ¬ (1 + (sizes (itemFlds r) : Int) < 0) := by omega
    replace o3 := OwnRecs.new o3 n12
    replace o11 := OwnRecs.new o11 n12
    replace nn := nn.trans n12
    clear n12
    go_wp2_with fail
    refine (Hto.out w12 nn).mono ?_
    rintro e w13 ⟨v13, rfl, o13, n13⟩
    obtain ⟨av13, cv13, rfl, -⟩ := o13.shape
    replace o3 := OwnRecs.new o3 n13
    replace o11 := OwnRecs.new o11 n13
    replace nn := nn.trans n13
    clear n13
    go_wp2_with fail
    refine (Him.out _ _ (Recs.mono (OwnRecs.recs o13) (fun _ _ _ => trivial))).mono ?_
    rintro e w14 ⟨v14, rfl, o14, n14⟩
    obtain ⟨av14, cv14, rfl, -⟩ := o14.shape
    replace o3 := OwnRecs.new o3 n14
    replace o11 := OwnRecs.new o11 n14
    replace nn := nn.trans n14
    clear o13 n14
    go_wp2_with fail
    refine (eqItems _ _ r r _ (OwnRecs.recs o14) (OwnRecs.recs o3)).mono ?_
    rw [decide_eq_true rfl]
    rintro e w15 ⟨rfl, n15⟩
    replace o11 := OwnRecs.new o11 n15
    replace nn := nn.trans n15
    clear o14 o3 n15
    go_wp2_with fail
    refine (heldItems _ r 1 _ (OwnRecs.recs o11) (by omega) (by omega) (by omega)).mono ?_
    rintro e w16 ⟨rfl, n16⟩
    go_wp2_with fail
    go_ret
    exact ⟨rfl, nn.trans n16⟩
end Go.Proofs.YtkffejommncinaaDoor
