/- The walk of FnExactTreeFind. -/
import Derived.Test.YtnpblnkjdebedaaDoorSpecList
import Derived.Test.YtnpblnkjdebedaaDoorItemMark
import Derived.Test.YtnpblnkjdebedaaDoorWalkFnExactTreeList
namespace Go.Proofs.YtnpblnkjdebedaaDoor
open Go.RowKit

theorem findR_small {os : List ItemR} {p : List UInt8} (hall : ∀ o ∈ os, o.size ≤ 1048576) : ((findR os p).getD noItem).ids.length ≤ 1048576 := by
  unfold findR
  split
  · rcases hf : findI os p with _ | o
    · simp [noItem]
    · exact (ItemR.parts (hall o (findI_some hf).1)).2
  · simp [noItem]
def Box (w : World) (g : Nat) (o : ItemR) (u : Value) : Prop := w.heap[g]? = some (.cells #[.string ⟨o.path.toArray⟩, .bool o.dir, u] 28)
theorem Box.cells {w : World} {g : Nat} {o : ItemR} {u : Value} (h : Box w g o u) : w.cell? ⟨g, 0, none⟩ = some (.string ⟨o.path.toArray⟩) ∧ w.cell? ⟨g, 1, none⟩ = some (.bool o.dir) ∧ w.cell? ⟨g, 2, none⟩ = some u := by
  obtain ⟨h0, h1, h2, -⟩ := set3_cells h
  exact ⟨h0, h1, h2⟩
theorem Box.new {w w' : World} {g : Nat} {o : ItemR} {u : Value} (h : Box w g o u) (n : New w w') : Box w' g o u := n.heap h
theorem Box.chg {w w' : World} {g : Nat} {o : ItemR} {u : Value} {S : Nat → Prop} (h : Box w g o u) (c : Chg S w w') (hs : ¬ S g) : Box w' g o u := c.heap h hs
theorem Box.made (w : World) (o : ItemR) (u : Value) : Box (w.alloc (.cells #[.string ⟨o.path.toArray⟩, .bool o.dir, u] 28)) w.heap.size o u := heap_alloc_new w _
theorem OwnI.new {S : Nat → Prop} {w w' : World} {v : Value} {xs : List Int} (h : OwnI S w v xs) (g : New w w') : OwnI S w' v xs := h.chg g fun _ _ _ hf => hf
theorem OwnI.old {S : Nat → Prop} {w : World} {v : Value} {xs : List Int} (h : OwnI S w v xs) : OwnI (fun j => S j ∧ j < w.heap.size) w v xs := h.mono fun _ hj hs => ⟨hs, hj⟩

set_option maxRecDepth 4000 in
set_option maxHeartbeats 4000000 in
theorem walkFnExactTreeFind (v : Value) (os : List ItemR) (sb : ByteArray) (w : World) (h : Items Any w v os) (hsb : sb.size ≤ maxLen) :
    Calls Tryd.prog 10 #[v, .string sb] w fun e w' => e = .returned (.bool true) ∧ New w w' := by
  obtain ⟨s, rfl⟩ : ∃ s : List UInt8, sb = ⟨s.toArray⟩ := ⟨sb.data.toList, by rw [Lib.mk_data]⟩
  have hsl : (⟨s.toArray⟩ : ByteArray).size = s.length := by show s.toArray.size = _; simp
  rw [hsl] at hsb
  unfold maxLen at hsb
  have h0 := h
  have hsz := szItems v os w h
  have Hsz := Lib.hid hsz
  clear hsz hsl
  obtain ⟨-, a, c, rfl, h1, h2, -⟩ := h
  unfold maxLen at h2
  by_cases hbig : 1048576 < s.length
  · have hd : (1048576 : Int) < (s.length : Int) := by omega
    go_enter Tryd.func10, Tryd.ntmps10
    go_wp2_with fail
    go_ret
    exact ⟨rfl, New.refl _⟩
  have hd : ¬ ((1048576 : Int) < (s.length : Int)) := by omega
  go_enter Tryd.func10, Tryd.ntmps10
  go_wp2_with fail
  refine Hsz.out.mono ?_
  rintro e w1 ⟨r0, rfl, hr1, hr0, n1⟩
  by_cases hneg : r0 < 0
  · go_wp2_with fail
    go_ret
    exact ⟨rfl, n1⟩
  · obtain ⟨hl, hall⟩ := hr0 (by omega)
    have hto := fun (W : World) (n : New w W) => toItems (.slice a os.length c) os W (Recs.new h0 n) hl hall
    have Hto := Lib.hid hto
    have hsp := fun (u : Value) (W : World) (H : Items Any W u os) => specTreeFind u os s W H hall
    have him := fun (u : Value) (W : World) (H : Items Any W u os) => implTreeFind u os s W H hall (by omega)
    have hrl := findR_small (p := s) hall
    have hbig0 := sizes_items hall
    have hbig1 : sizes (itemFlds os) ≤ 4398046511104 := by omega
    unfold FoundPost txt at hsp him
    generalize (findR os s).getD noItem = o at *
    generalize (findR os s).isSome = ok at *
    have hbb : (ok != ok) = false := by simp
    have Hsp := Lib.hid hsp
    have Him := Lib.hid him
    clear hto hsp him hr0 hall hbig0
    have nn := n1
    have z1 := n1.size
    clear n1
    go_wp2_with fail
    refine (Hto.out _ nn).mono ?_
    rintro e w2 ⟨v2, rfl, o2, n2⟩
    obtain ⟨av2, cv2, rfl, -⟩ := o2.shape
    have z2 := n2.size
    replace o2 := OwnRecs.old o2
    replace nn := nn.trans n2
    clear n2
    go_wp2_with fail
    refine (Hsp.out _ _ (Recs.mono (OwnRecs.recs o2) (fun _ _ _ => trivial))).mono ?_
    rintro e w3 ⟨u3, rfl, o3, n3⟩
    obtain ⟨au3, cu3, rfl, -⟩ := o3.nums
    have z3 := n3.size
    replace o3 := OwnI.old o3
    replace o2 := OwnRecs.new o2 n3
    replace nn := nn.trans n3
    have m3 : New w3 (w3.alloc (.cells #[.string ⟨o.path.toArray⟩, .bool o.dir, .slice au3 o.ids.length cu3] 28)) := (New.refl _).alloc _
    have x3 := Box.made w3 o (.slice au3 o.ids.length cu3)
    have y3 : (w3.alloc (.cells #[.string ⟨o.path.toArray⟩, .bool o.dir, .slice au3 o.ids.length cu3] 28)).heap.size = w3.heap.size + 1 := World.size_alloc _ _
    replace o2 := OwnRecs.new o2 m3
    replace o3 := OwnI.new o3 m3
    replace nn := nn.trans m3
    clear n3 m3
    clear o2
    go_wp2_with fail
    refine (Hto.out _ nn).mono ?_
    rintro e w4 ⟨v4, rfl, o4, n4⟩
    obtain ⟨av4, cv4, rfl, -⟩ := o4.shape
    have z4 := n4.size
    replace o4 := OwnRecs.old o4
    replace o3 := OwnI.new o3 n4
    replace x3 := Box.new x3 n4
    replace nn := nn.trans n4
    clear n4
    go_wp2_with fail
    refine (Him.out _ _ (Recs.mono (OwnRecs.recs o4) (fun _ _ _ => trivial))).mono ?_
    rintro e w5 ⟨u5, rfl, o5, n5⟩
    obtain ⟨au5, cu5, rfl, -⟩ := o5.nums
    have z5 := n5.size
    replace o5 := OwnI.old o5
    replace o3 := OwnI.new o3 n5
    replace x3 := Box.new x3 n5
    replace o4 := OwnRecs.new o4 n5
    replace nn := nn.trans n5
    have m5 : New w5 (w5.alloc (.cells #[.string ⟨o.path.toArray⟩, .bool o.dir, .slice au5 o.ids.length cu5] 28)) := (New.refl _).alloc _
    have x5 := Box.made w5 o (.slice au5 o.ids.length cu5)
    have y5 : (w5.alloc (.cells #[.string ⟨o.path.toArray⟩, .bool o.dir, .slice au5 o.ids.length cu5] 28)).heap.size = w5.heap.size + 1 := World.size_alloc _ _
    replace o3 := OwnI.new o3 m5
    replace x3 := Box.new x3 m5
    replace o4 := OwnRecs.new o4 m5
    replace o5 := OwnI.new o5 m5
    replace nn := nn.trans m5
    clear n5 m5
    obtain ⟨x50, x51, x52⟩ := Box.cells x5
    obtain ⟨x30, x31, x32⟩ := Box.cells x3
    have x5' := Lib.hid x5
    have x3' := Lib.hid x3
    clear x5 x3
    go_wp2_with fail
    refine (eqItem o o _ _ _ o5.nums o3.nums).mono ?_
    rw [decide_eq_true (rfl : o = o)]
    rintro e w6 ⟨rfl, n6⟩
    have x5 := x5'.out
    have x3 := x3'.out
    clear x5' x50 x51 x52 x3' x30 x31 x32
    replace o3 := OwnI.new o3 n6
    replace x3 := Box.new x3 n6
    replace o4 := OwnRecs.new o4 n6
    replace o5 := OwnI.new o5 n6
    replace x5 := Box.new x5 n6
    replace nn := nn.trans n6
    clear n6
    go_wp2_with fail
    refine (Hto.out _ nn).mono ?_
    rintro e w7 ⟨v7, rfl, o7, n7⟩
    obtain ⟨av7, cv7, rfl, -⟩ := o7.shape
    have z7 := n7.size
    replace o7 := OwnRecs.old o7
    replace o3 := OwnI.new o3 n7
    replace x3 := Box.new x3 n7
    replace o4 := OwnRecs.new o4 n7
    replace o5 := OwnI.new o5 n7
    replace x5 := Box.new x5 n7
    replace nn := nn.trans n7
    clear n7
    go_wp2_with fail
    refine (eqItems _ _ os os _ (OwnRecs.recs o4) (OwnRecs.recs o7)).mono ?_
    rw [decide_eq_true rfl]
    rintro e w8 ⟨rfl, n8⟩
    replace o3 := OwnI.new o3 n8
    replace x3 := Box.new x3 n8
    replace o4 := OwnRecs.new o4 n8
    replace o5 := OwnI.new o5 n8
    replace x5 := Box.new x5 n8
    replace o7 := OwnRecs.new o7 n8
    replace nn := nn.trans n8
    clear o7
    clear n8
    go_wp2_with fail
    refine (markItems _ os 1 _ o4 (by omega) (by omega) (by omega)).mono ?_
    rintro e w9 ⟨rfl, c9, -⟩
    clear o4
    replace o3 := OwnI.chg o3 c9 (fun j _ hj e => by omega)
    replace x3 := Box.chg x3 c9 (fun e => by omega)
    replace o5 := OwnI.chg o5 c9 (fun j _ hj e => by omega)
    replace x5 := Box.chg x5 c9 (fun e => by omega)
    replace nn := nn.trans_chg c9 (fun j hj e => by omega)
    clear c9
    have hk0 : ¬ (1 + (sizes (itemFlds os) : Int) < 0) := by omega
    obtain ⟨x50, x51, x52⟩ := Box.cells x5
    obtain ⟨x30, x31, x32⟩ := Box.cells x3
    have x5' := Lib.hid x5
    have x3' := Lib.hid x3
    clear x5 x3
    go_wp2_with fail
    refine (eqItem o o _ _ _ o5.nums o3.nums).mono ?_
    rw [decide_eq_true (rfl : o = o)]
    rintro e w10 ⟨rfl, n10⟩
    have x5 := x5'.out
    have x3 := x3'.out
    clear x5' x50 x51 x52 x3' x30 x31 x32
    replace o3 := OwnI.new o3 n10
    replace x3 := Box.new x3 n10
    replace o5 := OwnI.new o5 n10
    replace x5 := Box.new x5 n10
    replace nn := nn.trans n10
    clear n10
    obtain ⟨x50, x51, x52⟩ := Box.cells x5
    have x5' := Lib.hid x5
    clear x5
    go_wp2_with fail
    refine (markItem o _ 1 _ o5 (by omega) (by omega) (by omega)).mono ?_
    rintro e w11 ⟨rfl, c11, o11⟩
    have x5 := x5'.out
    clear x5' x50 x51 x52
    clear o5
    replace o3 := OwnI.chg o3 c11 (fun j _ hj e => by omega)
    replace x3 := Box.chg x3 c11 (fun e => by omega)
    replace x5 := Box.chg x5 c11 (fun e => by omega)
    replace nn := nn.trans_chg c11 (fun j hj e => by omega)
    clear c11
    obtain ⟨x50, x51, x52⟩ := Box.cells x5
    have x5' := Lib.hid x5
    clear x5
    go_wp2_with fail
    refine (heldItem o.path o.dir _ o.ids.length 1 _ o11.nums (by omega) (by omega) (by omega)).mono ?_
    rintro e w12 ⟨rfl, n12⟩
    have x5 := x5'.out
    clear x5' x50 x51 x52
    replace o3 := OwnI.new o3 n12
    replace x3 := Box.new x3 n12
    replace x5 := Box.new x5 n12
    replace o11 := OwnI.new o11 n12
    replace nn := nn.trans n12
    clear n12
    have hm0 : ¬ (1 + (o.ids.length : Int) < 0) := by omega
    go_wp2_with fail
    refine (Hto.out _ nn).mono ?_
    rintro e w13 ⟨v13, rfl, o13, n13⟩
    obtain ⟨av13, cv13, rfl, -⟩ := o13.shape
    have z13 := n13.size
    replace o13 := OwnRecs.old o13
    replace o3 := OwnI.new o3 n13
    replace x3 := Box.new x3 n13
    replace x5 := Box.new x5 n13
    replace o11 := OwnI.new o11 n13
    replace nn := nn.trans n13
    clear n13
    go_wp2_with fail
    refine (Him.out _ _ (Recs.mono (OwnRecs.recs o13) (fun _ _ _ => trivial))).mono ?_
    rintro e w14 ⟨u14, rfl, o14, n14⟩
    obtain ⟨au14, cu14, rfl, -⟩ := o14.nums
    have z14 := n14.size
    replace o14 := OwnI.old o14
    replace o3 := OwnI.new o3 n14
    replace x3 := Box.new x3 n14
    replace x5 := Box.new x5 n14
    replace o11 := OwnI.new o11 n14
    replace o13 := OwnRecs.new o13 n14
    replace nn := nn.trans n14
    have m14 : New w14 (w14.alloc (.cells #[.string ⟨o.path.toArray⟩, .bool o.dir, .slice au14 o.ids.length cu14] 28)) := (New.refl _).alloc _
    have x14 := Box.made w14 o (.slice au14 o.ids.length cu14)
    have y14 : (w14.alloc (.cells #[.string ⟨o.path.toArray⟩, .bool o.dir, .slice au14 o.ids.length cu14] 28)).heap.size = w14.heap.size + 1 := World.size_alloc _ _
    replace o3 := OwnI.new o3 m14
    replace x3 := Box.new x3 m14
    replace x5 := Box.new x5 m14
    replace o11 := OwnI.new o11 m14
    replace o13 := OwnRecs.new o13 m14
    replace o14 := OwnI.new o14 m14
    replace nn := nn.trans m14
    clear n14 m14
    clear o13
    obtain ⟨x140, x141, x142⟩ := Box.cells x14
    obtain ⟨x30, x31, x32⟩ := Box.cells x3
    have x14' := Lib.hid x14
    have x3' := Lib.hid x3
    clear x14 x3
    go_wp2_with fail
    refine (eqItem o o _ _ _ o14.nums o3.nums).mono ?_
    rw [decide_eq_true (rfl : o = o)]
    rintro e w15 ⟨rfl, n15⟩
    have x14 := x14'.out
    have x3 := x3'.out
    clear x14' x140 x141 x142 x3' x30 x31 x32
    replace o3 := OwnI.new o3 n15
    replace x3 := Box.new x3 n15
    replace x5 := Box.new x5 n15
    replace o11 := OwnI.new o11 n15
    replace o14 := OwnI.new o14 n15
    replace x14 := Box.new x14 n15
    replace nn := nn.trans n15
    clear n15
    clear o14 x14 o3 x3
    obtain ⟨x50, x51, x52⟩ := Box.cells x5
    have x5' := Lib.hid x5
    clear x5
    go_wp2_with fail
    refine (heldItem o.path o.dir _ o.ids.length 1 _ o11.nums (by omega) (by omega) (by omega)).mono ?_
    rintro e w16 ⟨rfl, n16⟩
    have x5 := x5'.out
    clear x5' x50 x51 x52
    replace x5 := Box.new x5 n16
    replace o11 := OwnI.new o11 n16
    replace nn := nn.trans n16
    clear n16
    go_wp2_with fail
    go_ret
    exact ⟨rfl, nn⟩
end Go.Proofs.YtnpblnkjdebedaaDoor
