/- The walk of FnTreeFind. -/
import Derived.Test.YtnpblnkjdebedaaDoorDrawTrees
import Derived.Test.YtnpblnkjdebedaaDoorTreeParts
import Derived.Test.YtnpblnkjdebedaaDoorWalkFnExactTreeFind
namespace Go.Proofs.YtnpblnkjdebedaaDoor
open Go.RowKit

set_option maxRecDepth 4000 in
set_option maxHeartbeats 2000000 in
theorem walkFnTreeFind (v : Value) (bs : List Int) (w : World) (h : Nums .u8 Any w v bs) :
    Calls Tryd.prog 7 #[v] w fun e w' => e = .returned (.bool true) ∧ New w w' := by
  have hdr := drawTreeFind v bs w h
  have Hdr := Lib.hid hdr
  clear hdr
  obtain ⟨a, c, rfl, h1, ⟨h2, -⟩, -, -⟩ := h
  unfold maxLen at h2
  by_cases hbig : 1048576 < bs.length
  · have hd : (1048576 : Int) < (bs.length : Int) := by omega
    go_enter Tryd.func7, Tryd.ntmps7
    go_wp2_with fail
    go_ret
    exact ⟨rfl, New.refl _⟩
  have hd : ¬ ((1048576 : Int) < (bs.length : Int)) := by omega
  go_enter Tryd.func7, Tryd.ntmps7
  go_wp2_with fail
  refine Hdr.out.mono ?_
  rintro e w1 ⟨v1, os, p, rfl, ⟨hl, hsm⟩, hpl, o1, n1⟩
  unfold txt
  obtain ⟨a1, c1, rfl, s1, s2, -⟩ := o1.shape
  unfold maxLen at s2
  have hall := small_all hsm
  have hI := o1.recs
  have hsp := fun (W : World) (n : New w1 W) => specValid _ os W (Recs.new hI n) hall
  have him := fun (W : World) (n : New w1 W) => implTreeValid _ os W (Recs.new hI n) hall
  have hfi := fun (W : World) (n : New w1 W) (p : List UInt8) (hp : p.length ≤ 1048576) => implTreeFind _ os p W (Recs.new hI n) hall hp
  have hfs := fun (W : World) (n : New w1 W) (p : List UInt8) => specTreeFind _ os p W (Recs.new hI n) hall
  have hli := fun (W : World) (n : New w1 W) (p : List UInt8) (hp : p.length ≤ 1048576) => implTreeList _ os p W (Recs.new hI n) hall hp
  have hls := fun (W : World) (n : New w1 W) (p : List UInt8) => specTreeList _ os p W (Recs.new hI n) hall
  have hat := fun (W : World) (n : New w1 W) (k : Nat) (o : ItemR) (ho : os[k]? = some o) => Items.at (Recs.new hI n) ho
  unfold FoundPost txt at hfi hfs
  unfold ListPost txt at hli hls
  have Hsp := Lib.hid hsp
  have Him := Lib.hid him
  have Hfi := Lib.hid hfi
  have Hfs := Lib.hid hfs
  have Hli := Lib.hid hli
  have Hls := Lib.hid hls
  have Hat := Lib.hid hat
  have Hsm := Lib.hid hsm
  have Hall := Lib.hid hall
  have HI := Lib.hid hI
  have N1 := Lib.hid n1
  clear hsp him hfi hfs hli hls hat hI o1 hall hsm n1 Hdr
  have hp0 : p.length ≤ 1048576 := by omega
  have hfi := fun (W : World) (n : New w1 W) => Hfi.out W n p hp0
  have hfs := fun (W : World) (n : New w1 W) => Hfs.out W n p
  have hli := fun (W : World) (n : New w1 W) => Hli.out W n p hp0
  rcases hr : findR os p with _ | o
  · rw [hr] at hfi hfs
    have e0 : (none : Option ItemR).getD noItem = noItem := rfl
    rw [e0] at hfi hfs
    simp only [Option.isSome_none] at hfi hfs
    have HFi := Lib.hid hfi
    have HFs := Lib.hid hfs
    clear hfi hfs hr hli e0
    go_wp2_with fail
    refine (HFi.out _ (New.refl _)).mono ?_
    rintro e w2 ⟨u2, rfl, o2, n2⟩
    obtain ⟨au2, cu2, rfl, -⟩ := o2.nums
    have m2 : New w2 (w2.alloc (.cells #[.string ⟨noItem.path.toArray⟩, .bool noItem.dir, .slice au2 noItem.ids.length cu2] 28)) := (New.refl _).alloc _
    have x2 := Box.made w2 noItem (.slice au2 noItem.ids.length cu2)
    have y2 : (w2.alloc (.cells #[.string ⟨noItem.path.toArray⟩, .bool noItem.dir, .slice au2 noItem.ids.length cu2] 28)).heap.size = w2.heap.size + 1 := World.size_alloc _ _
    replace o2 := OwnI.new o2 m2
    have nn := n2.trans m2
    clear n2 m2
    go_wp2_with fail
    refine (HFs.out _ nn).mono ?_
    rintro e w4 ⟨u4, rfl, o4, n4⟩
    obtain ⟨au4, cu4, rfl, -⟩ := o4.nums
    have m4 : New w4 (w4.alloc (.cells #[.string ⟨noItem.path.toArray⟩, .bool noItem.dir, .slice au4 noItem.ids.length cu4] 28)) := (New.refl _).alloc _
    have x4 := Box.made w4 noItem (.slice au4 noItem.ids.length cu4)
    replace o2 := OwnI.new o2 (n4.trans m4)
    replace o4 := OwnI.new o4 m4
    replace x2 := Box.new x2 (n4.trans m4)
    replace nn := (nn.trans n4).trans m4
    clear n4 m4
    obtain ⟨x20, x21, x22⟩ := Box.cells x2
    obtain ⟨x40, x41, x42⟩ := Box.cells x4
    have x2' := Lib.hid x2
    have x4' := Lib.hid x4
    clear x2 x4
    go_wp2_with fail
    refine (sameItem noItem noItem _ _ _ o2.nums o4.nums).mono ?_
    rw [decide_eq_true (rfl : noItem = noItem)]
    rintro e w6 ⟨rfl, n6⟩
    have x2 := x2'.out.new n6
    have x4 := x4'.out.new n6
    clear x2' x20 x21 x22 x4' x40 x41 x42
    replace o2 := OwnI.new o2 n6
    replace o4 := OwnI.new o4 n6
    replace nn := nn.trans n6
    clear n6
    obtain ⟨x20, x21, x22⟩ := Box.cells x2
    obtain ⟨x40, x41, x42⟩ := Box.cells x4
    have x2' := Lib.hid x2
    have x4' := Lib.hid x4
    clear x2 x4
    go_wp2_with fail
    refine (sameItem noItem noItem _ _ _ o2.nums o4.nums).mono ?_
    rw [decide_eq_true (rfl : noItem = noItem)]
    rintro e w8 ⟨rfl, n8⟩
    have x2 := x2'.out.new n8
    have x4 := x4'.out.new n8
    clear x2' x20 x21 x22 x4' x40 x41 x42
    replace o2 := OwnI.new o2 n8
    replace o4 := OwnI.new o4 n8
    replace nn := nn.trans n8
    clear n8
    go_wp2_with fail
    go_ret
    exact ⟨rfl, N1.out.trans nn⟩
  · have hk : treeOk os = true := by
      rcases hk : treeOk os with _ | _
      · unfold findR at hr; rw [hk] at hr; cases hr
      · rfl
    rw [hr] at hfi hfs
    simp only [Option.getD_some, Option.isSome_some] at hfi hfs
    have hr2 : findI os p = some o := by unfold findR at hr; rw [if_pos hk] at hr; exact hr
    obtain ⟨hom, rfl⟩ := findI_some hr2
    have hil : o.ids.length ≤ 1048576 := (ItemR.parts (Hall.out o hom)).2
    have HFi := Lib.hid hfi
    have HFs := Lib.hid hfs
    have Hom := Lib.hid hom
    clear hfi hfs hr hr2 hom
    go_wp2_with fail
    refine (HFi.out _ (New.refl _)).mono ?_
    rintro e w2 ⟨u2, rfl, o2, n2⟩
    obtain ⟨au2, cu2, rfl, -⟩ := o2.nums
    have m2 : New w2 (w2.alloc (.cells #[.string ⟨o.path.toArray⟩, .bool o.dir, .slice au2 o.ids.length cu2] 28)) := (New.refl _).alloc _
    have x2 := Box.made w2 o (.slice au2 o.ids.length cu2)
    have y2 : (w2.alloc (.cells #[.string ⟨o.path.toArray⟩, .bool o.dir, .slice au2 o.ids.length cu2] 28)).heap.size = w2.heap.size + 1 := World.size_alloc _ _
    replace o2 := OwnI.new o2 m2
    have nn := n2.trans m2
    clear n2 m2
    go_wp2_with fail
    refine (HFs.out _ nn).mono ?_
    rintro e w4 ⟨u4, rfl, o4, n4⟩
    obtain ⟨au4, cu4, rfl, -⟩ := o4.nums
    have m4 : New w4 (w4.alloc (.cells #[.string ⟨o.path.toArray⟩, .bool o.dir, .slice au4 o.ids.length cu4] 28)) := (New.refl _).alloc _
    have x4 := Box.made w4 o (.slice au4 o.ids.length cu4)
    replace o2 := OwnI.new o2 (n4.trans m4)
    replace o4 := OwnI.new o4 m4
    replace x2 := Box.new x2 (n4.trans m4)
    replace nn := (nn.trans n4).trans m4
    clear n4 m4
    obtain ⟨x20, x21, x22⟩ := Box.cells x2
    obtain ⟨x40, x41, x42⟩ := Box.cells x4
    have x2' := Lib.hid x2
    have x4' := Lib.hid x4
    clear x2 x4
    go_wp2_with fail
    refine (sameItem o o _ _ _ o2.nums o4.nums).mono ?_
    rw [decide_eq_true (rfl : o = o)]
    rintro e w6 ⟨rfl, n6⟩
    have x2 := x2'.out.new n6
    have x4 := x4'.out.new n6
    clear x2' x20 x21 x22 x4' x40 x41 x42
    replace o2 := OwnI.new o2 n6
    replace o4 := OwnI.new o4 n6
    replace nn := nn.trans n6
    clear n6
    clear hli hk
    have X2 := Lib.hid x2
    have O2 := Lib.hid o2
    generalize hwl : w6 = wl at *
    clear hwl x2 x4 o2 o4
    go_wp2_with fail
    go_loopg [9] os.length (fun gk i wr => ∃ (k : Nat), gk = os.length - k ∧ k ≤ os.length ∧ i = .int .i64 k ∧ Hid (∀ x ∈ os.take k, x ≠ o) ∧ New wl wr)
    case atStart => exact ⟨0, by omega, by omega, rfl, Lib.hid (by simp), New.refl _⟩
    case round =>
      obtain ⟨k, hgk, hkl, rfl, hno, hn⟩ := hrel
      have Hgk := Lib.hid hgk
      clear hgk
      by_cases hlt : k < os.length
      · obtain ⟨x, hx⟩ := get_of hlt
        obtain ⟨b, off, c', u, e1, hb, c0, c1, c2, -, r2⟩ := Hat.out wr (nn.trans hn) k x hx
        simp only [Value.slice.injEq] at e1
        obtain ⟨rfl, -, rfl⟩ := e1
        have n3 : New wr (wr.drewN 1) := (New.refl _).drewN 1
        have hcall := sameItem x o u _ (wr.drewN 1) (r2.new n3) ((O2.out.new (hn.trans n3)).nums)
        unfold txt at c0 hcall
        obtain ⟨d0, d1, d2⟩ := (X2.out.new hn).cells
        have C0 : (wr.drewN 1).cell? ⟨b, off + k * 3, none⟩ = some (.string ⟨x.path.toArray⟩) := c0
        have C1 : (wr.drewN 1).cell? ⟨b, off + k * 3 + 1, none⟩ = some (.bool x.dir) := c1
        have C2 : (wr.drewN 1).cell? ⟨b, off + k * 3 + 2, none⟩ = some u := c2
        have D0 : (wr.drewN 1).cell? ⟨w2.heap.size, 0, none⟩ = some (.string ⟨o.path.toArray⟩) := d0
        have D1 : (wr.drewN 1).cell? ⟨w2.heap.size, 1, none⟩ = some (.bool o.dir) := d1
        have D2 : (wr.drewN 1).cell? ⟨w2.heap.size, 2, none⟩ = some (.slice au2 o.ids.length cu2) := d2
        have Hcall := Lib.hid hcall
        have Hx := Lib.hid hx
        clear hcall hx r2 c0 c1 c2 d0 d1 d2
        by_cases hxo : x = o
        · have hd : decide (x = o) = true := by simp [hxo]
          rw [hd] at Hcall
          clear hd hxo
          go_wp2
          refine wp_region_still_tail 5 (by kernel_rfl) (by kernel_rfl) ?_
          simp only [List.take_succ_cons, List.take_zero, List.drop_succ_cons, List.drop_zero]
          change wpStill _ _ (wr.drewN 1) (fun a' => wpList _ _ _ _ a' (wr.drewN 1)) _ _
          generalize hw3 : wr.drewN 1 = w3 at *
          have Hw3 := Lib.hid hw3
          clear hw3
          iterate 5 still_step
          refine wpStill_nil ?_
          go_wp2_with fail
          refine Hcall.out.mono ?_
          rintro e w7 ⟨rfl, n7⟩
          have d0 := n7.cell D0
          have hbb : (o.path == o.path) = true := by simp
          go_wp2_with fail
          go_ret
          exact ⟨rfl, N1.out.trans ((nn.trans (hn.trans n3)).trans n7)⟩
        · have hd : decide (x = o) = false := by simp [hxo]
          rw [hd] at Hcall
          have Hxo := Lib.hid hxo
          clear hd hxo
          go_wp2
          refine wp_region_still_tail 5 (by kernel_rfl) (by kernel_rfl) ?_
          simp only [List.take_succ_cons, List.take_zero, List.drop_succ_cons, List.drop_zero]
          change wpStill _ _ (wr.drewN 1) (fun a' => wpList _ _ _ _ a' (wr.drewN 1)) _ _
          generalize hw3 : wr.drewN 1 = w3 at *
          have Hw3 := Lib.hid hw3
          clear hw3
          iterate 5 still_step
          refine wpStill_nil ?_
          go_wp2_with fail
          refine Hcall.out.mono ?_
          rintro e w7 ⟨rfl, n7⟩
          go_wp2_with fail
          go_roundg (os.length - (k + 1))
          case measure => rw [Hgk.out]; omega
          case rel =>
            refine ⟨k + 1, rfl, by omega, by go_num, Lib.hid fun y hy => ?_, (hn.trans n3).trans n7⟩
            obtain ⟨hk', e⟩ := List.getElem?_eq_some_iff.1 Hx.out
            rw [List.take_succ_eq_append_getElem hk', e, List.mem_append, List.mem_singleton] at hy
            rcases hy with hy | rfl
            · exact hno.out y hy
            · exact Hxo.out
      · have hk2 := hno.out o (by rw [List.take_of_length_le (by omega)]; exact Hom.out)
        exact absurd rfl hk2
end Go.Proofs.YtnpblnkjdebedaaDoor
