/- The walk of FnTreeDropFull. -/
import Derived.Test.YtkffejommncinaaDoorDrawTrees
import Derived.Test.YtkffejommncinaaDoorSpecFind
import Derived.Test.YtkffejommncinaaDoorTreeIn
import Derived.Test.YtkffejommncinaaDoorBoxes
namespace Go.Proofs.YtkffejommncinaaDoor
open Go.RowKit

set_option maxRecDepth 4000 in
set_option maxHeartbeats 2000000 in
theorem walkFnTreeDropFull (v : Value) (bs : List Int) (w : World) (h : Nums .u8 Any w v bs) :
    Calls Tryd.prog 3 #[v] w fun e w' => e = .returned (.bool true) ∧ New w w' := by
  have hdr := drawTreeFind v bs w h
  have Hdr := Lib.hid hdr
  clear hdr
  obtain ⟨a, c, rfl, h1, ⟨h2, -⟩, -, -⟩ := h
  unfold maxLen at h2
  by_cases hbig : 1048576 < bs.length
  · have hd : (1048576 : Int) < (bs.length : Int) := by omega
    go_enter Tryd.func3, Tryd.ntmps3
    go_wp2_with fail
    go_ret
    exact ⟨rfl, New.refl _⟩
  have hd : ¬ ((1048576 : Int) < (bs.length : Int)) := by omega
  go_enter Tryd.func3, Tryd.ntmps3
  go_wp2_with fail
  refine Hdr.out.mono ?_
  rintro e w1 ⟨v1, os, p, rfl, ⟨hl, hsm⟩, hpl, o1, n1⟩
  unfold txt
  obtain ⟨a1, c1, rfl, s1, s2, -⟩ := o1.shape
  unfold maxLen at s2
  have hall := small_all hsm
  have hI := o1.recs
  have hp0 : p.length ≤ 1048576 := by omega
  have hfi := fun (W : World) (n : New w1 W) => implTreeFind _ os p W (Recs.new hI n) hall hp0
  have hfs := fun (W : World) (n : New w1 W) => specTreeFind _ os p W (Recs.new hI n) hall
  have hdr := fun (W : World) (n : New w1 W) => implTreeDrop _ os p W (Recs.new hI n) hall hp0
  have hat := fun (W : World) (n : New w1 W) (k : Nat) (o : ItemR) (ho : os[k]? = some o) => Items.at (Recs.new hI n) ho
  unfold FoundPost txt at hfi hfs
  unfold TreesPost txt at hdr
  have Hat := Lib.hid hat
  have Hsm := Lib.hid hsm
  have Hall := Lib.hid hall
  have HI := Lib.hid hI
  have N1 := Lib.hid n1
  clear hat hI o1 hall hsm n1 Hdr
  rcases hr : findR os p with _ | o
  · rw [hr] at hfi hfs
    have e0 : (none : Option ItemR).getD noItem = noItem := rfl
    rw [e0] at hfi hfs
    simp only [Option.isSome_none] at hfi hfs
    have HFi := Lib.hid hfi
    have HFs := Lib.hid hfs
    clear hfi hfs hr hdr e0
    go_wp2_with fail
    refine (HFi.out _ (New.refl _)).mono ?_
    rintro e w2 ⟨u2, rfl, o2, n2⟩
    obtain ⟨au2, cu2, rfl, -⟩ := o2.nums
    have m2 : New w2 (w2.alloc (.cells #[.string ⟨noItem.path.toArray⟩, .bool noItem.dir, .slice au2 noItem.ids.length cu2] 28)) := (New.refl _).alloc _
    have x2 := Box.made w2 noItem (.slice au2 noItem.ids.length cu2)
    replace o2 := OwnI.new o2 m2
    have nn := n2.trans m2
    clear n2 m2
    go_wp2_with fail
    refine (HFs.out _ nn).mono ?_
    rintro e w4 ⟨u4, rfl, o4, n4⟩
    obtain ⟨au4, cu4, rfl, -⟩ := o4.nums
    have m4 : New w4 (w4.alloc (.cells #[.string ⟨noItem.path.toArray⟩, .bool noItem.dir, .slice au4 noItem.ids.length cu4] 28)) := (New.refl _).alloc _
    have x4 := Box.made w4 noItem (.slice au4 noItem.ids.length cu4)
    replace o2 := OwnI.new o2 (n4.trans m4)
    replace o4 := OwnI.new o4 m4
    replace x2 := Box.new x2 (n4.trans m4)
    replace nn := (nn.trans n4).trans m4
    clear n4 m4
    obtain ⟨x20, x21, x22⟩ := Box.cells x2
    obtain ⟨x40, x41, x42⟩ := Box.cells x4
    have x2' := Lib.hid x2
    have x4' := Lib.hid x4
    clear x2 x4
    go_wp2_with fail
    refine (sameItem noItem noItem _ _ _ o2.nums o4.nums).mono ?_
    rw [decide_eq_true (rfl : noItem = noItem)]
    rintro e w6 ⟨rfl, n6⟩
    have x2 := x2'.out.new n6
    have x4 := x4'.out.new n6
    clear x2' x20 x21 x22 x4' x40 x41 x42
    replace o2 := OwnI.new o2 n6
    replace o4 := OwnI.new o4 n6
    replace nn := nn.trans n6
    clear n6
    obtain ⟨x20, x21, x22⟩ := Box.cells x2
    obtain ⟨x40, x41, x42⟩ := Box.cells x4
    have x2' := Lib.hid x2
    have x4' := Lib.hid x4
    clear x2 x4
    go_wp2_with fail
    refine (sameItem noItem noItem _ _ _ o2.nums o4.nums).mono ?_
    rw [decide_eq_true (rfl : noItem = noItem)]
    rintro e w8 ⟨rfl, n8⟩
    have x2 := x2'.out.new n8
    have x4 := x4'.out.new n8
    clear x2' x20 x21 x22 x4' x40 x41 x42
    replace o2 := OwnI.new o2 n8
    replace o4 := OwnI.new o4 n8
    replace nn := nn.trans n8
    clear n8
    go_wp2_with fail
    go_ret
    exact ⟨rfl, N1.out.trans nn⟩
  · have hk : treeOk os = true := by
      rcases hk : treeOk os with _ | _
      · unfold findR at hr; rw [hk] at hr; cases hr
      · rfl
    have hdd := drop_find hk hr
    rw [hr] at hfi hfs
    simp only [Option.getD_some, Option.isSome_some] at hfi hfs
    have hr2 : findI os p = some o := by unfold findR at hr; rw [if_pos hk] at hr; exact hr
    obtain ⟨hom, rfl⟩ := findI_some hr2
    have hfk := full_kids (treeOk_p hk).1 hom
    have HFi := Lib.hid hfi
    have HFs := Lib.hid hfs
    have Hdr := Lib.hid hdr
    have Hdd := Lib.hid hdd
    have Hfk := Lib.hid hfk
    clear hfi hfs hr hr2 hom hdr hdd hfk hk
    go_wp2_with fail
    refine (HFi.out _ (New.refl _)).mono ?_
    rintro e w2 ⟨u2, rfl, o2, n2⟩
    obtain ⟨au2, cu2, rfl, -⟩ := o2.nums
    have m2 : New w2 (w2.alloc (.cells #[.string ⟨o.path.toArray⟩, .bool o.dir, .slice au2 o.ids.length cu2] 28)) := (New.refl _).alloc _
    have x2 := Box.made w2 o (.slice au2 o.ids.length cu2)
    replace o2 := OwnI.new o2 m2
    have nn := n2.trans m2
    clear n2 m2
    go_wp2_with fail
    refine (HFs.out _ nn).mono ?_
    rintro e w4 ⟨u4, rfl, o4, n4⟩
    obtain ⟨au4, cu4, rfl, -⟩ := o4.nums
    have m4 : New w4 (w4.alloc (.cells #[.string ⟨o.path.toArray⟩, .bool o.dir, .slice au4 o.ids.length cu4] 28)) := (New.refl _).alloc _
    have x4 := Box.made w4 o (.slice au4 o.ids.length cu4)
    replace o2 := OwnI.new o2 (n4.trans m4)
    replace o4 := OwnI.new o4 m4
    replace x2 := Box.new x2 (n4.trans m4)
    replace nn := (nn.trans n4).trans m4
    clear n4 m4
    obtain ⟨x20, x21, x22⟩ := Box.cells x2
    obtain ⟨x40, x41, x42⟩ := Box.cells x4
    have x2' := Lib.hid x2
    have x4' := Lib.hid x4
    clear x2 x4
    go_wp2_with fail
    refine (sameItem o o _ _ _ o2.nums o4.nums).mono ?_
    rw [decide_eq_true (rfl : o = o)]
    rintro e w6 ⟨rfl, n6⟩
    have x2 := x2'.out.new n6
    have x4 := x4'.out.new n6
    clear x2' x20 x21 x22 x4' x40 x41 x42
    replace o2 := OwnI.new o2 n6
    replace o4 := OwnI.new o4 n6
    replace nn := nn.trans n6
    clear n6
    generalize hwl : w6 = wl at *
    clear hwl x2 x4 o2 o4
    go_wp2_with fail
    go_loopg [9, 10] os.length (fun gk f i wr => ∃ (k : Nat), gk = os.length - k ∧ k ≤ os.length ∧ i = .int .i64 k ∧ f = .bool ((os.take k).any (fullIn o.path)) ∧ New wl wr)
    case atStart => exact ⟨0, by omega, by omega, rfl, rfl, New.refl _⟩
    case round =>
      obtain ⟨k, hgk, hkl, rfl, rfl, hn⟩ := hrel
      have Hgk := Lib.hid hgk
      clear hgk
      by_cases hlt : k < os.length
      · obtain ⟨x, hx⟩ := get_of hlt
        obtain ⟨b, off, c', u, e1, hb, c0, -⟩ := Hat.out wr (nn.trans hn) k x hx
        simp only [Value.slice.injEq] at e1
        obtain ⟨rfl, -, rfl⟩ := e1
        have hxl := (Hsm.out x (List.mem_of_getElem? hx)).1
        have htk : (os.take (k + 1)).any (fullIn o.path) = ((os.take k).any (fullIn o.path) || fullIn o.path x) := by
          obtain ⟨hk', e⟩ := List.getElem?_eq_some_iff.1 hx
          rw [List.take_succ_eq_append_getElem hk', e]; simp
        have hpw := fun (W : World) => implPathWithin ⟨x.path.toArray⟩ ⟨o.path.toArray⟩ W (by show x.path.toArray.size ≤ _; simp; omega) (by show o.path.toArray.size ≤ _; simp; omega)
        rw [show (⟨x.path.toArray⟩ : ByteArray).data.toList = x.path from rfl, show (⟨o.path.toArray⟩ : ByteArray).data.toList = o.path from rfl] at hpw
        unfold txt at c0
        have Hpw := Lib.hid hpw
        have Htk := Lib.hid htk
        clear hpw htk hx
        generalize (os.take k).any (fullIn o.path) = F0 at *
        rcases F0 with _ | _
        · by_cases hxo : x.path = o.path
          · have hfx : fullIn o.path x = false := by unfold fullIn; simp [hxo]
            have hbb : (x.path != o.path) = false := by simp [hxo]
            have hbb2 : (x.path == o.path) = true := by simp [hxo]
            have Hfx := Lib.hid hfx
            clear hfx hxo
            go_wp2_with fail
            go_roundg (os.length - (k + 1))
            case measure => rw [Hgk.out]; omega
            case rel => exact ⟨k + 1, rfl, by omega, by go_num, by rw [Htk.out, Hfx.out]; rfl, hn⟩
          · have hfx : fullIn o.path x = within x.path o.path := by unfold fullIn; simp [hxo]
            have hbb : (x.path != o.path) = true := by simp [hxo]
            have hbb2 : (x.path == o.path) = false := by simp [hxo]
            have Hfx := Lib.hid hfx
            generalize within x.path o.path = W0 at *
            clear hfx hxo
            go_wp2_with fail
            refine (Hpw.out _).mono ?_
            rintro e w7 ⟨rfl, n7⟩
            go_wp2_with fail
            go_roundg (os.length - (k + 1))
            case measure => rw [Hgk.out]; omega
            case rel => exact ⟨k + 1, rfl, by omega, by go_num, by rw [Htk.out, Hfx.out]; rfl, hn.trans n7⟩
        · go_wp2_with fail
          go_roundg (os.length - (k + 1))
          case measure => rw [Hgk.out]; omega
          case rel => exact ⟨k + 1, rfl, by omega, by go_num, by rw [Htk.out]; rfl, hn⟩
      · have e1 : os.take k = os := List.take_of_length_le (by omega)
        rw [e1, Hfk.out]
        clear e1
        rcases hnk : noKids o.path os with _ | _
        · have hdd := Hdd.out
          rw [hnk, if_neg (by simp)] at hdd
          rw [hdd] at Hdr
          simp only [Option.getD_none, Option.isSome_none] at Hdr
          clear hdd hnk
          go_wp2_with fail
          refine (Hdr.out _ (nn.trans hn)).mono ?_
          rintro e w8 ⟨v8, rfl, o8, n8⟩
          obtain ⟨a8, c8, rfl, -⟩ := o8.shape
          go_wp2_with fail
          go_ret
          exact ⟨rfl, N1.out.trans ((nn.trans hn).trans n8)⟩
        · have hdd := Hdd.out
          rw [hnk, if_pos rfl] at hdd
          rw [hdd] at Hdr
          simp only [Option.getD_some, Option.isSome_some] at Hdr
          clear hdd hnk
          go_wp2_with fail
          refine (Hdr.out _ (nn.trans hn)).mono ?_
          rintro e w8 ⟨v8, rfl, o8, n8⟩
          obtain ⟨a8, c8, rfl, -⟩ := o8.shape
          go_wp2_with fail
          go_ret
          exact ⟨rfl, N1.out.trans ((nn.trans hn).trans n8)⟩
end Go.Proofs.YtkffejommncinaaDoor
