/- The walk of FnTreePutDir (printed by wip/gen_putwalks.py). -/
import Derived.Test.YtkffejommncinaaDoorDrawTreePut
import Derived.Test.YtkffejommncinaaDoorSpecTreePut
import Derived.Test.YtkffejommncinaaDoorPutLaw
import Derived.Test.YtkffejommncinaaDoorBoxes
namespace Go.Proofs.YtkffejommncinaaDoor
open Go.RowKit

set_option maxRecDepth 4000 in
set_option maxHeartbeats 4000000 in
theorem walkFnTreePutDir (v : Value) (bs : List Int) (w : World) (h : Nums .u8 Any w v bs) :
    Calls Tryd.prog 4 #[v] w fun e w' => e = .returned (.bool true) ∧ New w w' := by
  have hdr := drawTreePut v bs w h
  have Hdr := Lib.hid hdr
  clear hdr
  obtain ⟨a, c, rfl, h1, ⟨h2, -⟩, -, -⟩ := h
  unfold maxLen at h2
  by_cases hbig : 1048576 < bs.length
  · have hd : (1048576 : Int) < (bs.length : Int) := by omega
    go_enter Tryd.func4, Tryd.ntmps4
    go_wp2_with fail
    go_ret
    exact ⟨rfl, New.refl _⟩
  have hd : ¬ ((1048576 : Int) < (bs.length : Int)) := by omega
  go_enter Tryd.func4, Tryd.ntmps4
  go_wp2_with fail
  refine Hdr.out.mono ?_
  rintro e w0 ⟨v1, os, u, x, rfl, ⟨hl, hsm⟩, hxs, o0, i0, n0⟩
  unfold txt
  obtain ⟨a1, c1, rfl, s1, s2, -⟩ := o0.shape
  obtain ⟨au, cu, rfl, -⟩ := i0.shape
  unfold maxLen at s2
  have hall := small_all hsm
  have hx1 : x.size ≤ 1048576 := small_all (os := [x]) (fun o ho => by rw [List.mem_singleton.1 ho]; exact hxs) x List.mem_cons_self
  have hp0 : x.path.length ≤ 1048576 := by have := hxs.1; omega
  have nA : New w0 (w0.alloc (.cells #[txt x.path, .bool x.dir, .slice au x.ids.length cu] 28)) := (New.refl _).alloc _
  have o1 := OwnRecs.new o0 nA
  have i1 := i0.nums.new nA
  have hX := heap_alloc_new w0 (.cells #[txt x.path, .bool x.dir, .slice au x.ids.length cu] 28)
  have n1 := n0.trans nA
  unfold txt at nA o1 i1 hX n1
  have O1 := Lib.hid o1
  have I1 := Lib.hid i1
  have HX := Lib.hid hX
  have N1 := Lib.hid n1
  have Hall := Lib.hid hall
  have Hx1 := Lib.hid hx1
  clear o0 i0 nA o1 i1 hX n1 n0 hall hsm hxs hx1 Hdr
  go_upto_region 4 with fail
  generalize (w0.alloc (.cells #[.string ⟨x.path.toArray⟩, .bool x.dir, .slice au x.ids.length cu] 28)) = w1 at O1 I1 HX N1 ⊢
  generalize w0.heap.size = gx at HX O1 I1 ⊢
  have hI := OwnRecs.recs O1.out
  obtain ⟨b0, b1, b2, -, -, -⟩ := set3_cells HX.out
  have him := fun (W : World) (n : New w1 W) => implTreePut _ os x _ W (Recs.new hI n) Hall.out (I1.out.new n) hp0
  have hsp := fun (W : World) (n : New w1 W) => specTreePut _ os x _ W (Recs.new hI n) Hall.out (I1.out.new n) Hx1.out
  unfold TreesPost txt at him hsp
  clear hI
  rcases hr : putR os x with _ | r
  · rw [hr] at him hsp
    simp only [Option.getD_none, Option.isSome_none] at him hsp
    have HIm := Lib.hid him
    have HSp := Lib.hid hsp
    clear him hsp hr
    go_wp2_with fail
    refine (HIm.out _ (New.refl _)).mono ?_
    rintro e w2 ⟨v2, rfl, o2, n2⟩
    obtain ⟨a2, c2, rfl, -⟩ := o2.shape
    replace b0 := n2.cell b0
    replace b1 := n2.cell b1
    replace b2 := n2.cell b2
    go_wp2_with fail
    refine (HSp.out _ n2).mono ?_
    rintro e w3 ⟨v3, rfl, o3, n3⟩
    obtain ⟨a3, c3, rfl, -⟩ := o3.shape
    replace o2 := OwnRecs.new o2 n3
    have nn := n2.trans n3
    clear n2 n3 b0 b1 b2
    go_wp2_with fail
    refine (sameTree _ _ ([] : List ItemR) ([] : List ItemR) _ (OwnRecs.recs o2) (OwnRecs.recs o3)).mono ?_
    rw [decide_eq_true (rfl : ([] : List ItemR) = ([] : List ItemR))]
    rintro e w4 ⟨rfl, n4⟩
    replace o2 := OwnRecs.new o2 n4
    replace o3 := OwnRecs.new o3 n4
    replace nn := nn.trans n4
    clear n4
    go_wp2_with fail
    refine (sameTree _ _ ([] : List ItemR) ([] : List ItemR) _ (OwnRecs.recs o2) (OwnRecs.recs o3)).mono ?_
    rw [decide_eq_true (rfl : ([] : List ItemR) = ([] : List ItemR))]
    rintro e w5 ⟨rfl, n5⟩
    replace nn := nn.trans n5
    clear n5 o2 o3
    go_wp2_with fail
    go_ret
    exact ⟨rfl, N1.out.trans nn⟩
  · rw [hr] at him hsp
    simp only [Option.getD_some, Option.isSome_some] at him hsp
    have HIm := Lib.hid him
    have HSp := Lib.hid hsp
    have Hr := Lib.hid hr
    have hsz := put_size hr Hall.out Hx1.out
    have Hsz := Lib.hid hsz
    clear him hsp hr hsz
    go_wp2_with fail
    refine (HIm.out _ (New.refl _)).mono ?_
    rintro e w2 ⟨v2, rfl, o2, n2⟩
    obtain ⟨a2, c2, rfl, -, s22, -⟩ := o2.shape
    unfold maxLen at s22
    replace b0 := n2.cell b0
    replace b1 := n2.cell b1
    replace b2 := n2.cell b2
    go_wp2_with fail
    refine (HSp.out _ n2).mono ?_
    rintro e w3 ⟨v3, rfl, o3, n3⟩
    obtain ⟨a3, c3, rfl, -⟩ := o3.shape
    replace b0 := n3.cell b0
    replace b1 := n3.cell b1
    replace b2 := n3.cell b2
    replace o2 := OwnRecs.new o2 n3
    have nn := n2.trans n3
    clear n2 n3
    go_wp2_with fail
    refine (sameTree _ _ r r _ (OwnRecs.recs o2) (OwnRecs.recs o3)).mono ?_
    rw [decide_eq_true (rfl : r = r)]
    rintro e w4 ⟨rfl, n4⟩
    replace b0 := n4.cell b0
    replace b1 := n4.cell b1
    replace b2 := n4.cell b2
    replace o2 := OwnRecs.new o2 n4
    replace o3 := OwnRecs.new o3 n4
    replace nn := nn.trans n4
    clear n4
    rcases hxd : x.dir with _ | _
    · have Hxd := Lib.hid hxd
      rw [hxd] at b1
      clear hxd
      go_wp2_with fail
      refine (sameTree _ _ r r _ (OwnRecs.recs o2) (OwnRecs.recs o3)).mono ?_
      rw [decide_eq_true (rfl : r = r)]
      rintro e w5 ⟨rfl, n5⟩
      replace nn := nn.trans n5
      clear n5 o2 o3
      go_wp2_with fail
      go_ret
      exact ⟨rfl, N1.out.trans nn⟩
    · have e1 := put_dir Hr.out hxd (rfl : x.path = x.path)
      have e2 := put_dir (y := ⟨x.path, false, []⟩) Hr.out hxd rfl
      have h1 := fun (W : World) (n : New w4 W) => implTreePut _ r x _ W (Recs.new (OwnRecs.recs o2) n) Hsz.out (I1.out.new (nn.trans n)) hp0
      have h2 := fun (W : World) (n : New w4 W) => implTreePut _ r ⟨x.path, false, []⟩ (.slice none 0 0) W (Recs.new (OwnRecs.recs o2) n) Hsz.out (Nums.nil .i64 Any W) hp0
      rw [e1] at h1
      rw [e2] at h2
      unfold TreesPost txt at h1 h2
      simp only [Option.getD_none, Option.isSome_none, hxd] at h1 h2
      rw [hxd] at b1
      have H1 := Lib.hid h1
      have H2 := Lib.hid h2
      have Hxd := Lib.hid hxd
      clear h1 h2 hxd e1 e2 o2 o3
      go_wp2_with fail
      refine (H1.out _ (New.refl _)).mono ?_
      rintro e w6 ⟨v6, rfl, o6, n6⟩
      obtain ⟨a6, c6, rfl, -⟩ := o6.shape
      replace b0 := n6.cell b0
      clear o6 b1 b2
      go_wp2_with fail
      refine (H2.out _ n6).mono ?_
      rintro e w8 ⟨v8, rfl, o8, n8⟩
      obtain ⟨a8, c8, rfl, -⟩ := o8.shape
      have nn2 := (nn.trans n6).trans n8
      clear b0 n8 o8 n6
      go_wp2_with fail
      go_ret
      exact ⟨rfl, N1.out.trans nn2⟩
end Go.Proofs.YtkffejommncinaaDoor
