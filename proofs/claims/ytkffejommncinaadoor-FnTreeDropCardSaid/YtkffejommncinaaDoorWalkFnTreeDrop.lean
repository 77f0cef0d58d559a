/- The walk of FnTreeDrop. -/
import Derived.Test.YtkffejommncinaaDoorDrawDrop
import Derived.Test.YtkffejommncinaaDoorSpecDrop
import Derived.Test.YtkffejommncinaaDoorTreeIn
import Derived.Test.YtkffejommncinaaDoorBoxes
namespace Go.Proofs.YtkffejommncinaaDoor
open Go.RowKit

set_option maxRecDepth 4000 in
set_option maxHeartbeats 2000000 in
theorem walkFnTreeDrop (v : Value) (bs : List Int) (w : World) (h : Nums .u8 Any w v bs) :
    Calls Tryd.prog 5 #[v] w fun e w' => e = .returned (.bool true) ∧ New w w' := by
  have hdr := drawTreeDrop v bs w h
  have Hdr := Lib.hid hdr
  clear hdr
  obtain ⟨a, c, rfl, h1, ⟨h2, -⟩, -, -⟩ := h
  unfold maxLen at h2
  by_cases hbig : 1048576 < bs.length
  · have hd : (1048576 : Int) < (bs.length : Int) := by omega
    go_enter Tryd.func5, Tryd.ntmps5
    go_wp2_with fail
    go_ret
    exact ⟨rfl, New.refl _⟩
  have hd : ¬ ((1048576 : Int) < (bs.length : Int)) := by omega
  go_enter Tryd.func5, Tryd.ntmps5
  go_wp2_with fail
  refine Hdr.out.mono ?_
  rintro e w1 ⟨v1, os, p, rfl, ⟨hl, hsm⟩, hpl, o1, n1⟩
  unfold txt
  obtain ⟨a1, c1, rfl, s1, s2, -⟩ := o1.shape
  unfold maxLen at s2
  have hall := small_all hsm
  have hI := o1.recs
  have hp0 : p.length ≤ 1048576 := by omega
  have him := fun (W : World) (n : New w1 W) => implTreeDrop _ os p W (Recs.new hI n) hall hp0
  have hsp := fun (W : World) (n : New w1 W) => specTreeDrop _ os p W (Recs.new hI n) hall
  unfold TreesPost txt at him hsp
  have Hsm := Lib.hid hsm
  have Hall := Lib.hid hall
  have HI := Lib.hid hI
  have N1 := Lib.hid n1
  clear hI o1 hall hsm n1 Hdr
  rcases hr : dropR os p with _ | r
  · rw [hr] at him hsp
    simp only [Option.getD_none, Option.isSome_none] at him hsp
    have HIm := Lib.hid him
    have HSp := Lib.hid hsp
    clear him hsp hr
    go_wp2_with fail
    refine (HIm.out _ (New.refl _)).mono ?_
    rintro e w2 ⟨v2, rfl, o2, n2⟩
    obtain ⟨a2, c2, rfl, -⟩ := o2.shape
    go_wp2_with fail
    refine (HSp.out _ n2).mono ?_
    rintro e w3 ⟨v3, rfl, o3, n3⟩
    obtain ⟨a3, c3, rfl, -⟩ := o3.shape
    replace o2 := OwnRecs.new o2 n3
    have nn := n2.trans n3
    clear n2 n3
    go_wp2_with fail
    refine (sameTree _ _ ([] : List ItemR) ([] : List ItemR) _ (OwnRecs.recs o2) (OwnRecs.recs o3)).mono ?_
    rw [decide_eq_true (rfl : ([] : List ItemR) = ([] : List ItemR))]
    rintro e w4 ⟨rfl, n4⟩
    replace o2 := OwnRecs.new o2 n4
    replace o3 := OwnRecs.new o3 n4
    replace nn := nn.trans n4
    clear n4
    go_wp2_with fail
    refine (sameTree _ _ ([] : List ItemR) ([] : List ItemR) _ (OwnRecs.recs o2) (OwnRecs.recs o3)).mono ?_
    rw [decide_eq_true (rfl : ([] : List ItemR) = ([] : List ItemR))]
    rintro e w5 ⟨rfl, n5⟩
    replace o2 := OwnRecs.new o2 n5
    replace o3 := OwnRecs.new o3 n5
    replace nn := nn.trans n5
    clear n5
    go_wp2_with fail
    go_ret
    exact ⟨rfl, N1.out.trans nn⟩
  · rw [hr] at him hsp
    simp only [Option.getD_some, Option.isSome_some] at him hsp
    have HIm := Lib.hid him
    have HSp := Lib.hid hsp
    obtain ⟨hk, hre, hkr, hfr, hlr⟩ := dropR_some hr
    have hallr : ∀ o ∈ r, o.size ≤ 1048576 := fun o ho => by rw [hre] at ho; exact Hall.out o (mem_drop.1 ho).1
    have Hallr := Lib.hid hallr
    have Hfr := Lib.hid hfr
    have Hkr := Lib.hid hkr
    have hlr2 : (os.length : Int) - 1 = (r.length : Int) := by omega
    have hlb : ((r.length : Int) == (os.length : Int) - 1) = true := by simp; omega
    clear him hsp hr hk hre hkr hfr hallr hlr
    go_wp2_with fail
    refine (HIm.out _ (New.refl _)).mono ?_
    rintro e w2 ⟨v2, rfl, o2, n2⟩
    obtain ⟨a2, c2, rfl, -⟩ := o2.shape
    go_wp2_with fail
    refine (HSp.out _ n2).mono ?_
    rintro e w3 ⟨v3, rfl, o3, n3⟩
    obtain ⟨a3, c3, rfl, -⟩ := o3.shape
    replace o2 := OwnRecs.new o2 n3
    have nn := n2.trans n3
    clear n2 n3
    go_wp2_with fail
    refine (sameTree _ _ r r _ (OwnRecs.recs o2) (OwnRecs.recs o3)).mono ?_
    rw [decide_eq_true (rfl : r = r)]
    rintro e w4 ⟨rfl, n4⟩
    replace o2 := OwnRecs.new o2 n4
    replace o3 := OwnRecs.new o3 n4
    replace nn := nn.trans n4
    clear n4
    have hfi := implTreeFind _ r p _ (OwnRecs.recs o2) Hallr.out hp0
    unfold FoundPost txt at hfi
    rw [Hfr.out] at hfi
    have e0 : (none : Option ItemR).getD noItem = noItem := rfl
    rw [e0] at hfi
    simp only [Option.isSome_none] at hfi
    have Hfi := Lib.hid hfi
    have hva := fun (W : World) (n : New w4 W) => implTreeValid _ r W (Recs.new (OwnRecs.recs o2) n) Hallr.out
    rw [Hkr.out] at hva
    have Hva := Lib.hid hva
    clear hfi e0 hva o2 o3
    go_wp2_with fail
    refine Hfi.out.mono ?_
    rintro e w6 ⟨u6, rfl, o6, n6⟩
    obtain ⟨a6, c6, rfl, -⟩ := o6.nums
    have m6 := n6.alloc (.cells #[.string ⟨noItem.path.toArray⟩, .bool noItem.dir, .slice a6 noItem.ids.length c6] 28)
    have M6 := Lib.hid m6
    clear o6 m6
    go_wp2_with fail
    refine (Hva.out _ M6.out).mono ?_
    rintro e w7 ⟨rfl, n7⟩
    go_wp2_with fail
    go_ret
    exact ⟨rfl, N1.out.trans ((nn.trans M6.out).trans n7)⟩
end Go.Proofs.YtkffejommncinaaDoor
