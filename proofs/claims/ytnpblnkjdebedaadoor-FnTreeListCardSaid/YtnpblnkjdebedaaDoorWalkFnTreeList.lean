/- The walk of FnTreeList. -/
import Derived.Test.YtnpblnkjdebedaaDoorDrawTrees
import Derived.Test.YtnpblnkjdebedaaDoorTreeParts
import Derived.Test.YtnpblnkjdebedaaDoorWalkFnExactTreeFind
namespace Go.Proofs.YtnpblnkjdebedaaDoor
open Go.RowKit

set_option maxRecDepth 4000 in
set_option maxHeartbeats 2000000 in
theorem walkFnTreeList (v : Value) (bs : List Int) (w : World) (h : Nums .u8 Any w v bs) :
    Calls Tryd.prog 9 #[v] w fun e w' => e = .returned (.bool true) ∧ New w w' := by
  have hdr := drawTreeList v bs w h
  have Hdr := Lib.hid hdr
  clear hdr
  obtain ⟨a, c, rfl, h1, ⟨h2, -⟩, -, -⟩ := h
  unfold maxLen at h2
  by_cases hbig : 1048576 < bs.length
  · have hd : (1048576 : Int) < (bs.length : Int) := by omega
    go_enter Tryd.func9, Tryd.ntmps9
    go_wp2_with fail
    go_ret
    exact ⟨rfl, New.refl _⟩
  have hd : ¬ ((1048576 : Int) < (bs.length : Int)) := by omega
  go_enter Tryd.func9, Tryd.ntmps9
  go_wp2_with fail
  refine Hdr.out.mono ?_
  rintro e w1 ⟨v1, os, p, rfl, ⟨hl, hsm⟩, hpl, o1, n1⟩
  unfold txt
  obtain ⟨a1, c1, rfl, s1, s2, -⟩ := o1.shape
  unfold maxLen at s2
  have hall := small_all hsm
  have hI := o1.recs
  have hsp := fun (W : World) (n : New w1 W) => specValid _ os W (Recs.new hI n) hall
  have him := fun (W : World) (n : New w1 W) => implTreeValid _ os W (Recs.new hI n) hall
  have hfi := fun (W : World) (n : New w1 W) (p : List UInt8) (hp : p.length ≤ 1048576) => implTreeFind _ os p W (Recs.new hI n) hall hp
  have hfs := fun (W : World) (n : New w1 W) (p : List UInt8) => specTreeFind _ os p W (Recs.new hI n) hall
  have hli := fun (W : World) (n : New w1 W) (p : List UInt8) (hp : p.length ≤ 1048576) => implTreeList _ os p W (Recs.new hI n) hall hp
  have hls := fun (W : World) (n : New w1 W) (p : List UInt8) => specTreeList _ os p W (Recs.new hI n) hall
  have hat := fun (W : World) (n : New w1 W) (k : Nat) (o : ItemR) (ho : os[k]? = some o) => Items.at (Recs.new hI n) ho
  unfold FoundPost txt at hfi hfs
  unfold ListPost txt at hli hls
  have Hsp := Lib.hid hsp
  have Him := Lib.hid him
  have Hfi := Lib.hid hfi
  have Hfs := Lib.hid hfs
  have Hli := Lib.hid hli
  have Hls := Lib.hid hls
  have Hat := Lib.hid hat
  have Hsm := Lib.hid hsm
  have Hall := Lib.hid hall
  have HI := Lib.hid hI
  have N1 := Lib.hid n1
  clear hsp him hfi hfs hli hls hat hI o1 hall hsm n1 Hdr
  have hp0 : p.length ≤ 1048576 := by omega
  have hli := fun (W : World) (n : New w1 W) => Hli.out W n p hp0
  have hls := fun (W : World) (n : New w1 W) => Hls.out W n p
  rcases hr : listR os p with _ | r
  · rw [hr] at hli hls
    simp only [Option.getD_none, Option.isSome_none] at hli hls
    have HLi := Lib.hid hli
    have HLs := Lib.hid hls
    clear hli hls hr
    go_wp2_with fail
    refine (HLi.out _ (New.refl _)).mono ?_
    rintro e w2 ⟨v2, rfl, o2, n2⟩
    obtain ⟨a2, c2, rfl, -⟩ := o2.shape
    go_wp2_with fail
    refine (HLs.out _ n2).mono ?_
    rintro e w3 ⟨v3, rfl, o3, n3⟩
    obtain ⟨a3, c3, rfl, -⟩ := o3.shape
    have o2' := OwnRecs.new o2 n3
    have nn := n2.trans n3
    go_wp2_with fail
    refine (sameTexts _ _ [] [] _ (OwnRecs.recs o2') (OwnRecs.recs o3)).mono ?_
    rw [decide_eq_true (rfl : ([] : List (List UInt8)) = [])]
    rintro e w4 ⟨rfl, n4⟩
    have o2'' := OwnRecs.new o2' n4
    have o3' := OwnRecs.new o3 n4
    go_wp2_with fail
    refine (sameTexts _ _ [] [] _ (OwnRecs.recs o2'') (OwnRecs.recs o3')).mono ?_
    rw [decide_eq_true (rfl : ([] : List (List UInt8)) = [])]
    rintro e w5 ⟨rfl, n5⟩
    go_wp2_with fail
    go_ret
    exact ⟨rfl, N1.out.trans ((nn.trans n4).trans n5)⟩
  · have hk : treeOk os = true := by
      rcases hk : treeOk os with _ | _
      · unfold listR at hr; rw [hk] at hr; cases hr
      · rfl
    have hre : r = pathsIn p os := by
      unfold listR at hr
      split at hr
      · exact (Option.some.inj hr).symm
      · cases hr
    rw [hr] at hli hls
    simp only [Option.getD_some, Option.isSome_some] at hli hls
    have Hre := Lib.hid hre
    have hrl := pathsIn_len p os
    rw [← hre] at hrl
    have HLi := Lib.hid hli
    have HLs := Lib.hid hls
    clear hli hls hr hre
    go_wp2_with fail
    refine (HLi.out _ (New.refl _)).mono ?_
    rintro e w2 ⟨v2, rfl, o2, n2⟩
    obtain ⟨a2, c2, rfl, -⟩ := o2.shape
    go_wp2_with fail
    refine (HLs.out _ n2).mono ?_
    rintro e w3 ⟨v3, rfl, o3, n3⟩
    obtain ⟨a3, c3, rfl, -⟩ := o3.shape
    have o2' := OwnRecs.new o2 n3
    have nn := n2.trans n3
    go_wp2_with fail
    refine (sameTexts _ _ r r _ (OwnRecs.recs o2') (OwnRecs.recs o3)).mono ?_
    rw [decide_eq_true (rfl : r = r)]
    rintro e w4 ⟨rfl, n4⟩
    have o2'' := OwnRecs.new o2' n4
    have hst := fun (W : World) (n : New w4 W) (k : Nat) (o : List UInt8) (ho : r[k]? = some o) => Strs.at (Recs.new (OwnRecs.recs o2'') n) ho
    have Hst := Lib.hid hst
    have nn4 := nn.trans n4
    clear o2 o2' o2'' o3 n2 n3 n4 nn hst
    go_wp2_with fail
    go_loopg [9, 10] os.length (fun gk n i wr => ∃ (k : Nat), gk = os.length - k ∧ k ≤ os.length ∧ i = .int .i64 k ∧ n = .int .i64 ((pathsIn p (os.take k)).length : Nat) ∧ New w4 wr)
    case atStart => exact ⟨0, by omega, by omega, rfl, rfl, New.refl _⟩
    case round =>
      obtain ⟨k, hgk, hkl, rfl, rfl, hn⟩ := hrel
      have Hgk := Lib.hid hgk
      clear hgk
      by_cases hlt : k < os.length
      · obtain ⟨o, ho⟩ := get_of hlt
        obtain ⟨b, off, c', u, e1, hb, c0, -⟩ := Hat.out wr (nn4.trans hn) k o ho
        simp only [Value.slice.injEq] at e1
        obtain ⟨rfl, -, rfl⟩ := e1
        have hom := List.mem_of_getElem? ho
        have hpo := (Hsm.out o hom).1
        have hpp := fun (W : World) => implPathParent ⟨o.path.toArray⟩ W (by show o.path.toArray.size ≤ _; simp; omega)
        rw [show (⟨o.path.toArray⟩ : ByteArray).data.toList = o.path from rfl, parentIf_ok hk hom, (treeOk_p hk).1.path hom] at hpp
        have htk := pathsIn_take (d := p) ho
        have hln : (pathsIn p (os.take k)).length ≤ 9 := by
          have h1 := pathsIn_len p (os.take k)
          rw [List.length_take] at h1
          omega
        unfold txt at c0 hpp
        by_cases hpd : parentOf o.path = p
        · rw [if_pos hpd] at htk
          have hget := pathsIn_get ho hpd
          rw [← Hre.out] at hget
          rw [hpd] at hpp
          have htl : (pathsIn p (os.take (k + 1))).length = (pathsIn p (os.take k)).length + 1 := by rw [htk]; simp
          have Htl := Lib.hid htl
          have Hpp := Lib.hid hpp
          clear hpp ho hom htk htl
          generalize hq : (pathsIn p (os.take k)).length = q at *
          have hql := (List.getElem?_eq_some_iff.1 hget).1
          have Hget := Lib.hid hget
          have Hpd := Lib.hid hpd
          clear hget hq hpd
          go_wp2_with fail
          refine (Hpp.out _).mono ?_
          rintro e w5 ⟨rfl, n5⟩
          have hn5 := hn.trans n5
          obtain ⟨b2, off2, d2, e2, -, g0, -⟩ := Hst.out _ hn5 q _ Hget.out
          simp only [Value.slice.injEq] at e2
          obtain ⟨rfl, -, rfl⟩ := e2
          unfold txt at g0
          have c0' := n5.cell c0
          have hbb : (p == p) = true := by simp
          have hbb2 : (o.path != o.path) = false := by simp
          go_wp2_with fail
          go_quiet (fail)
          go_wp2_with fail
          go_roundg (os.length - (k + 1))
          case measure => rw [Hgk.out]; omega
          case rel => exact ⟨k + 1, rfl, by omega, by go_num, by rw [Htl.out]; go_num, by first | exact hn5.drewN _ | exact hn5.drew | exact hn5⟩
        · rw [if_neg hpd, List.append_nil] at htk
          have Htk := Lib.hid htk
          have hbb : (parentOf o.path == p) = false := by simp [hpd]
          have Hpp := Lib.hid hpp
          generalize parentOf o.path = pp at *
          clear hpp ho hom htk hpd
          go_wp2_with fail
          refine (Hpp.out _).mono ?_
          rintro e w5 ⟨rfl, n5⟩
          go_wp2_with fail
          go_roundg (os.length - (k + 1))
          case measure => rw [Hgk.out]; omega
          case rel => exact ⟨k + 1, rfl, by omega, by go_num, by rw [Htk.out], hn.trans n5⟩
      · have e1 : os.take k = os := List.take_of_length_le (by omega)
        rw [e1, ← Hre.out]
        clear e1
        go_wp2_with fail
        go_ret
        exact ⟨by simp, N1.out.trans (nn4.trans hn)⟩
end Go.Proofs.YtnpblnkjdebedaaDoor
