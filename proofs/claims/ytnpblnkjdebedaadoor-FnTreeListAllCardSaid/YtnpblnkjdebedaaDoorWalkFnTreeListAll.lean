/- The walk of FnTreeListAll. -/
import Derived.Test.YtnpblnkjdebedaaDoorDrawTrees
import Derived.Test.YtnpblnkjdebedaaDoorTreeParts
namespace Go.Proofs.YtnpblnkjdebedaaDoor
open Go.RowKit

set_option maxRecDepth 4000 in
set_option maxHeartbeats 2000000 in
theorem walkFnTreeListAll (v : Value) (bs : List Int) (w : World) (h : Nums .u8 Any w v bs) :
    Calls Tryd.prog 4 #[v] w fun e w' => e = .returned (.bool true) ∧ New w w' := by
  have hdr := drawTreeValid v bs w h
  have Hdr := Lib.hid hdr
  clear hdr
  obtain ⟨a, c, rfl, h1, ⟨h2, -⟩, -, -⟩ := h
  unfold maxLen at h2
  by_cases hbig : 1048576 < bs.length
  · have hd : (1048576 : Int) < (bs.length : Int) := by omega
    go_enter Tryd.func4, Tryd.ntmps4
    go_wp2_with fail
    go_ret
    exact ⟨rfl, New.refl _⟩
  have hd : ¬ ((1048576 : Int) < (bs.length : Int)) := by omega
  go_enter Tryd.func4, Tryd.ntmps4
  go_wp2_with fail
  refine Hdr.out.mono ?_
  rintro e w1 ⟨v1, os, rfl, ⟨hl, hsm⟩, o1, n1⟩
  obtain ⟨a1, c1, rfl, s1, s2, -⟩ := o1.shape
  unfold maxLen at s2
  have hall := small_all hsm
  have hI := o1.recs
  have hsp := fun (W : World) (n : New w1 W) => specValid _ os W (Recs.new hI n) hall
  have him := fun (W : World) (n : New w1 W) => implTreeValid _ os W (Recs.new hI n) hall
  have hfi := fun (W : World) (n : New w1 W) (p : List UInt8) (hp : p.length ≤ 1048576) => implTreeFind _ os p W (Recs.new hI n) hall hp
  have hfs := fun (W : World) (n : New w1 W) (p : List UInt8) => specTreeFind _ os p W (Recs.new hI n) hall
  have hli := fun (W : World) (n : New w1 W) (p : List UInt8) (hp : p.length ≤ 1048576) => implTreeList _ os p W (Recs.new hI n) hall hp
  have hls := fun (W : World) (n : New w1 W) (p : List UInt8) => specTreeList _ os p W (Recs.new hI n) hall
  have hat := fun (W : World) (n : New w1 W) (k : Nat) (o : ItemR) (ho : os[k]? = some o) => Items.at (Recs.new hI n) ho
  unfold FoundPost txt at hfi hfs
  unfold ListPost txt at hli hls
  have Hsp := Lib.hid hsp
  have Him := Lib.hid him
  have Hfi := Lib.hid hfi
  have Hfs := Lib.hid hfs
  have Hli := Lib.hid hli
  have Hls := Lib.hid hls
  have Hat := Lib.hid hat
  have Hsm := Lib.hid hsm
  have Hall := Lib.hid hall
  have HI := Lib.hid hI
  have N1 := Lib.hid n1
  clear hsp him hfi hfs hli hls hat hI o1 hall hsm n1 Hdr
  rcases hk : treeOk os with _ | _
  · rw [hk] at Hsp Him
    clear hk
    go_wp2_with fail
    refine (Him.out _ (New.refl _)).mono ?_
    rintro e w2 ⟨rfl, n2⟩
    go_wp2_with fail
    refine (Hsp.out _ n2).mono ?_
    rintro e w3 ⟨rfl, n3⟩
    go_wp2_with fail
    go_ret
    exact ⟨rfl, (N1.out.trans n2).trans n3⟩
  · rw [hk] at Hsp Him
    have Hk := Lib.hid hk
    have h12 := (treeOk_p hk).2
    clear hk
    go_wp2_with fail
    refine (Him.out _ (New.refl _)).mono ?_
    rintro e w2 ⟨rfl, n2⟩
    go_wp2_with fail
    refine (Hsp.out _ n2).mono ?_
    rintro e w3 ⟨rfl, n3⟩
    replace n3 := n2.trans n3
    clear n2
    have htop := Hli.out w3 n3 [] (by simp)
    rw [list_top Hk.out] at htop
    simp only [Option.getD_some, Option.isSome_some] at htop
    have Htop := Lib.hid htop
    have hcnt := tree_count Hk.out
    have hbd := sumIn_le os (dirsOf os)
    clear htop
    go_wp2_with fail
    refine Htop.out.mono ?_
    rintro e w4 ⟨v4, rfl, o4, n4⟩
    obtain ⟨a4, c4, rfl, -⟩ := o4.shape
    replace n4 := n3.trans n4
    clear n3 o4
    go_wp2_with fail
    go_loopg [7, 8, 9] os.length (fun gk p n i wr => ∃ (k : Nat), gk = os.length - k ∧ k ≤ os.length ∧ i = .int .i64 k ∧ p = .bool true ∧ n = .int .i64 (((pathsIn [] os).length + sumIn os (dirsOf (os.take k)) : Nat) : Int) ∧ New w1 wr)
    case atStart => exact ⟨0, by omega, by omega, rfl, rfl, by simp [dirsOf, sumIn], n4⟩
    case round =>
      obtain ⟨k, hgk, hkl, rfl, rfl, rfl, hn⟩ := hrel
      have Hgk := Lib.hid hgk
      clear hgk n4
      by_cases hlt : k < os.length
      · obtain ⟨o, ho⟩ := get_of hlt
        obtain ⟨b, off, c', u, e1, hb, c0, c1, -⟩ := Hat.out wr hn k o ho
        simp only [Value.slice.injEq] at e1
        obtain ⟨rfl, -, rfl⟩ := e1
        have hom := List.mem_of_getElem? ho
        have hpl := (Hsm.out o hom).1
        have hdt := dirsOf_take ho
        have hn1 := pathsIn_len [] os
        have hn2 : sumIn os (dirsOf (os.take k)) ≤ 81 := by
          refine Nat.le_trans (sumIn_le _ _) ?_
          have h1 := dirsOf_len (os.take k)
          rw [List.length_take] at h1
          exact Nat.mul_le_mul (show _ ≤ 9 by omega) (show _ ≤ 9 by omega)
        unfold txt at c0
        rcases hod : o.dir with _ | _
        · rw [hod] at c1 hdt
          rw [if_neg (by simp), List.append_nil] at hdt
          have Hdt := Lib.hid hdt
          clear hdt ho hom hod
          go_wp2_with fail
          go_roundg (os.length - (k + 1))
          case measure => rw [Hgk.out]; omega
          case rel => exact ⟨k + 1, rfl, by omega, by go_num, rfl, by rw [Hdt.out], hn⟩
        · rw [hod] at c1 hdt
          rw [if_pos rfl] at hdt
          have hld := fun (W : World) (n : New w1 W) => Hli.out W n o.path (by omega)
          rw [list_dir Hk.out hom hod] at hld
          simp only [Option.getD_some, Option.isSome_some] at hld
          have hn3 := pathsIn_len o.path os
          have Hld := Lib.hid hld
          have Hdt := Lib.hid hdt
          clear hdt ho hom hod hld
          go_wp2_with fail
          refine (Hld.out _ hn).mono ?_
          rintro e w5 ⟨v5, rfl, o5, n5⟩
          obtain ⟨a5, c5, rfl, -⟩ := o5.shape
          replace n5 := hn.trans n5
          clear o5
          go_wp2_with fail
          go_roundg (os.length - (k + 1))
          case measure => rw [Hgk.out]; omega
          case rel => exact ⟨k + 1, rfl, by omega, by go_num, rfl, by rw [Hdt.out, sumIn_append]; simp [sumIn]; omega, n5⟩
      · obtain rfl : k = os.length := by omega
        rw [List.take_length, hcnt]
        go_wp2_with fail
        go_ret
        exact ⟨by simp, N1.out.trans hn⟩
end Go.Proofs.YtnpblnkjdebedaaDoor
