/- The walk of FnTreeHome. -/
import Derived.Test.YtnpblnkjdebedaaDoorDrawTrees
import Derived.Test.YtnpblnkjdebedaaDoorTreeParts
import Derived.Test.YtnpblnkjdebedaaDoorWalkFnExactTreeFind
namespace Go.Proofs.YtnpblnkjdebedaaDoor
open Go.RowKit

set_option maxRecDepth 4000 in
set_option maxHeartbeats 2000000 in
theorem walkFnTreeHome (v : Value) (bs : List Int) (w : World) (h : Nums .u8 Any w v bs) :
    Calls Tryd.prog 6 #[v] w fun e w' => e = .returned (.bool true) ∧ New w w' := by
  have hdr := drawTreeValid v bs w h
  have Hdr := Lib.hid hdr
  clear hdr
  obtain ⟨a, c, rfl, h1, ⟨h2, -⟩, -, -⟩ := h
  unfold maxLen at h2
  by_cases hbig : 1048576 < bs.length
  · have hd : (1048576 : Int) < (bs.length : Int) := by omega
    go_enter Tryd.func6, Tryd.ntmps6
    go_wp2_with fail
    go_ret
    exact ⟨rfl, New.refl _⟩
  have hd : ¬ ((1048576 : Int) < (bs.length : Int)) := by omega
  go_enter Tryd.func6, Tryd.ntmps6
  go_wp2_with fail
  refine Hdr.out.mono ?_
  rintro e w1 ⟨v1, os, rfl, ⟨hl, hsm⟩, o1, n1⟩
  obtain ⟨a1, c1, rfl, s1, s2, -⟩ := o1.shape
  unfold maxLen at s2
  have hall := small_all hsm
  have hI := o1.recs
  have hsp := fun (W : World) (n : New w1 W) => specValid _ os W (Recs.new hI n) hall
  have him := fun (W : World) (n : New w1 W) => implTreeValid _ os W (Recs.new hI n) hall
  have hfi := fun (W : World) (n : New w1 W) (p : List UInt8) (hp : p.length ≤ 1048576) => implTreeFind _ os p W (Recs.new hI n) hall hp
  have hat := fun (W : World) (n : New w1 W) (k : Nat) (o : ItemR) (ho : os[k]? = some o) => Items.at (Recs.new hI n) ho
  unfold FoundPost txt at hfi
  have Hsp := Lib.hid hsp
  have Him := Lib.hid him
  have Hfi := Lib.hid hfi
  have Hat := Lib.hid hat
  have Hsm := Lib.hid hsm
  have N1 := Lib.hid n1
  clear hsp him hfi hat hI o1 hall hsm n1 Hdr
  rcases hk : treeOk os with _ | _
  · rw [hk] at Hsp Him
    clear hk
    go_wp2_with fail
    refine (Him.out _ (New.refl _)).mono ?_
    rintro e w2 ⟨rfl, n2⟩
    go_wp2_with fail
    refine (Hsp.out _ n2).mono ?_
    rintro e w3 ⟨rfl, n3⟩
    go_wp2_with fail
    go_ret
    exact ⟨rfl, (N1.out.trans n2).trans n3⟩
  · rw [hk] at Hsp Him
    have Hk := Lib.hid hk
    have h12 := (treeOk_p hk).2
    clear hk
    go_wp2_with fail
    refine (Him.out _ (New.refl _)).mono ?_
    rintro e w2 ⟨rfl, n2⟩
    go_wp2_with fail
    refine (Hsp.out _ n2).mono ?_
    rintro e w3 ⟨rfl, n3⟩
    replace n3 := n2.trans n3
    clear n2
    go_wp2_with fail
    go_loopg [6] os.length (fun gk i wr => ∃ (k : Nat), gk = os.length - k ∧ k ≤ os.length ∧ i = .int .i64 k ∧ New w1 wr)
    case atStart => exact ⟨0, by omega, by omega, rfl, n3⟩
    case round =>
      obtain ⟨k, hgk, hkl, rfl, hn⟩ := hrel
      have Hgk := Lib.hid hgk
      clear hgk n3
      by_cases hlt : k < os.length
      · obtain ⟨o, ho⟩ := get_of hlt
        obtain ⟨b, off, c', u, e1, hb, c0, -⟩ := Hat.out wr hn k o ho
        simp only [Value.slice.injEq] at e1
        obtain ⟨rfl, -, rfl⟩ := e1
        have hom := List.mem_of_getElem? ho
        have hpl := (Hsm.out o hom).1
        have hpp := fun (W : World) => implPathParent ⟨o.path.toArray⟩ W (by show o.path.toArray.size ≤ _; simp; omega)
        rw [show (⟨o.path.toArray⟩ : ByteArray).data.toList = o.path from rfl, parentIf_ok Hk.out hom, (treeOk_p Hk.out).1.path hom] at hpp
        have hpar := parent_small o.path
        have hfi := fun (W : World) (n : New w1 W) => Hfi.out W n (parentOf o.path) (by omega)
        unfold txt at c0 hpp
        have hho := home_of Hk.out hom
        generalize hP : parentOf o.path = P at *
        have Hpp := Lib.hid hpp
        clear hpp ho hom hP
        rcases hho with rfl | ⟨x, hx, hxd⟩
        · have Hf := Lib.hid hfi
          generalize (findR os []).getD noItem = y at *
          generalize (findR os []).isSome = ok at *
          clear hfi
          go_wp2_with fail
          refine (Hpp.out _).mono ?_
          rintro e w4 ⟨rfl, n4⟩
          have n4' := hn.trans n4
          go_wp2_with fail
          refine (Hf.out _ n4').mono ?_
          rintro e w5 ⟨u5, rfl, o5, n5⟩
          obtain ⟨au5, cu5, rfl, -⟩ := o5.nums
          have n6 := (n4'.trans n5).alloc (.cells #[.string ⟨y.path.toArray⟩, .bool y.dir, .slice au5 y.ids.length cu5] 28)
          obtain ⟨b0, b1, b2⟩ := (Box.made w5 y (.slice au5 y.ids.length cu5)).cells
          clear o5
          go_wp2_with fail
          go_roundg (os.length - (k + 1))
          case measure => rw [Hgk.out]; omega
          case rel => exact ⟨k + 1, rfl, by omega, by go_num, n6⟩
        · rw [hx] at hfi
          simp only [Option.getD_some, Option.isSome_some, hxd] at hfi
          have Hf := Lib.hid hfi
          clear hfi hx hxd
          go_wp2_with fail
          refine (Hpp.out _).mono ?_
          rintro e w4 ⟨rfl, n4⟩
          have n4' := hn.trans n4
          go_wp2_with fail
          refine (Hf.out _ n4').mono ?_
          rintro e w5 ⟨u5, rfl, o5, n5⟩
          obtain ⟨au5, cu5, rfl, -⟩ := o5.nums
          have n6 := (n4'.trans n5).alloc (.cells #[.string ⟨x.path.toArray⟩, .bool true, .slice au5 x.ids.length cu5] 28)
          obtain ⟨b0, b1, b2⟩ := (Box.made w5 ⟨x.path, true, x.ids⟩ (.slice au5 x.ids.length cu5)).cells
          clear o5
          by_cases hPe : P = []
          · subst hPe
            go_wp2_with fail
            go_roundg (os.length - (k + 1))
            case measure => rw [Hgk.out]; omega
            case rel => exact ⟨k + 1, rfl, by omega, by go_num, n6⟩
          · have hpn : (P != []) = true := by simp [hPe]
            have hpn2 : (P == []) = false := by simp [hPe]
            go_wp2_with fail
            go_roundg (os.length - (k + 1))
            case measure => rw [Hgk.out]; omega
            case rel => exact ⟨k + 1, rfl, by omega, by go_num, n6⟩
      · obtain rfl : k = os.length := by omega
        have hle : ((os.length : Int) ≤ 12) := by omega
        go_wp2_with fail
        go_ret
        exact ⟨rfl, N1.out.trans hn⟩
end Go.Proofs.YtnpblnkjdebedaaDoor
