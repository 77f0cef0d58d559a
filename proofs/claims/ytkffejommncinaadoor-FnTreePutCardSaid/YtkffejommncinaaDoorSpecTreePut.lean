/- The reference's TreePut. -/
import Derived.Test.YtkffejommncinaaDoorSpecPut
namespace Go.Proofs.YtkffejommncinaaDoor
open Go.RowKit

set_option maxRecDepth 4000 in
set_option maxHeartbeats 2000000 in
theorem specTreePut {S R : Nat → Prop} (v : Value) (os : List ItemR) (x : ItemR) (u : Value) (w : World) (h : Items S w v os) (hall : ∀ o ∈ os, o.size ≤ 1048576) (hu : Ints R w u x.ids) (hxs : x.size ≤ 1048576) :
    Calls Tryd.prog 19 #[v, .agg #[txt x.path, .bool x.dir, u]] w (TreesPost (putR os x) w) := by
  have hnb := (New.refl w).alloc (.cells #[txt x.path, .bool x.dir, u] 28)
  have hpb := heap_alloc_new w (.cells #[txt x.path, .bool x.dir, u] 28)
  obtain ⟨hp, hxi⟩ := ItemR.parts hxs
  have h0 := h
  have hsv := fun (W : World) (n : New w W) => specValid v os W (Recs.new h0 n) hall
  have hsa := fun (W : World) (n : New w W) => specAt v os x.path W (Recs.new h0 n)
  have hat := fun (W : World) (n : New w W) (k : Nat) (o : ItemR) (ho : os[k]? = some o) => Items.at (Recs.new h0 n) ho
  have hiv := fun (W : World) (n : New w W) => specItem x u W (hu.new n) hp
  have hput := fun (W : World) (n : New w W) (hl : os.length ≤ 900) (ha : Asc os) => spec5Put v os x u W (Recs.new h0 n) hl hall (hu.new n) hp hxi ha
  obtain ⟨-, a, c, rfl, h1, h2, -⟩ := h
  unfold maxLen at h2
  unfold txt at hnb hpb hsa hiv hput ⊢
  obtain ⟨au, cu, rfl, -⟩ := hu
  have Nb := Lib.hid hnb
  have Pb := Lib.hid hpb
  have Hall := Lib.hid hall
  clear hnb hpb h0 hall
  rcases hk : treeOk os with _ | _
  · have hr : putR os x = none := by unfold putR; rw [hk]; rfl
    rw [hk] at hsv
    rw [hr]
    have Hsv := Lib.hid hsv
    clear hk hr hsv hsa hat hiv hput
    go_enter Tryd.func19, Tryd.ntmps19
    go_wp2_with fail
    refine (Hsv.out _ Nb.out).mono ?_
    rintro e w1 ⟨rfl, n1⟩
    have nn := Nb.out.trans n1
    obtain ⟨b0, b1, b2, -, -, -⟩ := set3_cells (n1.heap Pb.out)
    go_wp2_with fail
    go_ret2
    exact ⟨_, rfl, OwnRecs.mono (OwnRecs.empty _ _ _) (fun j _ hj => by have := nn.size; omega), nn.alloc _⟩
  · obtain ⟨hT, h12⟩ := treeOk_p hk
    rw [hk] at hsv
    have Hsv := Lib.hid hsv
    rcases hx : itemOk x with _ | _
    · have hr : putR os x = none := by unfold putR; rw [hx]; simp
      rw [hx] at hiv
      rw [hr]
      have Hiv := Lib.hid hiv
      clear hk hr hsv hsa hat hiv hput hT hx
      go_enter Tryd.func19, Tryd.ntmps19
      go_wp2_with fail
      refine (Hsv.out _ Nb.out).mono ?_
      rintro e w1 ⟨rfl, n1⟩
      have nn := Nb.out.trans n1
      obtain ⟨b0, b1, b2, -, -, -⟩ := set3_cells (n1.heap Pb.out)
      go_wp2_with fail
      refine (Hiv.out _ nn).mono ?_
      rintro e w2 ⟨rfl, n2⟩
      replace nn := nn.trans n2
      replace b0 := n2.cell b0
      replace b1 := n2.cell b1
      replace b2 := n2.cell b2
      go_wp2_with fail
      go_ret2
      exact ⟨_, rfl, OwnRecs.mono (OwnRecs.empty _ _ _) (fun j _ hj => by have := nn.size; omega), nn.alloc _⟩
    · rw [hx] at hiv
      have Hiv := Lib.hid hiv
      have Hput := Lib.hid (fun W n => hput W n (by omega) hT.asc)
      have hallp : ∀ o ∈ putS x os, o.size ≤ 1048576 := fun o ho => by
        rcases (mem_put hT.asc o).1 ho with rfl | ⟨ho, -⟩
        · exact hxs
        · exact Hall.out o ho
      have Hallp := Lib.hid hallp
      rcases atI_cases os x.path with ⟨e1, e2⟩ | ⟨i, z, e1, e2, e3, e4⟩
      · have hr : putR os x = if treeOk (putS x os) = true then some (putS x os) else none := by unfold putR; rw [hk, hx, e2]; rfl
        rw [e1] at hsa
        have Hsa := Lib.hid hsa
        have Hr := Lib.hid hr
        clear hk hr hsv hsa hat hiv hput hT hx hallp e1 e2
        go_enter Tryd.func19, Tryd.ntmps19
        go_wp2_with fail
        refine (Hsv.out _ Nb.out).mono ?_
        rintro e w1 ⟨rfl, n1⟩
        have nn := Nb.out.trans n1
        obtain ⟨b0, b1, b2, -, -, -⟩ := set3_cells (n1.heap Pb.out)
        go_wp2_with fail
        refine (Hiv.out _ nn).mono ?_
        rintro e w2 ⟨rfl, n2⟩
        replace nn := nn.trans n2
        replace b0 := n2.cell b0
        replace b1 := n2.cell b1
        replace b2 := n2.cell b2
        go_wp2_with fail
        refine (Hsa.out _ nn).mono ?_
        rintro e w3 ⟨rfl, rfl⟩
        go_wp2_with fail
        refine (Hput.out _ nn).mono ?_
        rintro e w4 ⟨v4, rfl, o4, n4⟩
        obtain ⟨a4, c4, rfl, -⟩ := o4.shape
        have nn4 := nn.trans n4
        have zz := nn.size
        have hva := specValid _ (putS x os) _ o4.recs Hallp.out
        have O4 := Lib.hid o4
        rcases hk2 : treeOk (putS x os) with _ | _
        · rw [hk2] at hva
          have hr := Hr.out
          rw [hk2, if_neg (by simp)] at hr
          have Hva := Lib.hid hva
          have Hr2 := Lib.hid hr
          clear hva hr hk2 o4
          go_wp2_with fail
          refine Hva.out.mono ?_
          rintro e w5 ⟨rfl, n5⟩
          go_wp2_with fail
          go_ret2
          rw [Hr2.out]
          exact ⟨_, rfl, OwnRecs.mono (OwnRecs.empty _ _ _) (fun j _ hj => by have := (nn4.trans n5).size; omega), (nn4.trans n5).alloc _⟩
        · rw [hk2] at hva
          have hr := Hr.out
          rw [hk2, if_pos rfl] at hr
          have Hva := Lib.hid hva
          have Hr2 := Lib.hid hr
          clear hva hr hk2 o4
          go_wp2_with fail
          refine Hva.out.mono ?_
          rintro e w5 ⟨rfl, n5⟩
          go_wp2_with fail
          go_ret2
          rw [Hr2.out]
          exact ⟨_, rfl, OwnRecs.mono (OwnRecs.new O4.out n5) (fun j _ hj => by omega), nn4.trans n5⟩
      · rw [e1] at hsa
        have Hsa := Lib.hid hsa
        have hat2 := fun (W : World) (n : New w W) => hat W n i z e2
        have Hat := Lib.hid hat2
        have hil := (List.getElem?_eq_some_iff.1 e2).1
        have hi0 : (0 : Int) ≤ (i : Int) := by omega
        have hi1 : (i : Int) < (os.length : Int) := by omega
        rcases hzd : z.dir with _ | _
        · rcases hxd : x.dir with _ | _
          · have hr : putR os x = if treeOk (putS x os) = true then some (putS x os) else none := by unfold putR; rw [hk, hx, e4]; simp [hzd, hxd]
            have Hr := Lib.hid hr
            have Hzd := Lib.hid hzd
            rw [hxd] at Nb Pb Hiv Hput
            clear hk hr hsv hsa hat hat2 hiv hput hT hx hallp e1 e2 e3 e4 hzd hxd
            go_enter Tryd.func19, Tryd.ntmps19
            go_wp2_with fail
            refine (Hsv.out _ Nb.out).mono ?_
            rintro e w1 ⟨rfl, n1⟩
            have nn := Nb.out.trans n1
            obtain ⟨b0, b1, b2, -, -, -⟩ := set3_cells (n1.heap Pb.out)
            go_wp2_with fail
            refine (Hiv.out _ nn).mono ?_
            rintro e w2 ⟨rfl, n2⟩
            replace nn := nn.trans n2
            replace b0 := n2.cell b0
            replace b1 := n2.cell b1
            replace b2 := n2.cell b2
            go_wp2_with fail
            refine (Hsa.out _ nn).mono ?_
            rintro e w3 ⟨rfl, rfl⟩
            obtain ⟨bb, off, c', uz, e1, -, -, d1, -⟩ := Hat.out _ nn
            simp only [Value.slice.injEq] at e1
            obtain ⟨rfl, -, rfl⟩ := e1
            rw [Hzd.out] at d1
            go_wp2_with fail
            refine (Hput.out _ nn).mono ?_
            rintro e w4 ⟨v4, rfl, o4, n4⟩
            obtain ⟨a4, c4, rfl, -⟩ := o4.shape
            have nn4 := nn.trans n4
            have zz := nn.size
            have hva := specValid _ (putS x os) _ o4.recs Hallp.out
            have O4 := Lib.hid o4
            rcases hk2 : treeOk (putS x os) with _ | _
            · rw [hk2] at hva
              have hr := Hr.out
              rw [hk2, if_neg (by simp)] at hr
              have Hva := Lib.hid hva
              have Hr2 := Lib.hid hr
              clear hva hr hk2 o4
              go_wp2_with fail
              refine Hva.out.mono ?_
              rintro e w5 ⟨rfl, n5⟩
              go_wp2_with fail
              go_ret2
              rw [Hr2.out]
              exact ⟨_, rfl, OwnRecs.mono (OwnRecs.empty _ _ _) (fun j _ hj => by have := (nn4.trans n5).size; omega), (nn4.trans n5).alloc _⟩
            · rw [hk2] at hva
              have hr := Hr.out
              rw [hk2, if_pos rfl] at hr
              have Hva := Lib.hid hva
              have Hr2 := Lib.hid hr
              clear hva hr hk2 o4
              go_wp2_with fail
              refine Hva.out.mono ?_
              rintro e w5 ⟨rfl, n5⟩
              go_wp2_with fail
              go_ret2
              rw [Hr2.out]
              exact ⟨_, rfl, OwnRecs.mono (OwnRecs.new O4.out n5) (fun j _ hj => by omega), nn4.trans n5⟩
          · have hr : putR os x = none := by unfold putR; rw [hk, hx, e4]; simp [hxd]
            rw [hr]
            have Hzd := Lib.hid hzd
            rw [hxd] at Nb Pb Hiv
            clear hk hr hsv hsa hat hat2 hiv hput hT hx hallp e1 e2 e3 e4 hzd hxd
            go_enter Tryd.func19, Tryd.ntmps19
            go_wp2_with fail
            refine (Hsv.out _ Nb.out).mono ?_
            rintro e w1 ⟨rfl, n1⟩
            have nn := Nb.out.trans n1
            obtain ⟨b0, b1, b2, -, -, -⟩ := set3_cells (n1.heap Pb.out)
            go_wp2_with fail
            refine (Hiv.out _ nn).mono ?_
            rintro e w2 ⟨rfl, n2⟩
            replace nn := nn.trans n2
            replace b0 := n2.cell b0
            replace b1 := n2.cell b1
            replace b2 := n2.cell b2
            go_wp2_with fail
            refine (Hsa.out _ nn).mono ?_
            rintro e w3 ⟨rfl, rfl⟩
            obtain ⟨bb, off, c', uz, e1, -, -, d1, -⟩ := Hat.out _ nn
            simp only [Value.slice.injEq] at e1
            obtain ⟨rfl, -, rfl⟩ := e1
            rw [Hzd.out] at d1
            go_wp2_with fail
            go_ret2
            exact ⟨_, rfl, OwnRecs.mono (OwnRecs.empty _ _ _) (fun j _ hj => by have := nn.size; omega), nn.alloc _⟩
        · have hr : putR os x = none := by unfold putR; rw [hk, hx, e4]; simp [hzd]
          rw [hr]
          have Hzd := Lib.hid hzd
          clear hk hr hsv hsa hat hat2 hiv hput hT hx hallp e1 e2 e3 e4 hzd
          go_enter Tryd.func19, Tryd.ntmps19
          go_wp2_with fail
          refine (Hsv.out _ Nb.out).mono ?_
          rintro e w1 ⟨rfl, n1⟩
          have nn := Nb.out.trans n1
          obtain ⟨b0, b1, b2, -, -, -⟩ := set3_cells (n1.heap Pb.out)
          go_wp2_with fail
          refine (Hiv.out _ nn).mono ?_
          rintro e w2 ⟨rfl, n2⟩
          replace nn := nn.trans n2
          replace b0 := n2.cell b0
          replace b1 := n2.cell b1
          replace b2 := n2.cell b2
          go_wp2_with fail
          refine (Hsa.out _ nn).mono ?_
          rintro e w3 ⟨rfl, rfl⟩
          obtain ⟨bb, off, c', uz, e1, -, -, d1, -⟩ := Hat.out _ nn
          simp only [Value.slice.injEq] at e1
          obtain ⟨rfl, -, rfl⟩ := e1
          rw [Hzd.out] at d1
          go_wp2_with fail
          go_ret2
          exact ⟨_, rfl, OwnRecs.mono (OwnRecs.empty _ _ _) (fun j _ hj => by have := nn.size; omega), nn.alloc _⟩
end Go.Proofs.YtkffejommncinaaDoor
