/- TreePut of the program. -/
import Derived.Test.YtkffejommncinaaDoorPutIn
import Derived.Test.YtkffejommncinaaDoorImplDrop
namespace Go.Proofs.YtkffejommncinaaDoor
open Go.RowKit

theorem putR_is {os : List ItemR} {x : ItemR} : putR os x = if (treeOk os && (itemOk x && putOk os x)) = true then some (putS x os) else none := by
  unfold putR putOk
  rcases hk : treeOk os with _ | _
  · rfl
  · rcases hx : itemOk x with _ | _
    · rfl
    · rcases hf : findI os x.path with _ | o
      · rw [put_new_iff hk hx hf]; rfl
      · rcases hc : (!o.dir && !x.dir) with _ | _
        · simp [hc]
        · have hd : o.dir = false := by
            rw [Bool.and_eq_true] at hc
            simpa using hc.1
          have hok := put_old_ok hk hx hf hd
          simp [hc, hok]

set_option maxRecDepth 4000 in
set_option maxHeartbeats 1000000 in
theorem implTreePut {S R : Nat → Prop} (v : Value) (os : List ItemR) (x : ItemR) (u : Value) (w : World) (h : Items S w v os) (hall : ∀ o ∈ os, o.size ≤ 1048576) (hu : Ints R w u x.ids) (hp : x.path.length ≤ 1048576) :
    Calls Tryd.prog 18 #[v, .agg #[txt x.path, .bool x.dir, u]] w (TreesPost (putR os x) w) := by
  have hnb := (New.refl w).alloc (.cells #[txt x.path, .bool x.dir, u] 28)
  have hpb := heap_alloc_new w (.cells #[txt x.path, .bool x.dir, u] 28)
  have hsz : (w.alloc (.cells #[txt x.path, .bool x.dir, u] 28)).heap.size = w.heap.size + 1 := World.size_alloc _ _
  have h0 := h
  have ho := fun (W : World) (n : New w W) => openTree v os W (Recs.new h0 n) hall
  have hiv := fun (W : World) (n : New w W) => implItem x u W (hu.new n) hp
  unfold OpenPost at ho
  unfold txt at hnb hpb hsz hiv ⊢
  obtain ⟨-, a, c, rfl, -⟩ := h
  have hput := fun (b : Key → Nat) (u' kv : Key → Value) (W0 W : World) (n : New w W) (hT : TreeP os) (h12 : os.length ≤ 12) (F : Forest (fun j => W0.heap.size ≤ j) W b u' kv (nodesOf os)) (hx : itemOk x = true) => nodePut F hT h12 x u (hu.new n) hx hp
  unfold PutPost txt at hput
  obtain ⟨au, cu, rfl, -⟩ := hu
  rw [putR_is]
  rcases hk : treeOk os with _ | _
  · rw [hk] at ho
    have Ho := Lib.hid ho
    rw [Bool.false_and, if_neg (by simp)]
    have Nb := Lib.hid hnb
    clear ho hk hnb hpb h0 hiv hput
    go_enter Tryd.func18, Tryd.ntmps18
    go_wp2_with fail
    refine (Ho.out _ Nb.out).mono ?_
    rintro e w1 ⟨rfl, n1⟩
    go_wp2_with fail
    go_ret2
    exact trees_none (Nb.out.trans n1)
  · rw [hk] at ho
    rw [Bool.true_and]
    obtain ⟨hT, h12⟩ := treeOk_p hk
    rcases hx : itemOk x with _ | _
    · rw [hx] at hiv
      have Ho := Lib.hid ho
      have Hiv := Lib.hid hiv
      have Nb := Lib.hid hnb
      have Pb := Lib.hid hpb
      rw [Bool.false_and, if_neg (by simp)]
      clear ho hk hnb hpb h0 hiv hput hT hx
      go_enter Tryd.func18, Tryd.ntmps18
      go_wp2_with fail
      refine (Ho.out _ Nb.out).mono ?_
      rintro e w1 ⟨b, rfl, n1, -⟩
      have nn := Nb.out.trans n1
      obtain ⟨b0, b1, b2, -, -, -⟩ := set3_cells (n1.heap Pb.out)
      go_wp2_with fail
      refine (Hiv.out _ nn).mono ?_
      rintro e w2 ⟨rfl, n2⟩
      go_wp2_with fail
      go_ret2
      exact trees_none (nn.trans n2)
    · rw [hx] at hiv
      rw [Bool.true_and]
      have Ho := Lib.hid ho
      have Hiv := Lib.hid hiv
      have Nb := Lib.hid hnb
      have Pb := Lib.hid hpb
      rcases hc : putOk os x with _ | _
      · rw [hc] at hput
        have Hput := Lib.hid (fun b u' kv W0 W n F => hput b u' kv W0 W n hT h12 F hx)
        rw [if_neg (by simp)]
        clear ho hk hnb hpb h0 hiv hput hT hx hc
        go_enter Tryd.func18, Tryd.ntmps18
        go_wp2_with fail
        refine (Ho.out _ Nb.out).mono ?_
        rintro e w1 ⟨b, rfl, n1, u', kv, F⟩
        have HF := Lib.hid F
        have nn := Nb.out.trans n1
        obtain ⟨b0, b1, b2, -, -, -⟩ := set3_cells (n1.heap Pb.out)
        clear F
        go_wp2_with fail
        refine (Hiv.out _ nn).mono ?_
        rintro e w2 ⟨rfl, n2⟩
        have nn2 := nn.trans n2
        have c0 := n2.cell b0
        have c1 := n2.cell b1
        have c2 := n2.cell b2
        go_wp2_with fail
        refine (Hput.out b u' kv _ _ nn2 (HF.out.new n2)).mono ?_
        rintro e w3 ⟨rfl, n3⟩
        go_wp2_with fail
        go_ret2
        exact trees_none (nn2.trans n3)
      · rw [hc] at hput
        have Hput := Lib.hid (fun b u' kv W0 W n F => hput b u' kv W0 W n hT h12 F hx)
        rw [if_pos rfl]
        have hk2 : treeOk (putS x os) = true := by
          rcases hf : findI os x.path with _ | o
          · rw [put_new_iff hk hx hf]
            unfold putOk at hc
            rw [hf] at hc
            exact hc
          · unfold putOk at hc
            rw [hf] at hc
            simp only [Bool.and_eq_true, Bool.not_eq_true'] at hc
            exact put_old_ok hk hx hf hc.1
        obtain ⟨hT2, h122⟩ := treeOk_p hk2
        have hli := fun (S2 : Nat → Prop) (b : Key → Nat) (u' kv : Key → Value) (W : World) (F : Forest S2 W b u' kv (nodesOf (putS x os))) => nodeList F hT2 h122 (fun o ho => by have := itemOk_ids (hT2.ok o ho); omega)
        have Hli := Lib.hid hli
        clear ho hk hnb hpb h0 hiv hput hT hx hc hk2 hT2 h122 hli
        go_enter Tryd.func18, Tryd.ntmps18
        go_wp2_with fail
        refine (Ho.out _ Nb.out).mono ?_
        rintro e w1 ⟨b, rfl, n1, u', kv, F⟩
        have HF := Lib.hid F
        have nn := Nb.out.trans n1
        obtain ⟨b0, b1, b2, -, -, -⟩ := set3_cells (n1.heap Pb.out)
        clear F
        go_wp2_with fail
        refine (Hiv.out _ nn).mono ?_
        rintro e w2 ⟨rfl, n2⟩
        have nn2 := nn.trans n2
        have c0 := n2.cell b0
        have c1 := n2.cell b1
        have c2 := n2.cell b2
        go_wp2_with fail
        refine (Hput.out b u' kv _ _ nn2 (HF.out.new n2)).mono ?_
        rintro e w3 ⟨rfl, c3, b', hb', u3, kv3, F3⟩
        have n3 := nn2.trans_chg c3 (fun j hj e => by omega)
        have HF3 := Lib.hid F3
        have hli := Hli.out _ b' u3 kv3 _ HF3.out
        rw [hb'] at hli
        have Hli2 := Lib.hid hli
        clear F3 c3 hb' hli c0 c1 c2 b0 b1 b2
        go_wp2_with fail
        refine Hli2.out.mono ?_
        rintro e w4 ⟨v4, rfl, o4, n4⟩
        obtain ⟨a4, c4, rfl, -⟩ := o4.shape
        have z3 := n3.size
        go_wp2_with fail
        go_ret2
        exact ⟨_, rfl, OwnRecs.mono o4 (fun j _ hj => by omega), n3.trans n4⟩
end Go.Proofs.YtkffejommncinaaDoor
