/- TreeDrop of the program. -/
import Derived.Test.YtkffejommncinaaDoorDropIn
import Derived.Test.YtkffejommncinaaDoorOpenTree
namespace Go.Proofs.YtkffejommncinaaDoor
open Go.RowKit

/-- a tree that was made, or none -/
def TreesPost (r : Option (List ItemR)) (w : World) (e : Ending) (w' : World) : Prop :=
  ∃ v, e = .returned (.tuple #[v, .bool r.isSome]) ∧ OwnItems (fun j => w.heap.size ≤ j) w' v (r.getD []) ∧ New w w'
theorem trees_none {w w' : World} (n : New w w') : TreesPost none w (.returned (.tuple #[.slice none 0 0, .bool false])) w' := ⟨_, rfl, OwnRecs.nil _ _ _ _, n⟩
theorem itemOk_ids {o : ItemR} (h : itemOk o = true) : o.ids.length ≤ 4 := by
  simp only [itemOk, Bool.and_eq_true, decide_eq_true_eq] at h
  exact h.1.1.2

set_option maxRecDepth 4000 in
set_option maxHeartbeats 1000000 in
theorem implTreeDrop {S : Nat → Prop} (v : Value) (os : List ItemR) (p : List UInt8) (w : World) (h : Items S w v os) (hall : ∀ o ∈ os, o.size ≤ 1048576) (hp : p.length ≤ 1048576) :
    Calls Tryd.prog 16 #[v, txt p] w (TreesPost (dropR os p) w) := by
  have ho := openTree v os w h hall
  unfold OpenPost at ho
  unfold txt
  obtain ⟨-, a, c, rfl, -⟩ := h
  rcases hk : treeOk os with _ | _
  · rw [hk] at ho
    have hr : dropR os p = none := by unfold dropR; rw [hk]; rfl
    have Ho := Lib.hid ho
    rw [hr]
    clear ho hk hr
    go_enter Tryd.func16, Tryd.ntmps16
    go_wp2_with fail
    refine Ho.out.mono ?_
    rintro e w1 ⟨rfl, n1⟩
    go_wp2_with fail
    go_ret2
    exact trees_none n1
  · rw [hk] at ho
    obtain ⟨hT, h12⟩ := treeOk_p hk
    have hdr := fun (b : Key → Nat) (u kv : Key → Value) (W : World) (F : Forest (fun j => w.heap.size ≤ j) W b u kv (nodesOf os)) => nodeDrop F hT h12 p hp
    unfold DropPost txt at hdr
    have Ho := Lib.hid ho
    rcases hc : ((findI os p).isSome && noKids p os) with _ | _
    · have hr : dropR os p = none := by unfold dropR; rw [hk, hc]; rfl
      rw [hr]
      rw [hc] at hdr
      have Hdr := Lib.hid hdr
      clear ho hk hr hdr hc hT
      go_enter Tryd.func16, Tryd.ntmps16
      go_wp2_with fail
      refine Ho.out.mono ?_
      rintro e w1 ⟨b, rfl, n1, u, kv, F⟩
      have HF := Lib.hid F
      clear F
      go_wp2_with fail
      refine (Hdr.out b u kv _ HF.out).mono ?_
      rintro e w2 ⟨rfl, n2⟩
      go_wp2_with fail
      go_ret2
      exact trees_none (n1.trans n2)
    · have hr : dropR os p = some (dropS p os) := by unfold dropR; rw [hk, hc]; rfl
      rw [hr]
      rw [hc] at hdr
      obtain ⟨z, hz, rfl⟩ : ∃ z ∈ os, z.path = p := by
        rw [Bool.and_eq_true] at hc
        rcases hf : findI os p with _ | z
        · rw [hf] at hc; cases hc.1
        · exact ⟨z, (findI_some hf).1, (findI_some hf).2⟩
      have hk2 : treeOk (dropS z.path os) = true := by
        rw [drop_iff hk hz]
        rw [Bool.and_eq_true] at hc
        exact hc.2
      obtain ⟨hT2, h122⟩ := treeOk_p hk2
      have hli := fun (b : Key → Nat) (u kv : Key → Value) (W : World) (F : Forest (fun j => w.heap.size ≤ j) W b u kv (nodesOf (dropS z.path os))) => nodeList F hT2 h122 (fun o ho => by have := itemOk_ids (hT2.ok o ho); omega)
      have Hdr := Lib.hid hdr
      have Hli := Lib.hid hli
      clear ho hk hr hdr hc hT hli hk2 hT2 h122 hz
      go_enter Tryd.func16, Tryd.ntmps16
      go_wp2_with fail
      refine Ho.out.mono ?_
      rintro e w1 ⟨b, rfl, n1, u, kv, F⟩
      have HF := Lib.hid F
      clear F
      go_wp2_with fail
      refine (Hdr.out b u kv _ HF.out).mono ?_
      rintro e w2 ⟨rfl, c2, kv2, F2⟩
      have HF2 := Lib.hid F2
      have n2 := n1.trans_chg c2 (fun j hj e => by omega)
      clear F2 c2
      go_wp2_with fail
      refine (Hli.out b u kv2 _ HF2.out).mono ?_
      rintro e w3 ⟨v3, rfl, o3, n3⟩
      obtain ⟨a3, c3, rfl, -⟩ := o3.shape
      have z2 := n2.size
      go_wp2_with fail
      go_ret2
      exact ⟨_, rfl, OwnRecs.mono o3 (fun j _ hj => by omega), n2.trans n3⟩
end Go.Proofs.YtkffejommncinaaDoor
