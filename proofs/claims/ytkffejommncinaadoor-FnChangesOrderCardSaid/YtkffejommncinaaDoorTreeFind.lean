/- TreeValid, TreeFind of the program and of the reference. -/
import Derived.Test.YtkffejommncinaaDoorOpenTree
import Derived.Test.YtkffejommncinaaDoorSpecValid
namespace Go.Proofs.YtkffejommncinaaDoor
open Go.RowKit

set_option maxRecDepth 4000 in
set_option maxHeartbeats 400000 in
theorem implTreeValid {S : Nat → Prop} (v : Value) (os : List ItemR) (w : World) (h : Items S w v os) (hall : ∀ o ∈ os, o.size ≤ 1048576) :
    Calls Tryd.prog 23 #[v] w fun e w' => e = .returned (.bool (treeOk os)) ∧ New w w' := by
  have ho := openTree v os w h hall
  unfold OpenPost at ho
  obtain ⟨-, a, c, rfl, -⟩ := h
  rcases hk : treeOk os with _ | _
  · rw [hk] at ho
    have Ho := Lib.hid ho
    clear ho hk
    go_enter Tryd.func23, Tryd.ntmps23
    go_wp2_with fail
    refine Ho.out.mono ?_
    rintro e w1 ⟨rfl, n1⟩
    go_wp2_with fail
    go_ret
    exact ⟨rfl, n1⟩
  · rw [hk] at ho
    have Ho := Lib.hid ho
    clear ho hk
    go_enter Tryd.func23, Tryd.ntmps23
    go_wp2_with fail
    refine Ho.out.mono ?_
    rintro e w1 ⟨b, rfl, n1, -⟩
    go_wp2_with fail
    go_ret
    exact ⟨rfl, n1⟩

def findR (os : List ItemR) (p : List UInt8) : Option ItemR := if treeOk os = true then findI os p else none
def noItem : ItemR := ⟨[], false, []⟩
/-- an item that was found, or none -/
def FoundPost (r : Option ItemR) (w : World) (e : Ending) (w' : World) : Prop :=
  ∃ u, e = .returned (.tuple #[.agg #[txt (r.getD noItem).path, .bool (r.getD noItem).dir, u], .bool r.isSome]) ∧ OwnI (fun j => w.heap.size ≤ j) w' u (r.getD noItem).ids ∧ New w w'
theorem findI_some {os : List ItemR} {p : List UInt8} {o : ItemR} (h : findI os p = some o) : o ∈ os ∧ o.path = p :=
  ⟨List.mem_of_find?_eq_some h, by simpa using List.find?_some h⟩
theorem find_ptr {os : List ItemR} (h : TreeP os) (b : Key → Nat) (p : List UInt8) : (if pathOk p = true then ptrAt (nodesOf os) b (cutS p) else .pointer none) = if (findI os p).isSome = true then .pointer (some ⟨b (cutS p), 0, none⟩) else (.pointer none : Value) := by
  rcases hf : findI os p with _ | o
  · have hn : hasKey (nodesOf os) (cutS p) = false := by
      rcases hh : hasKey (nodesOf os) (cutS p) with _ | _
      · rfl
      · obtain ⟨o, ho, e⟩ := has_path.1 hh
        unfold findI at hf
        rw [List.find?_eq_none] at hf
        exact absurd (by simpa using e) (hf o ho)
    rw [ptrAt_not hn]; simp
  · obtain ⟨ho, rfl⟩ := findI_some hf
    rw [if_pos (h.path ho), ptrAt_has (has_path.2 ⟨o, ho, rfl⟩)]; simp

theorem set3_heap {w : World} {g : Nat} {a b c x y z : Value} {t : TypeId} (h : w.heap[g]? = some (.cells #[a, b, c] t)) :
    (((w.setCell ⟨g, 0, none⟩ x).setCell ⟨g, 1, none⟩ y).setCell ⟨g, 2, none⟩ z).heap[g]? = some (.cells #[x, y, z] t) := by
  simp [World.setCell, Array.getElem?_modify, h]
theorem set3_cells {w : World} {g : Nat} {x y z : Value} {t : TypeId} (h : w.heap[g]? = some (.cells #[x, y, z] t)) :
    w.cell? ⟨g, 0, none⟩ = some x ∧ w.cell? ⟨g, 1, none⟩ = some y ∧ w.cell? ⟨g, 2, none⟩ = some z ∧ w.frozen? ⟨g, 0, none⟩ = false ∧ w.frozen? ⟨g, 1, none⟩ = false ∧ w.frozen? ⟨g, 2, none⟩ = false := by
  simp [World.cell?, World.frozen?, h]
theorem set3_chg (w : World) (g : Nat) (x y z : Value) : Chg (fun k => k = g) w (((w.setCell ⟨g, 0, none⟩ x).setCell ⟨g, 1, none⟩ y).setCell ⟨g, 2, none⟩ z) :=
  chg_set3 w g 0 1 2 x y z

set_option maxRecDepth 4000 in
set_option maxHeartbeats 1000000 in
theorem implTreeFind {S : Nat → Prop} (v : Value) (os : List ItemR) (p : List UInt8) (w : World) (h : Items S w v os) (hall : ∀ o ∈ os, o.size ≤ 1048576) (hp : p.length ≤ 1048576) :
    Calls Tryd.prog 12 #[v, txt p] w (FoundPost (findR os p) w) := by
  have h0 := h
  have ho := fun (W : World) (n : New w W) => openTree v os W (Recs.new h0 n) hall
  unfold OpenPost at ho
  have n0 : New w (w.alloc (.cells #[.string ⟨#[]⟩, .bool false, .slice none 0 0] 28)) := (New.refl w).alloc _
  have N0 := Lib.hid n0
  have p0 : (w.alloc (.cells #[.string ⟨#[]⟩, .bool false, .slice none 0 0] 28)).heap[w.heap.size]? = some (.cells #[.string ⟨#[]⟩, .bool false, .slice none 0 0] 28) := heap_alloc_new w _
  have P0 := Lib.hid p0
  unfold txt
  obtain ⟨-, a, c, rfl, -⟩ := h
  have hsz : (w.alloc (.cells #[.string ⟨#[]⟩, .bool false, .slice none 0 0] 28)).heap.size = w.heap.size + 1 := World.size_alloc _ _
  have Hsz := Lib.hid hsz
  clear n0 p0 hsz h0
  rcases hk : treeOk os with _ | _
  · rw [hk] at ho
    have hr : findR os p = none := by unfold findR; rw [hk]; rfl
    have Ho := Lib.hid ho
    rw [hr]
    clear ho hk hr
    go_enter Tryd.func12, Tryd.ntmps12
    go_wp2_with fail
    refine (Ho.out _ N0.out).mono ?_
    rintro e w1 ⟨rfl, n1⟩
    have hc := n1.heap P0.out
    obtain ⟨c0, c1, c2, f0, f1, f2⟩ := set3_cells hc
    have Hc := Lib.hid hc
    have n2 := N0.out.trans n1
    clear hc
    go_wp2_with fail
    have hk3 := set3_cells (set3_heap (x := .string ⟨#[]⟩) (y := .bool false) (z := .slice none 0 0) Hc.out)
    have g3 := set3_chg w1 w.heap.size (.string ⟨#[]⟩) (.bool false) (.slice none 0 0)
    generalize ((w1.setCell ⟨w.heap.size, 0, none⟩ (.string ⟨#[]⟩)).setCell ⟨w.heap.size, 1, none⟩ (.bool false)).setCell ⟨w.heap.size, 2, none⟩ (.slice none 0 0) = w3 at *
    obtain ⟨k0, k1, k2, -⟩ := hk3
    exact bodyPost_ret (v := .tuple #[.agg #[.string ⟨#[]⟩, .bool false, .slice none 0 0], .bool false]) (by simp [results, Tryd.results12, go_sem, k0, k1, k2]) rfl ⟨_, rfl, .inl ⟨rfl, none, 0, rfl, Nat.zero_le _, fun _ => rfl⟩, n2.trans_chg g3 (fun j hj e => by omega)⟩
  · rw [hk] at ho
    obtain ⟨hT, h12⟩ := treeOk_p hk
    have hr : findR os p = findI os p := by unfold findR; rw [if_pos hk]
    have hlen : (nodesOf os).length ≤ 1000 := by simp [nodesOf]; omega
    rw [hr]
    rcases hf : findI os p with _ | o
    · have hfn := fun (b : Key → Nat) (u kv : Key → Value) (W : World) (F : Forest (fun j => w.heap.size + 1 ≤ j) W b u kv (nodesOf os)) => nodeFind F hT.good hlen p hp
      unfold FindPost at hfn
      simp only [find_ptr hT, hf] at hfn
      unfold txt at hfn
      have Hfn := Lib.hid hfn
      have Ho := Lib.hid ho
      clear ho hk hr hf hfn hT
      go_enter Tryd.func12, Tryd.ntmps12
      go_wp2_with fail
      refine (Ho.out _ N0.out).mono ?_
      rintro e w1 ⟨b, rfl, n1, u, kv, F⟩
      rw [Hsz.out] at F
      have hc := n1.heap P0.out
      have Hc := Lib.hid hc
      have n2 := N0.out.trans n1
      have HF := Lib.hid F
      clear hc F
      go_wp2_with fail
      refine (Hfn.out b u kv _ HF.out).mono ?_
      rintro e w2 ⟨rfl, n3⟩
      have hc := n3.heap Hc.out
      obtain ⟨c0, c1, c2, f0, f1, f2⟩ := set3_cells hc
      have Hc2 := Lib.hid hc
      have n4 := n2.trans n3
      clear hc
      go_wp2_with fail
      have hk3 := set3_cells (set3_heap (x := .string ⟨#[]⟩) (y := .bool false) (z := .slice none 0 0) Hc2.out)
      have g3 := set3_chg w2 w.heap.size (.string ⟨#[]⟩) (.bool false) (.slice none 0 0)
      generalize ((w2.setCell ⟨w.heap.size, 0, none⟩ (.string ⟨#[]⟩)).setCell ⟨w.heap.size, 1, none⟩ (.bool false)).setCell ⟨w.heap.size, 2, none⟩ (.slice none 0 0) = w3 at *
      obtain ⟨k0, k1, k2, -⟩ := hk3
      exact bodyPost_ret (v := .tuple #[.agg #[.string ⟨#[]⟩, .bool false, .slice none 0 0], .bool false]) (by simp [results, Tryd.results12, go_sem, k0, k1, k2]) rfl ⟨_, rfl, .inl ⟨rfl, none, 0, rfl, Nat.zero_le _, fun _ => rfl⟩, n4.trans_chg g3 (fun j hj e => by omega)⟩
    · obtain ⟨hom, rfl⟩ := findI_some hf
      have hfn := fun (b : Key → Nat) (u kv : Key → Value) (W : World) (F : Forest (fun j => w.heap.size + 1 ≤ j) W b u kv (nodesOf os)) => nodeFind F hT.good hlen o.path hp
      unfold FindPost at hfn
      simp only [find_ptr hT, hf] at hfn
      unfold txt at hfn
      have hmn : nodeOf o ∈ nodesOf os := mem_nodes.2 (.inr ⟨o, hom, rfl⟩)
      have Hmn := Lib.hid hmn
      have Hfn := Lib.hid hfn
      have Ho := Lib.hid ho
      clear ho hk hr hf hfn hT hmn hom
      go_enter Tryd.func12, Tryd.ntmps12
      go_wp2_with fail
      refine (Ho.out _ N0.out).mono ?_
      rintro e w1 ⟨b, rfl, n1, u, kv, F⟩
      rw [Hsz.out] at F
      have hc := n1.heap P0.out
      have Hc := Lib.hid hc
      have n2 := N0.out.trans n1
      have HF := Lib.hid F
      clear hc F
      go_wp2_with fail
      refine (Hfn.out b u kv _ HF.out).mono ?_
      rintro e w2 ⟨rfl, n3⟩
      have hc := n3.heap Hc.out
      obtain ⟨c0, c1, c2, f0, f1, f2⟩ := set3_cells hc
      have Hc2 := Lib.hid hc
      have n4 := n2.trans n3
      have F2 := HF.out.new n3
      obtain ⟨-, d1, d2, -⟩ := F2.cells Hmn.out
      have hids := F2.ids _ Hmn.out
      rw [show (nodeOf o).key = cutS o.path from rfl, show (nodeOf o).dir = o.dir from rfl] at d1
      rw [show (nodeOf o).key = cutS o.path from rfl] at d2
      rw [show (nodeOf o).key = cutS o.path from rfl, show (nodeOf o).ids = o.ids from rfl] at hids
      have hids2 := hids.mono (T := fun j => w.heap.size + 1 ≤ j) (fun j _ hj => hj.1)
      generalize hbk : b (cutS o.path) = bk at *
      generalize u (cutS o.path) = uk at *
      obtain ⟨au, cu, rfl, -⟩ := hids2.nums
      have Hids := Lib.hid hids2
      clear hc F2 hids hids2 hbk
      go_wp2_with fail
      go_region
      have hk3 := set3_cells (set3_heap (x := .string ⟨o.path.toArray⟩) (y := .bool o.dir) (z := .slice au o.ids.length cu) Hc2.out)
      have g3 := set3_chg w2 w.heap.size (.string ⟨o.path.toArray⟩) (.bool o.dir) (.slice au o.ids.length cu)
      generalize ((w2.setCell ⟨w.heap.size, 0, none⟩ (.string ⟨o.path.toArray⟩)).setCell ⟨w.heap.size, 1, none⟩ (.bool o.dir)).setCell ⟨w.heap.size, 2, none⟩ (.slice au o.ids.length cu) = w3 at *
      have G3 := Lib.hid g3.drew
      obtain ⟨k0, k1, k2, -⟩ := hk3
      have k0' : w3.drew.cell? ⟨w.heap.size, 0, none⟩ = some (.string ⟨o.path.toArray⟩) := k0
      have k1' : w3.drew.cell? ⟨w.heap.size, 1, none⟩ = some (.bool o.dir) := k1
      have k2' : w3.drew.cell? ⟨w.heap.size, 2, none⟩ = some (.slice au o.ids.length cu) := k2
      clear k0 k1 k2 g3
      go_wp2_with fail
      exact bodyPost_ret (v := .tuple #[.agg #[.string ⟨o.path.toArray⟩, .bool o.dir, .slice au o.ids.length cu], .bool true]) (by simp [results, Tryd.results12, go_sem, k0', k1', k2']) rfl
        ⟨_, rfl, (Hids.out.chg G3.out (fun j _ hj e => by omega)).mono (fun j _ hj => by omega), n4.trans_chg G3.out (fun j hj e => by omega)⟩
end Go.Proofs.YtkffejommncinaaDoor
