/- The reference's l5Copy, TreeFind. -/
import Derived.Test.YtkffejommncinaaDoorListDir
namespace Go.Proofs.YtkffejommncinaaDoor
open Go.RowKit

set_option maxRecDepth 4000 in
set_option maxHeartbeats 1000000 in
theorem specCopy {S : Nat → Prop} (o : ItemR) (u : Value) (w : World) (h : Ints S w u o.ids) (hl : o.ids.length ≤ 1048576) :
    Calls Tryd.prog 44 #[.agg #[txt o.path, .bool o.dir, u]] w (ToItemPost o w) := by
  unfold txt
  have h0 := h
  obtain ⟨a, c, rfl, h1, ⟨h2, -⟩, h3, -⟩ := h
  unfold maxLen at h2
  obtain ⟨wb, hwb⟩ : ∃ wb, wb = (w.alloc (.cells #[.string ⟨o.path.toArray⟩, .bool o.dir, .slice a o.ids.length c] 28)).alloc (.cells #[.string ⟨#[]⟩, .bool false, .slice none 0 0] 28) := ⟨_, rfl⟩
  have nb : New w wb := by rw [hwb]; exact ((New.refl w).alloc _).alloc _
  have hsz : wb.heap.size = w.heap.size + 2 := by rw [hwb]; simp
  have ha : wb.heap[w.heap.size]? = some (.cells #[.string ⟨o.path.toArray⟩, .bool o.dir, .slice a o.ids.length c] 28) := by
    rw [hwb]; exact ((New.refl _).alloc _).heap (heap_alloc_new w _)
  have hb : wb.heap[w.heap.size + 1]? = some (.cells #[.string ⟨#[]⟩, .bool false, .slice none 0 0] 28) := by
    rw [hwb]
    have := heap_alloc_new (w.alloc (.cells #[.string ⟨o.path.toArray⟩, .bool o.dir, .slice a o.ids.length c] 28)) (.cells #[.string ⟨#[]⟩, .bool false, .slice none 0 0] 28)
    rw [World.size_alloc] at this
    exact this
  have na : New wb (wb.alloc (.cells #[] 3)) := (New.refl wb).alloc _
  have hsrc := Nums.src (h0.new (nb.trans na))
  have hrow0 : Row 3 1 (fun k => w.heap.size ≤ k) (wb.alloc (.cells #[] 3)) (.slice (some ⟨w.heap.size + 1 + 1, 0, none⟩) 0 0) 0 [] := by
    have h := (Row.empty 3 1 wb).mono (T := fun k => w.heap.size ≤ k) (fun j _ hj => by omega)
    rw [hsz] at h
    exact h
  have hA2 := na.heap ha
  have hB2 := na.heap hb
  obtain ⟨wc, hwc⟩ : ∃ wc, wc = wb.alloc (.cells #[] 3) := ⟨_, rfl⟩
  rw [← hwc] at hrow0 hsrc hA2 hB2 na
  have nc := nb.trans na
  have hszc : wc.heap.size = w.heap.size + 3 := by rw [hwc, World.size_alloc, hsz]
  rw [hwb] at hwc
  have NC := Lib.hid nc
  have HA2 := Lib.hid hA2
  have HB2 := Lib.hid hB2
  have Hszc := Lib.hid hszc
  have Hr0 := Lib.hid hrow0
  have Hsrc := Lib.hid hsrc
  have H3 := Lib.hid h3
  obtain ⟨e0, e1, e2, -⟩ := set3_cells hA2
  rw [hwc] at e0 e1 e2
  have Hwc := Lib.hid hwc
  clear nb na ha hb hsrc hsz hwb nc hA2 hB2 hrow0 hwc hszc h3
  go_enter Tryd.func44, Tryd.ntmps44
  go_wp2_with first
    | fail
    | (rw [← Hwc.out]
       refine wpRow_append slInt _ _ rfl rfl (.slice (some ⟨w.heap.size + 1 + 1, 0, none⟩) 0 0) 0 [] rfl Hr0.out a o.ids.length c (o.ids.map (Value.int .i64)) rfl Hsrc.out (oneCells _ _) ?_ ?_ ?_
       · unfold maxLen; omega
       · omega
       intro v1 w1 o1 c1
       rw [Nat.zero_add, List.nil_append] at o1
       obtain ⟨a1, cc1, hv1, -⟩ := o1.shape
       subst hv1
       have hA3 := c1.heap HA2.out (fun e => by have e' := own_some e; simp only at e'; omega)
       have hB3 := c1.heap HB2.out (fun e => by have e' := own_some e; simp only at e'; omega)
       obtain ⟨x0, x1, x2, -, -, x5⟩ := set3_cells hA3
       have hA4 : (w1.setCell ⟨w.heap.size, 2, none⟩ (.slice a1 o.ids.length cc1)).heap[w.heap.size]? = some (.cells #[.string ⟨o.path.toArray⟩, .bool o.dir, .slice a1 o.ids.length cc1] 28) := by simp [World.setCell, Array.getElem?_modify, hA3]
       have hB4 := (chg_set1 w1 w.heap.size 2 (.slice a1 o.ids.length cc1)).heap hB3 (fun e => by omega)
       obtain ⟨y0, y1, y2, -⟩ := set3_cells hA4
       obtain ⟨z0, z1, z2, z3, z4, z5⟩ := set3_cells hB4
       have HB4 := Lib.hid hB4
       have G1 := Lib.hid (chg_set1 w1 w.heap.size 2 (.slice a1 o.ids.length cc1))
       clear hA3 hB3 hA4 hB4)
  have g2 := set3_chg (w1.setCell ⟨w.heap.size, 2, none⟩ (.slice a1 o.ids.length cc1)) (w.heap.size + 1) (.string ⟨o.path.toArray⟩) (.bool o.dir) (.slice a1 o.ids.length cc1)
  have hk := set3_cells (set3_heap (x := .string ⟨o.path.toArray⟩) (y := .bool o.dir) (z := .slice a1 o.ids.length cc1) HB4.out)
  generalize (((w1.setCell ⟨w.heap.size, 2, none⟩ (.slice a1 o.ids.length cc1)).setCell ⟨w.heap.size + 1, 0, none⟩ (.string ⟨o.path.toArray⟩)).setCell ⟨w.heap.size + 1, 1, none⟩ (.bool o.dir)).setCell ⟨w.heap.size + 1, 2, none⟩ (.slice a1 o.ids.length cc1) = w3 at *
  obtain ⟨k0, k1, k2, -⟩ := hk
  have oo : OwnInts 3 (fun j => w.heap.size + 1 < j) w1 (.slice a1 o.ids.length cc1) o.ids := ⟨o1.mono (fun j _ hj => by
    rcases hj with hj | hj
    · have e' := own_some hj; simp only at e'; omega
    · have := Hszc.out; omega), H3.out⟩
  refine bodyPost_ret (v := .agg #[.string ⟨o.path.toArray⟩, .bool o.dir, .slice a1 o.ids.length cc1]) (by simp [results, Tryd.results44, go_sem, k0, k1, k2]) rfl ⟨_, rfl, ?_, ?_⟩
  · exact ((oo.chg G1.out (fun j _ hj e => by omega)).chg g2 (fun j _ hj e => by omega)).mono (fun j _ hj => by omega)
  · have n1 : New w w1 := NC.out.trans_chg c1 (fun j hj e => by have e' := own_some e; simp only at e'; omega)
    exact (n1.trans_chg G1.out (fun j hj e => by omega)).trans_chg g2 (fun j hj e => by omega)

set_option maxRecDepth 4000 in
set_option maxHeartbeats 1000000 in
theorem specTreeFind {S : Nat → Prop} (v : Value) (os : List ItemR) (p : List UInt8) (w : World) (h : Items S w v os) (hall : ∀ o ∈ os, o.size ≤ 1048576) :
    Calls Tryd.prog 13 #[v, txt p] w (FoundPost (findR os p) w) := by
  have h0 := h
  have hsv := fun (W : World) (n : New w W) => specValid v os W (Recs.new h0 n) hall
  have hsa := fun (W : World) (n : New w W) => specAt v os p W (Recs.new h0 n)
  have hat := fun (W : World) (n : New w W) (k : Nat) (o : ItemR) (ho : os[k]? = some o) => Items.at (Recs.new h0 n) ho
  have N0 := Lib.hid ((New.refl w).alloc (.cells #[.string ⟨#[]⟩, .bool false, .slice none 0 0] 28))
  have P0 := Lib.hid (heap_alloc_new w (.cells #[.string ⟨#[]⟩, .bool false, .slice none 0 0] 28))
  have Hsz := Lib.hid (World.size_alloc w (.cells #[.string ⟨#[]⟩, .bool false, .slice none 0 0] 28))
  have Hat := Lib.hid hat
  have Hall := Lib.hid hall
  unfold txt at hsa ⊢
  obtain ⟨-, a, c, rfl, h1, h2, -⟩ := h
  unfold maxLen at h2
  clear h0 hat hall
  rcases hk : treeOk os with _ | _
  · rw [hk] at hsv
    have hr : findR os p = none := by unfold findR; rw [hk]; rfl
    have Hsv := Lib.hid hsv
    have Hsa := Lib.hid hsa
    rw [hr]
    generalize atI os p = r at *
    clear hk hr hsv hsa
    go_enter Tryd.func13, Tryd.ntmps13
    go_wp2_with fail
    refine (Hsa.out _ N0.out).mono ?_
    rintro e w1 ⟨rfl, rfl⟩
    go_wp2_with fail
    refine (Hsv.out _ N0.out).mono ?_
    rintro e w2 ⟨rfl, n2⟩
    have hc := n2.heap P0.out
    obtain ⟨c0, c1, c2, f0, f1, f2⟩ := set3_cells hc
    have Hc := Lib.hid hc
    have n3 := N0.out.trans n2
    clear hc
    go_wp2_with fail
    have hk3 := set3_cells (set3_heap (x := .string ⟨#[]⟩) (y := .bool false) (z := .slice none 0 0) Hc.out)
    have g3 := set3_chg w2 w.heap.size (.string ⟨#[]⟩) (.bool false) (.slice none 0 0)
    generalize ((w2.setCell ⟨w.heap.size, 0, none⟩ (.string ⟨#[]⟩)).setCell ⟨w.heap.size, 1, none⟩ (.bool false)).setCell ⟨w.heap.size, 2, none⟩ (.slice none 0 0) = w3 at *
    obtain ⟨k0, k1, k2, -⟩ := hk3
    exact bodyPost_ret (v := .tuple #[.agg #[.string ⟨#[]⟩, .bool false, .slice none 0 0], .bool false]) (by simp [results, Tryd.results13, go_sem, k0, k1, k2]) rfl ⟨_, rfl, .inl ⟨rfl, none, 0, rfl, Nat.zero_le _, fun _ => rfl⟩, n3.trans_chg g3 (fun j hj e => by omega)⟩
  · rw [hk] at hsv
    have hr : findR os p = findI os p := by unfold findR; rw [if_pos hk]
    have Hsv := Lib.hid hsv
    rw [hr]
    rcases atI_cases os p with ⟨e1, e2⟩ | ⟨i, o, e1, e2, e3, e4⟩
    · rw [e1] at hsa
      rw [e2]
      have Hsa := Lib.hid hsa
      clear hk hr hsv hsa e1 e2
      go_enter Tryd.func13, Tryd.ntmps13
      go_wp2_with fail
      refine (Hsa.out _ N0.out).mono ?_
      rintro e w1 ⟨rfl, rfl⟩
      go_wp2_with fail
      refine (Hsv.out _ N0.out).mono ?_
      rintro e w2 ⟨rfl, n2⟩
      have hc := n2.heap P0.out
      obtain ⟨c0, c1, c2, f0, f1, f2⟩ := set3_cells hc
      have Hc := Lib.hid hc
      have n3 := N0.out.trans n2
      clear hc
      go_wp2_with fail
      have hk3 := set3_cells (set3_heap (x := .string ⟨#[]⟩) (y := .bool false) (z := .slice none 0 0) Hc.out)
      have g3 := set3_chg w2 w.heap.size (.string ⟨#[]⟩) (.bool false) (.slice none 0 0)
      generalize ((w2.setCell ⟨w.heap.size, 0, none⟩ (.string ⟨#[]⟩)).setCell ⟨w.heap.size, 1, none⟩ (.bool false)).setCell ⟨w.heap.size, 2, none⟩ (.slice none 0 0) = w3 at *
      obtain ⟨k0, k1, k2, -⟩ := hk3
      exact bodyPost_ret (v := .tuple #[.agg #[.string ⟨#[]⟩, .bool false, .slice none 0 0], .bool false]) (by simp [results, Tryd.results13, go_sem, k0, k1, k2]) rfl ⟨_, rfl, .inl ⟨rfl, none, 0, rfl, Nat.zero_le _, fun _ => rfl⟩, n3.trans_chg g3 (fun j hj e => by omega)⟩
    · rw [e1] at hsa
      rw [e4]
      have hi := (List.getElem?_eq_some_iff.1 e2).1
      have hil : o.ids.length ≤ 1048576 := (ItemR.parts (Hall.out o (List.mem_of_getElem? e2))).2
      have hat2 := fun (W : World) (n : New w W) => Hat.out W n i o e2
      have Hat2 := Lib.hid hat2
      have Hsa := Lib.hid hsa
      clear hk hr hsv hsa e1 e2 e3 e4 hat2
      go_enter Tryd.func13, Tryd.ntmps13
      go_wp2_with fail
      refine (Hsa.out _ N0.out).mono ?_
      rintro e w1 ⟨rfl, rfl⟩
      go_wp2_with fail
      refine (Hsv.out _ N0.out).mono ?_
      rintro e w2 ⟨rfl, n2⟩
      have hc := n2.heap P0.out
      have n3 := N0.out.trans n2
      obtain ⟨bb, off, c', uv, e5, hbb, c0, c1, c2, -, r2⟩ := Hat2.out w2 n3
      simp only [Value.slice.injEq] at e5
      obtain ⟨rfl, -, rfl⟩ := e5
      have hcp := specCopy o uv w2 r2 hil
      unfold txt at c0 hcp
      have Hcp := Lib.hid hcp
      have Hc := Lib.hid hc
      have z2 := n3.size
      clear hc hcp r2
      go_wp2_with fail
      refine Hcp.out.mono ?_
      rintro e w4 ⟨u4, rfl, o4, n4⟩
      unfold txt
      have hc4 := n4.heap Hc.out
      obtain ⟨d0, d1, d2, f0, f1, f2⟩ := set3_cells hc4
      have Hc4 := Lib.hid hc4
      obtain ⟨a4, cc4, rfl, -⟩ := o4.shape
      have n5 := n3.trans n4
      have z4 := n4.size
      have hlt : w.heap.size < w2.heap.size := (Array.getElem?_eq_some_iff.1 Hc.out).1
      have O4 := Lib.hid o4
      clear hc4 o4
      go_wp2_with fail
      have hk3 := set3_cells (set3_heap (x := .string ⟨o.path.toArray⟩) (y := .bool o.dir) (z := .slice a4 o.ids.length cc4) Hc4.out)
      have g3 := set3_chg w4 w.heap.size (.string ⟨o.path.toArray⟩) (.bool o.dir) (.slice a4 o.ids.length cc4)
      generalize ((w4.setCell ⟨w.heap.size, 0, none⟩ (.string ⟨o.path.toArray⟩)).setCell ⟨w.heap.size, 1, none⟩ (.bool o.dir)).setCell ⟨w.heap.size, 2, none⟩ (.slice a4 o.ids.length cc4) = w5 at *
      obtain ⟨k0, k1, k2, -⟩ := hk3
      exact bodyPost_ret (v := .tuple #[.agg #[.string ⟨o.path.toArray⟩, .bool o.dir, .slice a4 o.ids.length cc4], .bool true]) (by simp [results, Tryd.results13, go_sem, k0, k1, k2]) rfl
        ⟨_, rfl, ((OwnI.of O4.out).chg g3 (fun j _ hj e => by omega)).mono (fun j _ hj => by omega), n5.trans_chg g3 (fun j hj e => by omega)⟩
end Go.Proofs.YtkffejommncinaaDoor
