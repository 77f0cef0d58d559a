/- The walk of FnTreePut (printed by wip/gen_putwalks.py). -/
import Derived.Test.YtkffejommncinaaDoorDrawTreePut
import Derived.Test.YtkffejommncinaaDoorSpecTreePut
import Derived.Test.YtkffejommncinaaDoorPutLaw
import Derived.Test.YtkffejommncinaaDoorTreeFind
import Derived.BigQuiet
import Derived.Test.YtkffejommncinaaDoorBoxes
namespace Go.Proofs.YtkffejommncinaaDoor
open Go.RowKit

/-- a row at block bo that holds the items os; their numbers lie below lo -/
def KeepSt (lo bo : Nat) (w0 : World) (os : List ItemR) (wr : World) (v : Value) : Prop :=
  ∃ us, Row 28 3 (fun j => j = bo ∨ w0.heap.size ≤ j) wr v os.length us ∧ Reads (fun j => j < lo) wr us (itemFlds os) ∧ Chg (fun j => j = bo) w0 wr
theorem KeepSt.more {lo bo : Nat} {w0 wr w' : World} {os : List ItemR} {v v' : Value} {o : ItemR} {u : Value} {us : List Value} (hlo : lo ≤ bo) (hl0 : lo ≤ w0.heap.size) (h1 : Row 28 3 (fun j => j = bo ∨ w0.heap.size ≤ j) wr v os.length us) (h2 : Reads (fun j => j < lo) wr us (itemFlds os)) (h3 : Chg (fun j => j = bo) w0 wr)
    (hp : o.path.length ≤ maxLen) (hu : Ints (fun j => j < lo) wr u o.ids) (g1 : Row 28 3 (fun k => v.ownBlock = some k ∨ wr.heap.size < k) w' v' (os.length + 1) (us ++ [.string ⟨o.path.toArray⟩, .bool o.dir, u])) (g2 : Chg (fun k => v.ownBlock = some k) wr w') : KeepSt lo bo w0 (os ++ [o]) w' v' := by
  have ht : Reads (fun j => j < lo) wr [.string ⟨o.path.toArray⟩, .bool o.dir, u] o.flds := by
    refine ⟨rfl, fun i u' f hu' hf => ?_⟩
    match i, hu', hf with
    | 0, hu', hf => cases hu'; cases hf; exact ⟨rfl, hp⟩
    | 1, hu', hf => cases hu'; cases hf; rfl
    | 2, hu', hf => cases hu'; cases hf; exact hu
    | n + 3, hu', hf => simp at hu'
  refine ⟨us ++ [.string ⟨o.path.toArray⟩, .bool o.dir, u], ?_, ?_, ?_⟩
  · rw [List.length_append]
    exact g1.mono fun j _ hj => by
      rcases hj with hj | hj
      · exact h1.2 j hj
      · exact .inr (by have := h3.size; omega)
  · rw [itemFlds_snoc]
    refine (h2.append ht).chg g2 fun j _ hj e => ?_
    rcases h1.2 j e with h | h <;> omega
  · exact h3.step g2 fun j hj e => by
      rcases h1.2 j e with h | h
      · exact h
      · omega
theorem KeepSt.new {lo bo : Nat} {w0 wr w' : World} {os : List ItemR} {v : Value} (h : KeepSt lo bo w0 os wr v) (n : New wr w') : KeepSt lo bo w0 os w' v := by
  obtain ⟨us, h1, h2, h3⟩ := h
  exact ⟨us, h1.new n, h2.new n, h3.trans (n.chg _)⟩
theorem KeepSt.items {lo bo : Nat} {w0 wr : World} {os : List ItemR} {v : Value} (h : KeepSt lo bo w0 os wr v) : Items (fun j => (j = bo ∨ w0.heap.size ≤ j) ∨ j < lo) wr v os := by
  obtain ⟨us, h1, h2, -⟩ := h
  exact h2.recs h1
theorem KeepSt.init {lo bo : Nat} {w0 : World} (h : Row 28 3 (fun j => j = bo) w0 (.slice (some ⟨bo, 0, none⟩) 0 0) 0 []) : KeepSt lo bo w0 [] w0 (.slice (some ⟨bo, 0, none⟩) 0 0) :=
  ⟨[], h.mono (fun _ _ hj => .inl hj), ⟨rfl, fun i u f hu hf => by simp at hu⟩, Chg.refl _ _⟩
theorem dropS_more {os : List ItemR} {p : List UInt8} {k : Nat} {o : ItemR} (ho : os[k]? = some o) : dropS p (os.take (k + 1)) = if o.path = p then dropS p (os.take k) else dropS p (os.take k) ++ [o] := by
  obtain ⟨hk, e⟩ := List.getElem?_eq_some_iff.1 ho
  rw [List.take_succ_eq_append_getElem hk, e]
  unfold dropS
  rw [List.filter_append]
  split
  · rename_i h; simp [h]
  · rename_i h; simp [h]
theorem dropS_len (os : List ItemR) (p : List UInt8) (k : Nat) : (dropS p (os.take k)).length ≤ k := by
  refine Nat.le_trans (List.length_filter_le _ _) ?_
  rw [List.length_take]; omega

set_option maxRecDepth 4000 in
set_option maxHeartbeats 16000000 in
theorem walkFnTreePut (v : Value) (bs : List Int) (w : World) (h : Nums .u8 Any w v bs) :
    Calls Tryd.prog 6 #[v] w fun e w' => e = .returned (.bool true) ∧ New w w' := by
  have hdr := drawTreePut v bs w h
  have Hdr := Lib.hid hdr
  clear hdr
  obtain ⟨a, c, rfl, h1, ⟨h2, -⟩, -, -⟩ := h
  unfold maxLen at h2
  by_cases hbig : 1048576 < bs.length
  · have hd : (1048576 : Int) < (bs.length : Int) := by omega
    go_enter Tryd.func6, Tryd.ntmps6
    go_wp2_with fail
    go_ret
    exact ⟨rfl, New.refl _⟩
  have hd : ¬ ((1048576 : Int) < (bs.length : Int)) := by omega
  go_enter Tryd.func6, Tryd.ntmps6
  go_wp2_with fail
  refine Hdr.out.mono ?_
  rintro e w0 ⟨v1, os, u, x, rfl, ⟨hl, hsm⟩, hxs, o0, i0, n0⟩
  unfold txt
  obtain ⟨a1, c1, rfl, s1, s2, -⟩ := o0.shape
  obtain ⟨au, cu, rfl, -⟩ := i0.shape
  unfold maxLen at s2
  have hall := small_all hsm
  have hx1 : x.size ≤ 1048576 := small_all (os := [x]) (fun o ho => by rw [List.mem_singleton.1 ho]; exact hxs) x List.mem_cons_self
  have hp0 : x.path.length ≤ 1048576 := by have := hxs.1; omega
  have nA : New w0 (w0.alloc (.cells #[txt x.path, .bool x.dir, .slice au x.ids.length cu] 28)) := (New.refl _).alloc _
  have o1 := OwnRecs.new o0 nA
  have i1 := i0.nums.new nA
  have hX := heap_alloc_new w0 (.cells #[txt x.path, .bool x.dir, .slice au x.ids.length cu] 28)
  have n1 := n0.trans nA
  unfold txt at nA o1 i1 hX n1
  have O1 := Lib.hid o1
  have I1 := Lib.hid i1
  have HX := Lib.hid hX
  have N1 := Lib.hid n1
  have Hall := Lib.hid hall
  have Hx1 := Lib.hid hx1
  clear o0 i0 nA o1 i1 hX n1 n0 hall hsm hxs hx1 Hdr
  go_upto_region 4 with fail
  generalize (w0.alloc (.cells #[.string ⟨x.path.toArray⟩, .bool x.dir, .slice au x.ids.length cu] 28)) = w1 at O1 I1 HX N1 ⊢
  generalize w0.heap.size = gx at HX O1 I1 ⊢
  have hI := OwnRecs.recs O1.out
  obtain ⟨b0, b1, b2, -, -, -⟩ := set3_cells HX.out
  have him := fun (W : World) (n : New w1 W) => implTreePut _ os x _ W (Recs.new hI n) Hall.out (I1.out.new n) hp0
  have hsp := fun (W : World) (n : New w1 W) => specTreePut _ os x _ W (Recs.new hI n) Hall.out (I1.out.new n) Hx1.out
  unfold TreesPost txt at him hsp
  clear hI
  rcases hr : putR os x with _ | r
  · rw [hr] at him hsp
    simp only [Option.getD_none, Option.isSome_none] at him hsp
    have HIm := Lib.hid him
    have HSp := Lib.hid hsp
    clear him hsp hr
    go_wp2_with fail
    refine (HIm.out _ (New.refl _)).mono ?_
    rintro e w2 ⟨v2, rfl, o2, n2⟩
    obtain ⟨a2, c2, rfl, -⟩ := o2.shape
    replace b0 := n2.cell b0
    replace b1 := n2.cell b1
    replace b2 := n2.cell b2
    go_wp2_with fail
    refine (HSp.out _ n2).mono ?_
    rintro e w3 ⟨v3, rfl, o3, n3⟩
    obtain ⟨a3, c3, rfl, -⟩ := o3.shape
    replace o2 := OwnRecs.new o2 n3
    have nn := n2.trans n3
    clear n2 n3 b0 b1 b2
    go_wp2_with fail
    refine (sameTree _ _ ([] : List ItemR) ([] : List ItemR) _ (OwnRecs.recs o2) (OwnRecs.recs o3)).mono ?_
    rw [decide_eq_true (rfl : ([] : List ItemR) = ([] : List ItemR))]
    rintro e w4 ⟨rfl, n4⟩
    replace o2 := OwnRecs.new o2 n4
    replace o3 := OwnRecs.new o3 n4
    replace nn := nn.trans n4
    clear n4
    go_wp2_with fail
    refine (sameTree _ _ ([] : List ItemR) ([] : List ItemR) _ (OwnRecs.recs o2) (OwnRecs.recs o3)).mono ?_
    rw [decide_eq_true (rfl : ([] : List ItemR) = ([] : List ItemR))]
    rintro e w5 ⟨rfl, n5⟩
    replace nn := nn.trans n5
    clear n5 o2 o3
    go_wp2_with fail
    go_ret
    exact ⟨rfl, N1.out.trans nn⟩
  · rw [hr] at him hsp
    simp only [Option.getD_some, Option.isSome_some] at him hsp
    have HIm := Lib.hid him
    have HSp := Lib.hid hsp
    have Hr := Lib.hid hr
    have hsz := put_size hr Hall.out Hx1.out
    have Hsz := Lib.hid hsz
    clear him hsp hr hsz
    go_wp2_with fail
    refine (HIm.out _ (New.refl _)).mono ?_
    rintro e w2 ⟨v2, rfl, o2, n2⟩
    obtain ⟨a2, c2, rfl, -, s22, -⟩ := o2.shape
    unfold maxLen at s22
    replace b0 := n2.cell b0
    replace b1 := n2.cell b1
    replace b2 := n2.cell b2
    go_wp2_with fail
    refine (HSp.out _ n2).mono ?_
    rintro e w3 ⟨v3, rfl, o3, n3⟩
    obtain ⟨a3, c3, rfl, -⟩ := o3.shape
    replace b0 := n3.cell b0
    replace b1 := n3.cell b1
    replace b2 := n3.cell b2
    replace o2 := OwnRecs.new o2 n3
    have nn := n2.trans n3
    clear n2 n3
    go_wp2_with fail
    refine (sameTree _ _ r r _ (OwnRecs.recs o2) (OwnRecs.recs o3)).mono ?_
    rw [decide_eq_true (rfl : r = r)]
    rintro e w4 ⟨rfl, n4⟩
    replace b0 := n4.cell b0
    replace b1 := n4.cell b1
    replace b2 := n4.cell b2
    replace o2 := OwnRecs.new o2 n4
    replace o3 := OwnRecs.new o3 n4
    replace nn := nn.trans n4
    clear n4
    have hf : findR r x.path = some x := by
      obtain ⟨-, -, -, h4, h5⟩ := putR_some Hr.out
      unfold findR; rw [if_pos h4, h5]
    have hfi := implTreeFind _ r x.path w4 (OwnRecs.recs o2) Hsz.out hp0
    unfold FoundPost txt at hfi
    rw [hf] at hfi
    simp only [Option.getD_some, Option.isSome_some] at hfi
    have Hfi := Lib.hid hfi
    have hdp : dropS x.path r = dropS x.path os := by
      obtain ⟨h1, -, rfl, -, -⟩ := putR_some Hr.out
      exact drop_put (treeOk_iff.1 h1).1.asc
    have Hdp := Lib.hid hdp
    have hkr := (putR_some Hr.out).2.2.2.1
    have Hkr := Lib.hid hkr
    have hrl : r.length ≤ 12 := (treeOk_iff.1 hkr).2
    have i4 := Lib.hid (I1.out.new nn)
    have p4 := Lib.hid (Recs.new (OwnRecs.recs O1.out) nn)
    have q4 := Lib.hid (OwnRecs.recs o2)
    have X4 := Lib.hid (nn.heap HX.out)
    clear hf hfi hdp hkr o3 o2 HIm HSp Hr Hx1 b1 b2
    go_wp2_with fail
    refine Hfi.out.mono ?_
    rintro e w6 ⟨u6, rfl, o6, n6⟩
    obtain ⟨a6, c6, rfl, -⟩ := o6.nums
    have zz6 : gx < w6.heap.size := (Array.getElem?_eq_some_iff.1 (n6.heap X4.out)).1
    have n7 : New w6 (w6.alloc (.cells #[.string ⟨x.path.toArray⟩, .bool x.dir, .slice a6 x.ids.length c6] 28)) := (New.refl _).alloc _
    have y7 := heap_alloc_new w6 (.cells #[.string ⟨x.path.toArray⟩, .bool x.dir, .slice a6 x.ids.length c6] 28)
    have zz7 : (w6.alloc (.cells #[.string ⟨x.path.toArray⟩, .bool x.dir, .slice a6 x.ids.length c6] 28)).heap.size = w6.heap.size + 1 := World.size_alloc _ _
    have hl6 : New w4 (w6.alloc (.cells #[.string ⟨x.path.toArray⟩, .bool x.dir, .slice a6 x.ids.length c6] 28)) := n6.trans n7
    have P7 := Lib.hid (Recs.old (Recs.new p4.out n6))
    have Q7 := Lib.hid (Recs.old (Recs.new q4.out n6))
    have I7 := Lib.hid ((i4.out.new n6).mono (T := fun j => j < w6.heap.size) (fun j hj _ => hj))
    have J7 := Lib.hid (o6.nums.mono (T := fun j => j < w6.heap.size) (fun j hj _ => hj))
    have X7 := Lib.hid (n6.heap X4.out)
    have NN := Lib.hid (nn.trans hl6)
    have NN6 := Lib.hid (nn.trans n6)
    have Y7 := Lib.hid y7
    clear n6 n7 y7 hl6 o6 p4 q4 i4 X4 nn b0
    have nW : New w6 (((w6.alloc (.cells #[.string ⟨x.path.toArray⟩, .bool x.dir, .slice a6 x.ids.length c6] 28)).alloc (.cells #[] 28)).alloc (.cells #[] 28)) := (((New.refl w6).alloc _).alloc _).alloc _
    have zW : (((w6.alloc (.cells #[.string ⟨x.path.toArray⟩, .bool x.dir, .slice a6 x.ids.length c6] 28)).alloc (.cells #[] 28)).alloc (.cells #[] 28)).heap.size = w6.heap.size + 3 := by simp
    have hy : (((w6.alloc (.cells #[.string ⟨x.path.toArray⟩, .bool x.dir, .slice a6 x.ids.length c6] 28)).alloc (.cells #[] 28)).alloc (.cells #[] 28)).heap[w6.heap.size]? = some (.cells #[.string ⟨x.path.toArray⟩, .bool x.dir, .slice a6 x.ids.length c6] 28) := (((New.refl (w6.alloc (.cells #[.string ⟨x.path.toArray⟩, .bool x.dir, .slice a6 x.ids.length c6] 28))).alloc (.cells #[] 28)).alloc (.cells #[] 28)).heap (heap_alloc_new w6 _)
    have ra : Row 28 3 (fun j => j = w6.heap.size + 1) (((w6.alloc (.cells #[.string ⟨x.path.toArray⟩, .bool x.dir, .slice a6 x.ids.length c6] 28)).alloc (.cells #[] 28)).alloc (.cells #[] 28)) (.slice (some ⟨w6.heap.size + 1, 0, none⟩) 0 0) 0 [] := by
      have h := Row.empty 28 3 (w6.alloc (.cells #[.string ⟨x.path.toArray⟩, .bool x.dir, .slice a6 x.ids.length c6] 28))
      rw [World.size_alloc] at h
      exact h.new ((New.refl _).alloc _)
    have rb : Row 28 3 (fun j => j = w6.heap.size + 1 + 1) (((w6.alloc (.cells #[.string ⟨x.path.toArray⟩, .bool x.dir, .slice a6 x.ids.length c6] 28)).alloc (.cells #[] 28)).alloc (.cells #[] 28)) (.slice (some ⟨w6.heap.size + 1 + 1, 0, none⟩) 0 0) 0 [] := by
      have h := Row.empty 28 3 ((w6.alloc (.cells #[.string ⟨x.path.toArray⟩, .bool x.dir, .slice a6 x.ids.length c6] 28)).alloc (.cells #[] 28))
      rw [World.size_alloc, World.size_alloc] at h
      exact h
    have P8 := Lib.hid ((Recs.mono (T := fun j => j < w6.heap.size) P7.out (fun j _ hj => hj.2)).new nW)
    have Q8 := Lib.hid ((Recs.mono (T := fun j => j < w6.heap.size) Q7.out (fun j _ hj => hj.2)).new nW)
    have I8 := Lib.hid (I7.out.new nW)
    have J8 := Lib.hid (J7.out.new nW)
    have X8 := Lib.hid (nW.heap X7.out)
    have N8 := Lib.hid (N1.out.trans (NN6.out.trans nW))
    have Y8 := Lib.hid hy
    have RA := Lib.hid ra
    have RB := Lib.hid rb
    have zwg := (N1.out.trans NN6.out).size
    clear nW hy ra rb P7 Q7 I7 J7 X7 Y7 NN NN6 zz7
    go_upto_region 11 with fail
    generalize (((w6.alloc (.cells #[.string ⟨x.path.toArray⟩, .bool x.dir, .slice a6 x.ids.length c6] 28)).alloc (.cells #[] 28)).alloc (.cells #[] 28)) = W at zW P8 Q8 I8 J8 X8 N8 Y8 RA RB ⊢
    generalize w6.heap.size = gy at zz6 zwg zW P8 Q8 I8 J8 Y8 RA RB ⊢
    have zW2 : W.heap.size ≤ gy + 3 := by omega
    have zW3 : gy + 3 ≤ W.heap.size := by omega
    clear zW
    have KA := Lib.hid (KeepSt.init (lo := gy + 1) RA.out)
    go_wp2_with fail
    go_loopg [11, 13] os.length (fun gk sv i wr => ∃ (k : Nat), gk = os.length - k ∧ k ≤ os.length ∧ i = .int .i64 k ∧ Hid (KeepSt (gy + 1) (gy + 1) W (dropS x.path (os.take k)) wr sv))
    case atStart => exact ⟨0, by omega, by omega, rfl, KA⟩
    case round =>
      obtain ⟨k, hgk, hk, rfl, hK⟩ := hrel
      have Hgk := Lib.hid hgk
      clear hgk KA
      by_cases hlt : k < os.length
      · obtain ⟨o, ho⟩ := get_of hlt
        obtain ⟨us, q1, q2, q3⟩ := hK.out
        have Htk := Lib.hid (dropS_more (p := x.path) ho)
        have hlen := dropS_len os x.path k
        obtain ⟨b, off, c', u, e1, hb, k0, k1, k2, lp, r2⟩ := Items.at (Recs.chg P8.out q3 (fun j _ hj e => by omega)) ho
        simp only [Value.slice.injEq] at e1
        obtain ⟨rfl, -, rfl⟩ := e1
        obtain ⟨au2, cu2, rfl, -⟩ := id r2
        have bx := (set3_cells (q3.heap X8.out (by omega))).1
        have zq := q3.size
        unfold txt at k0
        generalize hD : dropS x.path (os.take k) = D at *
        obtain ⟨av, cv, rfl, -, s2', -, -⟩ := q1.shape
        have HF := Lib.hid (fun q : Nat => (New.refl wr).drewN q)
        have Q1 := Lib.hid q1
        have Q2 := Lib.hid q2
        have Q3 := Lib.hid q3
        have R2 := Lib.hid r2
        clear ho q1 q2 q3 r2 hD
        by_cases hp : o.path = x.path
        · have Hp := Lib.hid hp
          rw [hp] at k0
          have k0d : (wr.drewN 1).cell? ⟨b, off + k * 3, none⟩ = some (.string ⟨x.path.toArray⟩) := k0
          have bxd : (wr.drewN 1).cell? ⟨gx, 0, none⟩ = some (.string ⟨x.path.toArray⟩) := bx
          clear hp
          go_wp2_with fail
          go_quiet (fail)
          go_wp2_with fail
          have nd := HF.out nq
          go_roundg (os.length - (k + 1))
          case measure => rw [Hgk.out]; omega
          case rel => exact ⟨k + 1, rfl, by omega, by go_num, Lib.hid (by rw [Htk.out, if_pos Hp.out]; exact KeepSt.new (lo := gy + 1) (bo := gy + 1) (w0 := W) ⟨us, Q1.out, Q2.out, Q3.out⟩ nd)⟩
        · have hp2 : (o.path == x.path) = false := by simp [hp]
          have hp3 : (o.path != x.path) = true := by simp [hp]
          have k0d : (wr.drewN 1).cell? ⟨b, off + k * 3, none⟩ = some (.string ⟨o.path.toArray⟩) := k0
          have bxd : (wr.drewN 1).cell? ⟨gx, 0, none⟩ = some (.string ⟨x.path.toArray⟩) := bx
          have Hp := Lib.hid hp
          go_wp2_with fail
          go_quiet (fail)
          have nd := HF.out nq
          generalize wr.drewN nq = wd at nd ⊢
          have k0e := nd.cell k0
          have k1e := nd.cell k1
          have k2e := nd.cell k2
          have Q1d := Lib.hid (Q1.out.new nd)
          have Q2d := Lib.hid (Q2.out.new nd)
          have Q3d := Lib.hid (Q3.out.trans (nd.chg _))
          have R2d := Lib.hid (R2.out.new nd)
          have zd := nd.size
          clear k0 k1 k2 k0d bxd bx nd HF Q1 Q2 Q3 R2
          go_wp2_with first
            | (at_builtin
               refine wpRow_appendRec slItem _ _ rfl rfl (.slice av D.length cv) D.length us [.string ⟨o.path.toArray⟩, .bool o.dir, .slice au2 o.ids.length cu2] 28 rfl Q1d.out rfl (by intro u hu; simp at hu; rcases hu with rfl | rfl | rfl <;> rfl) rfl (by omega) (by decide) ?_
               intro v4 w4 q4 c4)
            | fail
          have fin := KeepSt.more (by omega) (by omega) Q1d.out Q2d.out Q3d.out lp (R2d.out.mono (fun j _ hj => by omega)) q4 c4
          go_roundg (os.length - (k + 1))
          case measure => rw [Hgk.out]; omega
          case rel => exact ⟨k + 1, rfl, by omega, by go_num, Lib.hid (by rw [Htk.out, if_neg Hp.out]; exact fin)⟩
      · have ek : os.take k = os := List.take_of_length_le (by omega)
        rw [ek] at hK
        generalize dropS x.path os = La at hK Hdp
        have K1 := hK
        obtain ⟨us, q1, q2, q3⟩ := hK.out
        obtain ⟨xa, xca, rfl, -⟩ := q1.shape
        clear ek q1 q2 hK
        have Q9 := Lib.hid (Recs.chg Q8.out q3 (fun j _ hj e => by omega))
        have I9 := Lib.hid (I8.out.chg q3 (fun j _ hj e => by omega))
        have J9 := Lib.hid (J8.out.chg q3 (fun j _ hj e => by omega))
        have X9 := Lib.hid (q3.heap X8.out (by omega))
        have Y9 := Lib.hid (q3.heap Y8.out (by omega))
        have RB9 := Lib.hid (RB.out.chg q3 (fun j _ hj e => by omega))
        have N9 := Lib.hid (N8.out.trans_chg q3 (fun j hj e => by omega))
        have zr := q3.size
        clear q3 Q8 I8 J8 X8 Y8 RB P8 N8 RA
        have IA := Lib.hid (KeepSt.items K1.out)
        clear K1
        have X8 := X9
        clear X9
        have KB := Lib.hid (KeepSt.init (lo := gy + 1) RB9.out)
        generalize hwl : wr = wl at *
        clear hwl
        go_wp2_with fail
        go_loopg [12, 14] r.length (fun gk sv i wr => ∃ (k : Nat), gk = r.length - k ∧ k ≤ r.length ∧ i = .int .i64 k ∧ Hid (KeepSt (gy + 1) (gy + 1 + 1) wl (dropS x.path (r.take k)) wr sv))
        case atStart => exact ⟨0, by omega, by omega, rfl, KB⟩
        case round =>
          obtain ⟨k, hgk, hk, rfl, hK⟩ := hrel
          have Hgk := Lib.hid hgk
          clear hgk KB
          by_cases hlt : k < r.length
          · obtain ⟨o, ho⟩ := get_of hlt
            obtain ⟨us, q1, q2, q3⟩ := hK.out
            have Htk := Lib.hid (dropS_more (p := x.path) ho)
            have hlen := dropS_len r x.path k
            obtain ⟨b, off, c', u, e1, hb, k0, k1, k2, lp, r2⟩ := Items.at (Recs.chg Q9.out q3 (fun j _ hj e => by omega)) ho
            simp only [Value.slice.injEq] at e1
            obtain ⟨rfl, -, rfl⟩ := e1
            obtain ⟨au2, cu2, rfl, -⟩ := id r2
            have bx := (set3_cells (q3.heap X8.out (by omega))).1
            have zq := q3.size
            unfold txt at k0
            generalize hD : dropS x.path (r.take k) = D at *
            obtain ⟨av, cv, rfl, -, s2', -, -⟩ := q1.shape
            have HF := Lib.hid (fun q : Nat => (New.refl wr).drewN q)
            have Q1 := Lib.hid q1
            have Q2 := Lib.hid q2
            have Q3 := Lib.hid q3
            have R2 := Lib.hid r2
            clear ho q1 q2 q3 r2 hD
            by_cases hp : o.path = x.path
            · have Hp := Lib.hid hp
              rw [hp] at k0
              have k0d : (wr.drewN 1).cell? ⟨b, off + k * 3, none⟩ = some (.string ⟨x.path.toArray⟩) := k0
              have bxd : (wr.drewN 1).cell? ⟨gx, 0, none⟩ = some (.string ⟨x.path.toArray⟩) := bx
              clear hp
              go_wp2_with fail
              go_quiet (fail)
              go_wp2_with fail
              have nd := HF.out nq
              go_roundg (r.length - (k + 1))
              case measure => rw [Hgk.out]; omega
              case rel => exact ⟨k + 1, rfl, by omega, by go_num, Lib.hid (by rw [Htk.out, if_pos Hp.out]; exact KeepSt.new (lo := gy + 1) (bo := gy + 1 + 1) (w0 := wl) ⟨us, Q1.out, Q2.out, Q3.out⟩ nd)⟩
            · have hp2 : (o.path == x.path) = false := by simp [hp]
              have hp3 : (o.path != x.path) = true := by simp [hp]
              have k0d : (wr.drewN 1).cell? ⟨b, off + k * 3, none⟩ = some (.string ⟨o.path.toArray⟩) := k0
              have bxd : (wr.drewN 1).cell? ⟨gx, 0, none⟩ = some (.string ⟨x.path.toArray⟩) := bx
              have Hp := Lib.hid hp
              go_wp2_with fail
              go_quiet (fail)
              have nd := HF.out nq
              generalize wr.drewN nq = wd at nd ⊢
              have k0e := nd.cell k0
              have k1e := nd.cell k1
              have k2e := nd.cell k2
              have Q1d := Lib.hid (Q1.out.new nd)
              have Q2d := Lib.hid (Q2.out.new nd)
              have Q3d := Lib.hid (Q3.out.trans (nd.chg _))
              have R2d := Lib.hid (R2.out.new nd)
              have zd := nd.size
              clear k0 k1 k2 k0d bxd bx nd HF Q1 Q2 Q3 R2
              go_wp2_with first
                | (at_builtin
                   refine wpRow_appendRec slItem _ _ rfl rfl (.slice av D.length cv) D.length us [.string ⟨o.path.toArray⟩, .bool o.dir, .slice au2 o.ids.length cu2] 28 rfl Q1d.out rfl (by intro u hu; simp at hu; rcases hu with rfl | rfl | rfl <;> rfl) rfl (by omega) (by decide) ?_
                   intro v4 w4 q4 c4)
                | fail
              have fin := KeepSt.more (by omega) (by omega) Q1d.out Q2d.out Q3d.out lp (R2d.out.mono (fun j _ hj => by omega)) q4 c4
              go_roundg (r.length - (k + 1))
              case measure => rw [Hgk.out]; omega
              case rel => exact ⟨k + 1, rfl, by omega, by go_num, Lib.hid (by rw [Htk.out, if_neg Hp.out]; exact fin)⟩
          · have ek : r.take k = r := List.take_of_length_le (by omega)
            rw [ek] at hK
            rw [Hdp.out] at hK
            have K2 := hK
            obtain ⟨us, q1, q2, q3⟩ := hK.out
            obtain ⟨xb, xcb, rfl, -⟩ := q1.shape
            clear ek q1 q2 hK
            have Q10 := Lib.hid (Recs.chg Q9.out q3 (fun j _ hj e => by omega))
            have I10 := Lib.hid (I9.out.chg q3 (fun j _ hj e => by omega))
            have J10 := Lib.hid (J9.out.chg q3 (fun j _ hj e => by omega))
            have X10 := Lib.hid (q3.heap X8.out (by omega))
            have Y10 := Lib.hid (q3.heap Y9.out (by omega))
            have IA10 := Lib.hid (Recs.chg IA.out q3 (fun j hjl hj e => by omega))
            have N10 := Lib.hid (N9.out.trans_chg q3 (fun j hj e => by omega))
            have IB10 := Lib.hid (KeepSt.items K2.out)
            have hval := fun (w' : World) (n : New wr w') => implTreeValid _ r w' (Recs.new Q10.out n) Hsz.out
            rw [Hkr.out] at hval
            have Hval := Lib.hid hval
            clear hval q3
            go_wp2_with fail
            refine (Hval.out _ (New.refl _)).mono ?_
            rintro e w8 ⟨rfl, n8⟩
            obtain ⟨y0, y1, y2, -, -, -⟩ := set3_cells (n8.heap Y10.out)
            obtain ⟨b0, b1, b2, -, -, -⟩ := set3_cells (n8.heap X10.out)
            have N8 := Lib.hid n8
            clear n8
            go_wp2_with fail
            refine (sameItem x x _ _ w8 (J10.out.new N8.out) (I10.out.new N8.out)).mono ?_
            rw [decide_eq_true (rfl : x = x)]
            rintro e w9 ⟨rfl, n9⟩
            have N9b := Lib.hid (N8.out.trans n9)
            clear n9 y0 y1 y2 b0 b1 b2
            go_wp2_with fail
            refine (sameTree _ _ La La w9 (Recs.new IA10.out N9b.out) (Recs.new IB10.out N9b.out)).mono ?_
            rw [decide_eq_true (rfl : La = La)]
            rintro e w10 ⟨rfl, n10⟩
            go_wp2_with fail
            go_ret
            exact ⟨rfl, N10.out.trans (N9b.out.trans n10)⟩
end Go.Proofs.YtkffejommncinaaDoor
