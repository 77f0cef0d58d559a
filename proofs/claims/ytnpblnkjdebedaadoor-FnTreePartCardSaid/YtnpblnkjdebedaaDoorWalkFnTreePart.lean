/- The walk of FnTreePart. -/
import Derived.Test.YtnpblnkjdebedaaDoorDrawTrees
import Derived.Test.YtnpblnkjdebedaaDoorTreeParts
import Derived.Test.YtnpblnkjdebedaaDoorStepRec
namespace Go.Proofs.YtnpblnkjdebedaaDoor
open Go.RowKit

theorem Items.takeI {S : Nat → Prop} {w : World} {a : Option Addr} {c : Nat} {os : List ItemR} (h : Items S w (.slice a os.length c) os) (m : Nat) (hm : m ≤ os.length) : Items S w (.slice a m c) (os.take m) := by
  obtain ⟨h0, a', c', e, h1, h2, h3⟩ := h
  simp only [Value.slice.injEq] at e
  obtain ⟨rfl, -, rfl⟩ := e
  have hl : (os.take m).length = m := by simp; omega
  refine ⟨by unfold itemFlds; rw [flds_len ItemR.flds 3 (fun _ => rfl)], a, c, by rw [hl], by omega, h2, ?_⟩
  rw [hl]
  rcases h3 with h3 | ⟨b, off, rfl, hs, hb, hc⟩
  · exact .inl (by omega)
  · refine .inr ⟨b, off, rfl, hs, hb, fun i f hf => hc i f ?_⟩
    unfold itemFlds at hf ⊢
    rw [← flds_take ItemR.flds 3 (fun _ => rfl), List.getElem?_take] at hf
    split at hf
    · exact hf
    · simp at hf
theorem src_one {w : World} {g : Nat} {a b c : Value} (h : w.heap[g]? = some (.cells #[a, b, c] 28)) : Src w (some ⟨g, 0, none⟩) 1 1 3 [a, b, c] := by
  refine ⟨by simp, by simp, fun ad e j x hx => ?_⟩
  cases e
  rw [addr_add, Nat.zero_add]
  simp only [World.cell?, h]
  simpa using hx
/-- the longer list -/
theorem part_fin {W : World} {T S : Nat → Prop} {v : Value} {os : List ItemR} {o : ItemR} {us : List Value} {u : Value} (rd : Reads T W us (itemFlds os)) (h : Row 28 3 S W v (os.length + 1) (us ++ [txt o.path, .bool o.dir, u])) (hp : o.path.length ≤ maxLen) (hu : Ints Any W u o.ids) :
    Items Any W v (os ++ [o]) := by
  have rl : Reads Any W [txt o.path, .bool o.dir, u] o.flds := by
    refine ⟨rfl, fun i x f hx hf => ?_⟩
    match i, hx, hf with
    | 0, hx, hf => simp [ItemR.flds] at hx hf; subst hx; subst hf; exact ⟨rfl, hp⟩
    | 1, hx, hf => simp [ItemR.flds] at hx hf; subst hx; subst hf; exact rfl
    | 2, hx, hf => simp [ItemR.flds] at hx hf; subst hx; subst hf; exact hu
    | n + 3, hx, hf => simp at hx
  have hr := ((rd.mono (T := Any) (fun _ _ _ => trivial)).append rl).recs h
  unfold Items
  rw [itemFlds_snoc, List.length_append, List.length_singleton]
  exact hr.mono (fun _ _ _ => trivial)

set_option maxRecDepth 4000 in
set_option maxHeartbeats 2000000 in
theorem walkFnTreePart (v : Value) (bs : List Int) (w : World) (h : Nums .u8 Any w v bs) :
    Calls Tryd.prog 3 #[v] w fun e w' => e = .returned (.bool true) ∧ New w w' := by
  have hdr := drawTreeValid v bs w h
  have Hdr := Lib.hid hdr
  clear hdr
  obtain ⟨a, c, rfl, h1, ⟨h2, -⟩, -, -⟩ := h
  unfold maxLen at h2
  by_cases hbig : 1048576 < bs.length
  · have hd : (1048576 : Int) < (bs.length : Int) := by omega
    go_enter Tryd.func3, Tryd.ntmps3
    go_wp2_with fail
    go_ret
    exact ⟨rfl, New.refl _⟩
  have hd : ¬ ((1048576 : Int) < (bs.length : Int)) := by omega
  go_enter Tryd.func3, Tryd.ntmps3
  go_wp2_with fail
  refine Hdr.out.mono ?_
  rintro e w1 ⟨v1, os, rfl, ⟨hl, hsm⟩, o1, n1⟩
  obtain ⟨a1, c1, rfl, s1, s2, -⟩ := o1.shape
  unfold maxLen at s2
  have hall := small_all hsm
  have hI := o1.recs
  have hsp := fun (W : World) (n : New w1 W) => specValid _ os W (Recs.new hI n) hall
  have him := fun (W : World) (n : New w1 W) => implTreeValid _ os W (Recs.new hI n) hall
  have hfi := fun (W : World) (n : New w1 W) (p : List UInt8) (hp : p.length ≤ 1048576) => implTreeFind _ os p W (Recs.new hI n) hall hp
  have hfs := fun (W : World) (n : New w1 W) (p : List UInt8) => specTreeFind _ os p W (Recs.new hI n) hall
  have hli := fun (W : World) (n : New w1 W) (p : List UInt8) (hp : p.length ≤ 1048576) => implTreeList _ os p W (Recs.new hI n) hall hp
  have hls := fun (W : World) (n : New w1 W) (p : List UInt8) => specTreeList _ os p W (Recs.new hI n) hall
  have hat := fun (W : World) (n : New w1 W) (k : Nat) (o : ItemR) (ho : os[k]? = some o) => Items.at (Recs.new hI n) ho
  unfold FoundPost txt at hfi hfs
  unfold ListPost txt at hli hls
  have Hsp := Lib.hid hsp
  have Him := Lib.hid him
  have Hfi := Lib.hid hfi
  have Hfs := Lib.hid hfs
  have Hli := Lib.hid hli
  have Hls := Lib.hid hls
  have Hat := Lib.hid hat
  have Hsm := Lib.hid hsm
  have Hall := Lib.hid hall
  have HI := Lib.hid hI
  have N1 := Lib.hid n1
  obtain ⟨us, r1, r2⟩ := o1
  have rd := r2.reads
  have hul := r1.1.1
  clear hsp him hfi hfs hli hls hat hI r2 hall hsm n1 Hdr
  rcases hk : treeOk os with _ | _
  · rw [hk] at Hsp Him
    clear hk
    go_wp2_with fail
    refine (Him.out _ (New.refl _)).mono ?_
    rintro e w2 ⟨rfl, n2⟩
    go_wp2_with fail
    refine (Hsp.out _ n2).mono ?_
    rintro e w3 ⟨rfl, n3⟩
    go_wp2_with fail
    go_ret
    exact ⟨rfl, (N1.out.trans n2).trans n3⟩
  · rw [hk] at Hsp Him
    have Hk := Lib.hid hk
    clear hk
    go_wp2_with fail
    refine (Him.out _ (New.refl _)).mono ?_
    rintro e w2 ⟨rfl, n2⟩
    go_wp2_with fail
    refine (Hsp.out _ n2).mono ?_
    rintro e w3 ⟨rfl, n3⟩
    replace n3 := n2.trans n3
    clear n2
    by_cases hz : os.length = 0
    · go_wp2_with fail
      go_ret
      exact ⟨rfl, N1.out.trans n3⟩
    · have hzb : ((os.length : Int) == 0) = false := by simp; intro e; exact hz (by rw [e]; rfl)
      obtain ⟨n, hn⟩ : ∃ n, os.length = n + 1 := ⟨os.length - 1, by omega⟩
      obtain ⟨o, ho⟩ := get_of (show n < os.length by omega)
      have hom := List.mem_of_getElem? ho
      obtain ⟨b, off, c', u, e1, hb, c0, c1x, c2, lp, r2⟩ := Hat.out w3 n3 n o ho
      obtain ⟨g, cap, e2, hS, hgl, hc1, hc2⟩ := r1.head (by omega)
      simp only [Value.slice.injEq] at e1 e2
      obtain ⟨rfl, -, rfl⟩ := e1
      obtain ⟨e2, -, e3⟩ := e2
      simp only [Option.some.injEq, Addr.mk.injEq] at e2
      obtain ⟨rfl, rfl, -⟩ := e2
      subst e3
      have hsub : ((os.length : Int) - 1) = (n : Int) := by omega
      have hn1 : ((n : Int) < (os.length : Int)) := by omega
      have hone := rd.one
      have Hone := Lib.hid hone
      have R1 := Lib.hid (r1.new n3)
      have Rd := Lib.hid (rd.new n3)
      have Hul := Lib.hid hul
      have Hom := Lib.hid hom
      have Hn := Lib.hid hn
      have hpl := (Hsm.out o hom).1
      obtain ⟨au, cu, e4, -⟩ := id r2
      have R2 := Lib.hid r2
      subst e4
      rw [Nat.zero_add] at c0 c1x c2
      unfold txt at c0
      have k0 : (w3.drewN 1).cell? ⟨b, n * 3, none⟩ = some (.string ⟨o.path.toArray⟩) ∧ (w3.drewN 1).cell? ⟨b, n * 3 + 1, none⟩ = some (.bool o.dir) ∧ (w3.drewN 1).cell? ⟨b, n * 3 + 2, none⟩ = some (.slice au o.ids.length cu) := ⟨c0, c1x, c2⟩
      have KK := fun (W : World) (m : New (w3.drewN 1) W) => And.intro (m.cell k0.1) (And.intro (m.cell k0.2.1) (m.cell k0.2.2))
      have HKK := Lib.hid KK
      have src := fun (W : World) (m : New (w3.drewN 1) W) => Row.src ((R1.out.new ((New.refl w3).drewN 1)).new m) (i := 0) (m := os.length) (by omega) c1
      simp only [Nat.zero_mul, List.drop_zero, ← Hul.out, List.take_length] at src
      have Src := Lib.hid src
      have hdz : (w3.drewN 1).heap.size = w3.heap.size := rfl
      clear hone r1 rd hul hom hn ho r2 src KK
      go_wp2_with fail
      refine wp_region_held_drew (S := (fun w' => w'.cell? ⟨b, n * 3, none⟩ = some (.string ⟨o.path.toArray⟩) ∧ w'.cell? ⟨b, n * 3 + 1, none⟩ = some (.bool o.dir) ∧ w'.cell? ⟨b, n * 3 + 2, none⟩ = some (.slice au o.ids.length cu))) (by kernel_rfl) ?_ (fun hHeld => ?_)
      · exact k0
      refine wpAnyH_take (i := 1) (v := ?_) (oi := ?_) ?hi_1 ?hs_1 ?hf_1 ?hr_1 ?hQ_1 ?hy_1 ?hS_1 ?h_1
      case hi_1 => (simp only [List.getElem?_toArray, List.getElem?_cons_zero, List.getElem?_cons_succ] <;> rfl)
      case hs_1 => kernel_rfl
      case hf_1 => kernel_rfl
      case hr_1 => kernel_rfl
      case hQ_1 => exact fun _ _ _ h => h
      case hy_1 => (refine Or.inl ⟨by rfl, ?_⟩; intro w hSw; (try dsimp only at hSw); go_simp; try with_reducible rfl)
      case hS_1 => assumption
      try go_frame
      refine wpAnyH_take (i := 3) (v := ?_) (oi := ?_) ?hi_2 ?hs_2 ?hf_2 ?hr_2 ?hQ_2 ?hy_2 ?hS_2 ?h_2
      case hi_2 => (simp only [List.getElem?_toArray, List.getElem?_cons_zero, List.getElem?_cons_succ] <;> rfl)
      case hs_2 => kernel_rfl
      case hf_2 => kernel_rfl
      case hr_2 => kernel_rfl
      case hQ_2 => exact fun _ _ _ h => h
      case hy_2 => (refine Or.inl ⟨by rfl, ?_⟩; intro w hSw; (try dsimp only at hSw); go_simp; try with_reducible rfl)
      case hS_2 => assumption
      try go_frame
      refine wpAnyH_take (i := 4) (v := ?_) (oi := ?_) ?hi_3 ?hs_3 ?hf_3 ?hr_3 ?hQ_3 ?hy_3 ?hS_3 ?h_3
      case hi_3 => (simp only [List.getElem?_toArray, List.getElem?_cons_zero, List.getElem?_cons_succ] <;> rfl)
      case hs_3 => kernel_rfl
      case hf_3 => kernel_rfl
      case hr_3 => kernel_rfl
      case hQ_3 => exact fun _ _ _ h => h
      case hy_3 => (refine Or.inl ⟨by rfl, ?_⟩; intro w hSw; (try dsimp only at hSw); go_simp; try with_reducible rfl)
      case hS_3 => assumption
      try go_frame
      refine wpAnyH_take (i := 5) (v := ?_) (oi := ?_) ?hi_4 ?hs_4 ?hf_4 ?hr_4 ?hQ_4 ?hy_4 ?hS_4 ?h_4
      case hi_4 => (simp only [List.getElem?_toArray, List.getElem?_cons_zero, List.getElem?_cons_succ] <;> rfl)
      case hs_4 => kernel_rfl
      case hf_4 => kernel_rfl
      case hr_4 => kernel_rfl
      case hQ_4 => exact fun _ _ _ h => h
      case hy_4 => (refine Or.inl ⟨by rfl, ?_⟩; intro w hSw; (try dsimp only at hSw); go_simp; try with_reducible rfl)
      case hS_4 => assumption
      try go_frame
      refine wpAnyH_take (i := 6) (v := ?_) (oi := ?_) ?hi_5 ?hs_5 ?hf_5 ?hr_5 ?hQ_5 ?hy_5 ?hS_5 ?h_5
      case hi_5 => (simp only [List.getElem?_toArray, List.getElem?_cons_zero, List.getElem?_cons_succ] <;> rfl)
      case hs_5 => kernel_rfl
      case hf_5 => kernel_rfl
      case hr_5 => kernel_rfl
      case hQ_5 => exact fun _ _ _ h => h
      case hy_5 => (refine Or.inl ⟨by rfl, ?_⟩; intro w hSw; (try dsimp only at hSw); go_simp; try with_reducible rfl)
      case hS_5 => assumption
      try go_frame
      refine wpAnyH_ready (rs := [0, 7]) (by kernel_rfl) (by simp) ?_
      refine (AllReadyH.cons (o := ?_) ?hi_6 (fun K hK => ?h_6) (AllReadyH.cons (o := ?_) ?hi_7 (fun K hK => ?h_7) AllReadyH.nil))
      case hi_6 => (simp only [List.getElem?_toArray, List.getElem?_cons_zero] <;> rfl)
      case hi_7 => (simp only [List.getElem?_toArray, List.getElem?_cons_zero, List.getElem?_cons_succ] <;> rfl)
      · skip
        go_simp
        refine hK.out _ _ ?_ (fun hHeld => ?_)
        · exact (HKK.out _ ((New.refl (w3.drewN 1)).alloc (.cells #[] 28)))
        clear hK K
        try go_frame
        have rA := Row.empty 28 3 (w3.drewN 1)
        refine wpAnyH_ready (rs := [2, 7]) (by kernel_rfl) (by simp) ?_
        refine (AllReadyH.cons (o := ?_) ?hi_8 (fun K hK => ?h_8) (AllReadyH.cons (o := ?_) ?hi_9 (fun K hK => ?h_9) AllReadyH.nil))
        case hi_8 => (simp only [List.getElem?_toArray, List.getElem?_cons_zero, List.getElem?_cons_succ] <;> rfl)
        case hi_9 => (simp only [List.getElem?_toArray, List.getElem?_cons_zero, List.getElem?_cons_succ] <;> rfl)
        · skip
          refine stepRow_append slItem _ _ rfl rfl (.slice (some ⟨w3.heap.size, 0, none⟩) 0 0) 0 [] rfl rA (some ⟨b, 0, none⟩) os.length c1 us rfl (Src.out _ ((New.refl (w3.drewN 1)).alloc (.cells #[] 28))) (fun u hu => Hone.out u hu) ?_ ?_ ?_
          · unfold maxLen; omega
          · omega
          intro v4 w4 rP cP
          have n4 := ((New.refl (w3.drewN 1)).alloc (.cells #[] 28)).trans_chg cP (fun j hj e => by have e' := own_some e; simp only at e'; omega)
          have z4 := n4.size
          refine hK.out _ _ ?_ (fun hHeld => ?_)
          · exact (HKK.out _ n4)
          clear hK K
          try go_frame
          refine wpAnyH_ready (rs := [7]) (by kernel_rfl) (by simp) ?_
          refine AllReadyH.cons (o := ?_) ?hi_10 (fun K hK => ?h_10) AllReadyH.nil
          case hi_10 => (simp only [List.getElem?_toArray, List.getElem?_cons_zero, List.getElem?_cons_succ] <;> rfl)
          go_simp
          refine hK.out _ _ ?_ (fun hHeld => ?_)
          · exact (HKK.out _ (n4.alloc (.cells #[.string ⟨o.path.toArray⟩, .bool o.dir, .slice au o.ids.length cu] 28)))
          clear hK K
          try go_frame
          have hC := heap_alloc_new w4 (.cells #[.string ⟨o.path.toArray⟩, .bool o.dir, .slice au o.ids.length cu] 28)
          have rP := rP.new ((New.refl _).alloc (.cells #[.string ⟨o.path.toArray⟩, .bool o.dir, .slice au o.ids.length cu] 28))
          refine wpAnyH_ready (rs := [8]) (by kernel_rfl) (by simp) ?_
          refine (AllReadyH.cons (o := ?_) ?hi_11 (fun K hK => ?h_11) AllReadyH.nil)
          case hi_11 => (simp only [List.getElem?_toArray, List.getElem?_cons_zero, List.getElem?_cons_succ] <;> rfl)
          refine stepRow_append slItem _ _ rfl rfl v4 (0 + os.length) ([] ++ us) rfl rP (some ⟨w4.heap.size, 0, none⟩) 1 1 [.string ⟨o.path.toArray⟩, .bool o.dir, .slice au o.ids.length cu] rfl (src_one hC) (by intro u hu; simp at hu; rcases hu with rfl | rfl | rfl <;> rfl) ?_ ?_ ?_
          · unfold maxLen; omega
          · omega
          intro v7 w7 q7 c7
          have hv4 : ∀ j, v4.ownBlock = some j → w3.heap.size ≤ j := fun j e => by have := rP.2 j e; simp [Value.ownBlock] at this; omega
          have n7 := (n4.alloc (.cells #[.string ⟨o.path.toArray⟩, .bool o.dir, .slice au o.ids.length cu] 28)).trans_chg c7 (fun j hj e => by have := hv4 j e; omega)
          refine hK.out _ _ ?_ (fun hHeld => ?_)
          · exact (HKK.out _ n7)
          clear hK K
          try go_frame
          refine wpAnyH_take (i := 9) (v := ?_) (oi := ?_) ?hi_12 ?hs_12 ?hf_12 ?hr_12 ?hQ_12 ?hy_12 ?hS_12 ?h_12
          case hi_12 => (simp only [List.getElem?_toArray, List.getElem?_cons_zero, List.getElem?_cons_succ] <;> rfl)
          case hs_12 => kernel_rfl
          case hf_12 => kernel_rfl
          case hr_12 => kernel_rfl
          case hQ_12 => exact fun _ _ _ h => h
          case hy_12 => (refine Or.inl ⟨by rfl, ?_⟩; intro w hSw; (try dsimp only at hSw); go_simp; try with_reducible rfl)
          case hS_12 => assumption
          try go_frame
          refine wpAnyH_done (by kernel_rfl) ?_ _
          obtain ⟨wF, hwF⟩ : ∃ x, x = w7 := ⟨_, rfl⟩
          subst hwF
          have nF : New w3 wF := ((New.refl w3).drewN 1).trans n7
          rw [Nat.zero_add, List.nil_append] at q7
          have fin := part_fin (Rd.out.new nF) q7 (by unfold maxLen; omega) ((R2.out.new nF).mono (fun _ _ _ => trivial))
          clear hC rP c7 hv4 n7
          have tp : treeOk (os.take n) = true := tree_part Hk.out n
          have tt : treeOk (os ++ [o]) = false := tree_twice Hom.out
          have i1 := implTreeValid _ (os.take n) _ (Items.takeI (Recs.new HI.out (n3.trans nF)) n (by omega)) (fun x hx => Hall.out x (List.mem_of_mem_take hx))
          have i2 := fun (W : World) (m : New wF W) => implTreeValid _ (os ++ [o]) W (Recs.new fin m) (fun x hx => by
            rcases List.mem_append.1 hx with hx | hx
            · exact Hall.out x hx
            · simp at hx; subst hx; exact Hall.out x Hom.out)
          rw [tp] at i1
          rw [tt] at i2
          have I1 := Lib.hid i1
          have I2 := Lib.hid i2
          obtain ⟨a7, c7, rfl, -⟩ := id q7.shape
          clear i1 i2 tp tt
          go_wp2_with fail
          refine I1.out.mono ?_
          rintro e w8 ⟨rfl, n8⟩
          go_wp2_with fail
          refine (I2.out _ n8).mono ?_
          rintro e w9 ⟨rfl, n9⟩
          go_wp2_with fail
          go_ret
          exact ⟨rfl, N1.out.trans (((n3.trans nF).trans n8).trans n9)⟩
        · skip
          go_simp
          refine hK.out _ _ ?_ (fun hHeld => ?_)
          · exact (HKK.out _ (((New.refl (w3.drewN 1)).alloc (.cells #[] 28)).alloc (.cells #[.string ⟨o.path.toArray⟩, .bool o.dir, .slice au o.ids.length cu] 28)))
          clear hK K
          try go_frame
          have hC := heap_alloc_new ((w3.drewN 1).alloc (.cells #[] 28)) (.cells #[.string ⟨o.path.toArray⟩, .bool o.dir, .slice au o.ids.length cu] 28)
          try rw [World.size_alloc] at hC
          have rA := rA.new ((New.refl _).alloc (.cells #[.string ⟨o.path.toArray⟩, .bool o.dir, .slice au o.ids.length cu] 28))
          refine wpAnyH_ready (rs := [2]) (by kernel_rfl) (by simp) ?_
          refine (AllReadyH.cons (o := ?_) ?hi_13 (fun K hK => ?h_13) AllReadyH.nil)
          case hi_13 => (simp only [List.getElem?_toArray, List.getElem?_cons_zero, List.getElem?_cons_succ] <;> rfl)
          refine stepRow_append slItem _ _ rfl rfl (.slice (some ⟨w3.heap.size, 0, none⟩) 0 0) 0 [] rfl rA (some ⟨b, 0, none⟩) os.length c1 us rfl (Src.out _ (((New.refl (w3.drewN 1)).alloc (.cells #[] 28)).alloc (.cells #[.string ⟨o.path.toArray⟩, .bool o.dir, .slice au o.ids.length cu] 28))) (fun u hu => Hone.out u hu) ?_ ?_ ?_
          · unfold maxLen; omega
          · omega
          intro v4 w4 rP cP
          have n4 := (((New.refl (w3.drewN 1)).alloc (.cells #[] 28)).alloc (.cells #[.string ⟨o.path.toArray⟩, .bool o.dir, .slice au o.ids.length cu] 28)).trans_chg cP (fun j hj e => by have e' := own_some e; simp only at e'; omega)
          have hC := cP.heap hC (fun e => by have e' := own_some e; simp only at e'; omega)
          have z4 := n4.size
          refine hK.out _ _ ?_ (fun hHeld => ?_)
          · exact (HKK.out _ n4)
          clear hK K
          try go_frame
          refine wpAnyH_ready (rs := [8]) (by kernel_rfl) (by simp) ?_
          refine (AllReadyH.cons (o := ?_) ?hi_14 (fun K hK => ?h_14) AllReadyH.nil)
          case hi_14 => (simp only [List.getElem?_toArray, List.getElem?_cons_zero, List.getElem?_cons_succ] <;> rfl)
          refine stepRow_append slItem _ _ rfl rfl v4 (0 + os.length) ([] ++ us) rfl rP (some ⟨w3.heap.size + 1, 0, none⟩) 1 1 [.string ⟨o.path.toArray⟩, .bool o.dir, .slice au o.ids.length cu] rfl (src_one hC) (by intro u hu; simp at hu; rcases hu with rfl | rfl | rfl <;> rfl) ?_ ?_ ?_
          · unfold maxLen; omega
          · omega
          intro v7 w7 q7 c7
          have hv4 : ∀ j, v4.ownBlock = some j → w3.heap.size ≤ j := fun j e => by have := rP.2 j e; simp [Value.ownBlock] at this; omega
          have n7 := n4.trans_chg c7 (fun j hj e => by have := hv4 j e; omega)
          refine hK.out _ _ ?_ (fun hHeld => ?_)
          · exact (HKK.out _ n7)
          clear hK K
          try go_frame
          refine wpAnyH_take (i := 9) (v := ?_) (oi := ?_) ?hi_15 ?hs_15 ?hf_15 ?hr_15 ?hQ_15 ?hy_15 ?hS_15 ?h_15
          case hi_15 => (simp only [List.getElem?_toArray, List.getElem?_cons_zero, List.getElem?_cons_succ] <;> rfl)
          case hs_15 => kernel_rfl
          case hf_15 => kernel_rfl
          case hr_15 => kernel_rfl
          case hQ_15 => exact fun _ _ _ h => h
          case hy_15 => (refine Or.inl ⟨by rfl, ?_⟩; intro w hSw; (try dsimp only at hSw); go_simp; try with_reducible rfl)
          case hS_15 => assumption
          try go_frame
          refine wpAnyH_done (by kernel_rfl) ?_ _
          obtain ⟨wF, hwF⟩ : ∃ x, x = w7 := ⟨_, rfl⟩
          subst hwF
          have nF : New w3 wF := ((New.refl w3).drewN 1).trans n7
          rw [Nat.zero_add, List.nil_append] at q7
          have fin := part_fin (Rd.out.new nF) q7 (by unfold maxLen; omega) ((R2.out.new nF).mono (fun _ _ _ => trivial))
          clear hC rP c7 hv4 n7
          have tp : treeOk (os.take n) = true := tree_part Hk.out n
          have tt : treeOk (os ++ [o]) = false := tree_twice Hom.out
          have i1 := implTreeValid _ (os.take n) _ (Items.takeI (Recs.new HI.out (n3.trans nF)) n (by omega)) (fun x hx => Hall.out x (List.mem_of_mem_take hx))
          have i2 := fun (W : World) (m : New wF W) => implTreeValid _ (os ++ [o]) W (Recs.new fin m) (fun x hx => by
            rcases List.mem_append.1 hx with hx | hx
            · exact Hall.out x hx
            · simp at hx; subst hx; exact Hall.out x Hom.out)
          rw [tp] at i1
          rw [tt] at i2
          have I1 := Lib.hid i1
          have I2 := Lib.hid i2
          obtain ⟨a7, c7, rfl, -⟩ := id q7.shape
          clear i1 i2 tp tt
          go_wp2_with fail
          refine I1.out.mono ?_
          rintro e w8 ⟨rfl, n8⟩
          go_wp2_with fail
          refine (I2.out _ n8).mono ?_
          rintro e w9 ⟨rfl, n9⟩
          go_wp2_with fail
          go_ret
          exact ⟨rfl, N1.out.trans (((n3.trans nF).trans n8).trans n9)⟩
      · skip
        go_simp
        refine hK.out _ _ ?_ (fun hHeld => ?_)
        · exact (HKK.out _ ((New.refl (w3.drewN 1)).alloc (.cells #[.string ⟨o.path.toArray⟩, .bool o.dir, .slice au o.ids.length cu] 28)))
        clear hK K
        try go_frame
        have hC := heap_alloc_new (w3.drewN 1) (.cells #[.string ⟨o.path.toArray⟩, .bool o.dir, .slice au o.ids.length cu] 28)
        refine wpAnyH_ready (rs := [0]) (by kernel_rfl) (by simp) ?_
        refine AllReadyH.cons (o := ?_) ?hi_16 (fun K hK => ?h_16) AllReadyH.nil
        case hi_16 => (simp only [List.getElem?_toArray, List.getElem?_cons_zero] <;> rfl)
        go_simp
        refine hK.out _ _ ?_ (fun hHeld => ?_)
        · exact (HKK.out _ (((New.refl (w3.drewN 1)).alloc (.cells #[.string ⟨o.path.toArray⟩, .bool o.dir, .slice au o.ids.length cu] 28)).alloc (.cells #[] 28)))
        clear hK K
        try go_frame
        have rA := Row.empty 28 3 ((w3.drewN 1).alloc (.cells #[.string ⟨o.path.toArray⟩, .bool o.dir, .slice au o.ids.length cu] 28))
        rw [show ((w3.drewN 1).alloc (.cells #[.string ⟨o.path.toArray⟩, .bool o.dir, .slice au o.ids.length cu] 28)).heap.size = w3.heap.size + 1 from World.size_alloc _ _] at rA
        have hC := ((New.refl _).alloc (.cells #[] 28)).heap hC
        refine wpAnyH_ready (rs := [2]) (by kernel_rfl) (by simp) ?_
        refine (AllReadyH.cons (o := ?_) ?hi_17 (fun K hK => ?h_17) AllReadyH.nil)
        case hi_17 => (simp only [List.getElem?_toArray, List.getElem?_cons_zero, List.getElem?_cons_succ] <;> rfl)
        refine stepRow_append slItem _ _ rfl rfl (.slice (some ⟨w3.heap.size + 1, 0, none⟩) 0 0) 0 [] rfl rA (some ⟨b, 0, none⟩) os.length c1 us rfl (Src.out _ (((New.refl (w3.drewN 1)).alloc (.cells #[.string ⟨o.path.toArray⟩, .bool o.dir, .slice au o.ids.length cu] 28)).alloc (.cells #[] 28))) (fun u hu => Hone.out u hu) ?_ ?_ ?_
        · unfold maxLen; omega
        · omega
        intro v4 w4 rP cP
        have n4 := (((New.refl (w3.drewN 1)).alloc (.cells #[.string ⟨o.path.toArray⟩, .bool o.dir, .slice au o.ids.length cu] 28)).alloc (.cells #[] 28)).trans_chg cP (fun j hj e => by have e' := own_some e; simp only at e'; omega)
        have hC := cP.heap hC (fun e => by have e' := own_some e; simp only at e'; omega)
        have z4 := n4.size
        refine hK.out _ _ ?_ (fun hHeld => ?_)
        · exact (HKK.out _ n4)
        clear hK K
        try go_frame
        refine wpAnyH_ready (rs := [8]) (by kernel_rfl) (by simp) ?_
        refine (AllReadyH.cons (o := ?_) ?hi_18 (fun K hK => ?h_18) AllReadyH.nil)
        case hi_18 => (simp only [List.getElem?_toArray, List.getElem?_cons_zero, List.getElem?_cons_succ] <;> rfl)
        refine stepRow_append slItem _ _ rfl rfl v4 (0 + os.length) ([] ++ us) rfl rP (some ⟨w3.heap.size, 0, none⟩) 1 1 [.string ⟨o.path.toArray⟩, .bool o.dir, .slice au o.ids.length cu] rfl (src_one hC) (by intro u hu; simp at hu; rcases hu with rfl | rfl | rfl <;> rfl) ?_ ?_ ?_
        · unfold maxLen; omega
        · omega
        intro v7 w7 q7 c7
        have hv4 : ∀ j, v4.ownBlock = some j → w3.heap.size ≤ j := fun j e => by have := rP.2 j e; simp [Value.ownBlock] at this; omega
        have n7 := n4.trans_chg c7 (fun j hj e => by have := hv4 j e; omega)
        refine hK.out _ _ ?_ (fun hHeld => ?_)
        · exact (HKK.out _ n7)
        clear hK K
        try go_frame
        refine wpAnyH_take (i := 9) (v := ?_) (oi := ?_) ?hi_19 ?hs_19 ?hf_19 ?hr_19 ?hQ_19 ?hy_19 ?hS_19 ?h_19
        case hi_19 => (simp only [List.getElem?_toArray, List.getElem?_cons_zero, List.getElem?_cons_succ] <;> rfl)
        case hs_19 => kernel_rfl
        case hf_19 => kernel_rfl
        case hr_19 => kernel_rfl
        case hQ_19 => exact fun _ _ _ h => h
        case hy_19 => (refine Or.inl ⟨by rfl, ?_⟩; intro w hSw; (try dsimp only at hSw); go_simp; try with_reducible rfl)
        case hS_19 => assumption
        try go_frame
        refine wpAnyH_done (by kernel_rfl) ?_ _
        obtain ⟨wF, hwF⟩ : ∃ x, x = w7 := ⟨_, rfl⟩
        subst hwF
        have nF : New w3 wF := ((New.refl w3).drewN 1).trans n7
        rw [Nat.zero_add, List.nil_append] at q7
        have fin := part_fin (Rd.out.new nF) q7 (by unfold maxLen; omega) ((R2.out.new nF).mono (fun _ _ _ => trivial))
        clear hC rP c7 hv4 n7
        have tp : treeOk (os.take n) = true := tree_part Hk.out n
        have tt : treeOk (os ++ [o]) = false := tree_twice Hom.out
        have i1 := implTreeValid _ (os.take n) _ (Items.takeI (Recs.new HI.out (n3.trans nF)) n (by omega)) (fun x hx => Hall.out x (List.mem_of_mem_take hx))
        have i2 := fun (W : World) (m : New wF W) => implTreeValid _ (os ++ [o]) W (Recs.new fin m) (fun x hx => by
          rcases List.mem_append.1 hx with hx | hx
          · exact Hall.out x hx
          · simp at hx; subst hx; exact Hall.out x Hom.out)
        rw [tp] at i1
        rw [tt] at i2
        have I1 := Lib.hid i1
        have I2 := Lib.hid i2
        obtain ⟨a7, c7, rfl, -⟩ := id q7.shape
        clear i1 i2 tp tt
        go_wp2_with fail
        refine I1.out.mono ?_
        rintro e w8 ⟨rfl, n8⟩
        go_wp2_with fail
        refine (I2.out _ n8).mono ?_
        rintro e w9 ⟨rfl, n9⟩
        go_wp2_with fail
        go_ret
        exact ⟨rfl, N1.out.trans (((n3.trans nF).trans n8).trans n9)⟩

end Go.Proofs.YtnpblnkjdebedaaDoor
