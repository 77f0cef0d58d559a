/- The walk of FnOpsPart. -/
import Derived.Test.YtpmcjbemicheoaaDoorOpsOk
import Derived.Test.YtpmcjbemicheoaaDoorDrawOps
import Derived.Test.YtpmcjbemicheoaaDoorRecsRow
import Derived.Deep.RegionLaw
namespace Go.Proofs.YtpmcjbemicheoaaDoor
open Go.RowKit

theorem ok_erase {os : List OpR} (h : opsOk os = true) (k : Nat) : opsOk (os.take k ++ os.drop (k + 1)) = true := by
  simp only [opsOk, Bool.and_eq_true, decide_eq_true_eq, List.all_eq_true] at h ⊢
  refine ⟨by simp; omega, fun o ho => h.2 o ?_⟩
  rcases List.mem_append.1 ho with ho | ho
  · exact List.mem_of_mem_take ho
  · exact List.mem_of_mem_drop ho
theorem ok_zero {os : List OpR} {k : Nat} {o : OpR} (hk : k < os.length) : opsOk (os.set k { o with kind := 0 }) = false := by
  have hm : ({ o with kind := 0 } : OpR) ∈ os.set k { o with kind := 0 } := List.mem_of_getElem? (List.getElem?_set_self hk)
  have : (os.set k { o with kind := 0 }).all opOk = false := by
    rw [List.all_eq_false]
    exact ⟨_, hm, by simp [opOk]⟩
  simp [opsOk, this]

theorem op_set0 : ∀ (os : List OpR) {k : Nat} {o : OpR}, os[k]? = some o → (opFlds os).set (k * 3) (.int 0) = opFlds (os.set k { o with kind := 0 })
  | [], _, _, h => by simp at h
  | a :: os, 0, o, h => by
    obtain rfl : a = o := by simpa using h
    simp [opFlds, OpR.flds]
  | a :: os, k + 1, o, h => by
    have ih := op_set0 os (k := k) (o := o) (by simpa using h)
    simp only [opFlds] at ih ⊢
    rw [List.flatMap_cons, List.set_cons_succ, List.flatMap_cons, ← ih, Nat.succ_mul]
    rfl

set_option maxHeartbeats 1000000 in
theorem walkFnOpsPart (v : Value) (bs : List Int) (u : Value) (cs : List Int) (w : World) (h : Nums .u8 Any w v bs) (g : Nums .u8 Any w u cs) :
    Calls Tryd.prog 4 #[v, u] w fun e w' => e = .returned (.bool true) ∧ New w w' := by
  have h0 := h
  have g0 := g
  obtain ⟨a, c, rfl, h1, ⟨h2, -⟩, h3, h4⟩ := h
  obtain ⟨a', c', rfl, g1, ⟨g2, -⟩, g3, g4⟩ := g
  unfold maxLen at h2 g2
  clear h4 h3 g4 g3
  by_cases hl : 1048576 < bs.length ∨ 1048576 < cs.length
  · by_cases hl1 : 1048576 < bs.length
    · have hl' : (1048576 : Int) < bs.length := by omega
      go_enter Tryd.func4, Tryd.ntmps4
      go_wp2_with fail
      go_ret
      exact ⟨rfl, New.refl _⟩
    · have hl' : ¬ ((1048576 : Int) < bs.length) := by omega
      have hl2 : (1048576 : Int) < cs.length := by omega
      go_enter Tryd.func4, Tryd.ntmps4
      go_wp2_with fail
      go_ret
      exact ⟨rfl, New.refl _⟩
  · have hl1 : ¬ ((1048576 : Int) < bs.length) := by omega
    have hl2 : ¬ ((1048576 : Int) < cs.length) := by omega
    clear hl
    go_enter Tryd.func4, Tryd.ntmps4
    go_wp2_with fail
    refine (drawOpsValid _ bs w h0).mono ?_
    rintro e w1 ⟨v1, os, rfl, hs, hp, ho, n1⟩
    have hp' : ∀ o ∈ os, o.path.length ≤ 1048576 := fun o ho => by have := hp o ho; omega
    have Hp := Lib.hid hp'
    clear hp hp'
    go_wp2_with fail
    refine (implOps _ os _ (OwnRecs.recs ho) Hp.out).mono ?_
    rintro e w2 ⟨rfl, n2⟩
    go_wp2_with fail
    refine (specOps _ os _ (OwnRecs.recs (OwnRecs.new ho n2)) Hp.out).mono ?_
    rintro e w3 ⟨rfl, n3⟩
    have nn := (n1.trans n2).trans n3
    have ho3 := (OwnRecs.new ho n2).new n3
    clear ho n1 n2 n3
    rcases hr : opsOk os with _ | _
    · clear hr
      go_wp2_with fail
      go_ret
      exact ⟨rfl, nn⟩
    · have Hr := Lib.hid hr
      clear hr
      obtain ⟨us, r1, r2⟩ := OwnRecs.old ho3
      obtain ⟨ax, cx, e1, x1, x2, x3, -⟩ := r1.shape
      unfold maxLen at x2
      by_cases hnil : os.length = 0
      · subst e1
        have hne : (((os.length : Int) == 0)) = true := by simp [hnil]
        clear hnil
        go_wp2_with fail
        go_ret
        exact ⟨rfl, nn⟩
      · have hne : (((os.length : Int) == 0)) = false := by simp [hnil]
        have hpos : 0 < os.length := by omega
        clear hnil
        have hk : ∃ k : Nat, (cs.length : Int) % (os.length : Int) = (k : Int) ∧ k < os.length := ⟨cs.length % os.length, by simp, Nat.mod_lt _ hpos⟩
        obtain ⟨k, hk, hkl⟩ := hk
        obtain ⟨gb, cap, e2, hS, hgl, hc1, hc2⟩ := r1.head hpos
        subst e2
        simp only [Value.slice.injEq] at e1
        obtain ⟨rfl, -, rfl⟩ := e1
        have rd := r2.reads
        have r2' := rd.mono (fun (j : Nat) _ hj => (⟨hj.1.1, hj.1.2, fun e => hj.2 (congrArg some e)⟩ : w.heap.size ≤ j ∧ j < w3.heap.size ∧ gb ≠ j))
        have hone := rd.one
        have Hone := Lib.hid hone
        have Hx3 := Lib.hid x3
        clear x3 rd r2 hone
        go_wp2_with fail
        have hk1 : k ≤ cap := by omega
        have hk2 : (0 : Int) ≤ (k : Int) + 1 := by omega
        have hk3 : (k : Int) + 1 ≤ (os.length : Int) := by omega
        have hk4 : ((k : Int) + 1).toNat = k + 1 := by omega
        have hk5 : IntKind.i64.wrap ((k : Int) + 1) = (k : Int) + 1 := IntWalk.i64_in _ (by omega)
        refine wp_region_any (by kernel_rfl) ?_
        try (change wpAny _ _ _ _ _ _ _ (World.drew _))
        refine wpAny_take (i := 1) (v := ?_) rfl (by kernel_rfl) (by kernel_rfl) (by kernel_rfl) (fun _ _ _ h => h) (Or.inl ⟨by rfl, ?_⟩) ?_
        rotate_left
        · (intro w; go_simp); try with_reducible rfl
        refine wpAny_take (i := 2) (v := ?_) rfl (by kernel_rfl) (by kernel_rfl) (by kernel_rfl) (fun _ _ _ h => h) (Or.inl ⟨by rfl, ?_⟩) ?_
        rotate_left
        · (intro w; go_simp); try with_reducible rfl
        refine wpAny_take (i := 3) (v := ?_) rfl (by kernel_rfl) (by kernel_rfl) (by kernel_rfl) (fun _ _ _ h => h) (Or.inl ⟨by rfl, ?_⟩) ?_
        rotate_left
        · (intro w; go_simp); try with_reducible rfl
        refine wpAny_take (i := 5) (v := ?_) rfl (by kernel_rfl) (by kernel_rfl) (by kernel_rfl) (fun _ _ _ h => h) (Or.inl ⟨by rfl, ?_⟩) ?_
        rotate_left
        · (intro w; go_simp); try with_reducible rfl
        refine wpAny_take (i := 6) (v := ?_) rfl (by kernel_rfl) (by kernel_rfl) (by kernel_rfl) (fun _ _ _ h => h) (Or.inl ⟨by rfl, ?_⟩) ?_
        rotate_left
        · (intro w; go_simp); try with_reducible rfl
        refine wpAny_take (i := 7) (v := ?_) rfl (by kernel_rfl) (by kernel_rfl) (by kernel_rfl) (fun _ _ _ h => h) (Or.inl ⟨by rfl, ?_⟩) ?_
        rotate_left
        · (intro w; go_simp); try with_reducible rfl
        refine wpAny_take (i := 8) (v := ?_) rfl (by kernel_rfl) (by kernel_rfl) (by kernel_rfl) (fun _ _ _ h => h) (Or.inl ⟨by rfl, ?_⟩) ?_
        rotate_left
        · (intro w; go_simp); try with_reducible rfl
        have hsrc2 : ∀ W, New w3 W → Src W (if cap = k + 1 then some (⟨gb, 0, none⟩ : Addr) else some ⟨gb, (k + 1) * 3, none⟩) (os.length - (k + 1)) (cap - (k + 1)) 3 (us.drop ((k + 1) * 3)) := by
          intro W nW
          have r1' := r1.new nW
          have hx3 := Hx3.out
          by_cases hc : cap = k + 1
          · rw [if_pos hc]
            refine ⟨by simp [hx3]; omega, by simp, fun ad e j x hx => ?_⟩
            rw [List.drop_eq_nil_of_le (by rw [hx3]; omega)] at hx
            simp at hx
          · rw [if_neg hc]
            have hs := Row.src r1' (i := k + 1) (m := os.length - (k + 1)) (by omega) (cap - (k + 1))
            rw [List.take_of_length_le (by simp [hx3]; omega)] at hs
            exact hs
        have Src2 := Lib.hid hsrc2
        clear hsrc2
        generalize (if cap = k + 1 then some (⟨gb, 0, none⟩ : Addr) else some ⟨gb, (k + 1) * 3, none⟩) = ao at Src2 ⊢
        refine wpAny_ready (rs := [0]) (by kernel_rfl) (by simp) ?_
        refine AllReady.cons rfl (fun K hK => ?_) AllReady.nil
        go_simp
        refine hK _ _ ?_
        clear hK K
        refine wpAny_ready (rs := [4]) (by kernel_rfl) (by simp) ?_
        refine AllReady.cons rfl (fun K hK => ?_) AllReady.nil
        refine stepRow_append slOp _ _ rfl rfl (.slice (some ⟨w3.heap.size, 0, none⟩) 0 0) 0 [] rfl ((Row.empty 34 3 w3).new ((New.refl _).drew)) (some ⟨gb, 0, none⟩) k cap (us.take (k * 3)) rfl ?_ (fun u hu => Hone.out u (List.mem_of_mem_take hu)) ?_ ?_ ?_
        · have hs := Row.src (r1.new (((New.refl w3).alloc (.cells #[] 34)).drew)) (i := 0) (m := k) (by omega) cap
          rw [Nat.zero_mul, List.drop_zero] at hs
          exact hs
        · unfold maxLen; omega
        · omega
        intro v4 w4 o4 c4
        refine hK _ _ ?_
        clear hK K
        have n4 : New w3 w4 := (((New.refl _).alloc _).drew).trans_chg c4 (fun j hj e => by have e' := own_some e; simp only at e'; omega)
        refine wpAny_ready (rs := [9]) (by kernel_rfl) (by simp) ?_
        refine AllReady.cons rfl (fun K hK => ?_) AllReady.nil
        refine stepRow_append slOp _ _ rfl rfl v4 (0 + k) ([] ++ us.take (k * 3)) rfl o4 ao (os.length - (k + 1)) (cap - (k + 1)) (us.drop ((k + 1) * 3)) rfl (Src2.out _ n4) (fun u hu => Hone.out u (List.mem_of_mem_drop hu)) ?_ ?_ ?_
        · unfold maxLen; omega
        · omega
        intro v5 w5 o5 c5
        refine hK _ _ ?_
        clear hK K
        refine wpAny_take (i := 10) (v := ?_) rfl (by kernel_rfl) (by kernel_rfl) (by kernel_rfl) (fun _ _ _ h => h) (Or.inl ⟨by rfl, ?_⟩) ?_
        rotate_left
        · (intro w; go_simp); try with_reducible rfl
        refine wpAny_done (by kernel_rfl) ?_ _
        have hv4 : ∀ j, v4.ownBlock = some j → w3.heap.size ≤ j := fun j e => by
          rcases o4.2 j e with h | h
          · have h' := own_some h; simp only at h'; omega
          · simp at h; omega
        have n5 : New w3 w5 := n4.trans_chg c5 (fun j hj e => by have := hv4 j e; omega)
        have hv5 : ∀ j, v5.ownBlock = some j → w3.heap.size ≤ j := fun j e => by
          rcases o5.2 j e with h | h
          · exact hv4 j h
          · have := n4.size; omega
        rw [show 0 + k + (os.length - (k + 1)) = (os.take k ++ os.drop (k + 1)).length by simp; omega, List.nil_append] at o5
        have ops5 := ((r2'.new n5).take (k * 3)).append ((r2'.new n5).drop ((k + 1) * 3)) |>.recs o5
        have heq : List.take (k * 3) (opFlds os) ++ List.drop ((k + 1) * 3) (opFlds os) = opFlds (os.take k ++ os.drop (k + 1)) := by
          unfold opFlds
          rw [flds_take OpR.flds 3 (fun _ => rfl), flds_drop OpR.flds 3 (fun _ => rfl), List.flatMap_append]
        rw [heq] at ops5
        clear heq o4 c4 c5 hv4 Src2 n4 hv5 o5
        have ops6 := ops5.old
        clear ops5
        have r15 := r1.new n5
        have r25 := r2'.new n5
        have n05 := nn.trans n5
        have src5 := Row.src (r15.new (((New.refl w5).alloc (.cells #[] 34)))) (i := 0) (m := os.length) (by omega) cap
        rw [Nat.zero_mul, List.drop_zero, ← Hx3.out, List.take_length] at src5
        have Src5 := Lib.hid src5
        clear src5 r1 r2'
        have hk6 : (k : Int) < (os.length : Int) := by omega
        go_wp2_with first
          | fail
          | (refine wpRow_append slOp _ _ rfl rfl (.slice (some ⟨w5.heap.size, 0, none⟩) 0 0) 0 [] rfl (Row.empty 34 3 w5) (some ⟨gb, 0, none⟩) os.length cap us rfl Src5.out Hone.out ?_ ?_ ?_
             · unfold maxLen; omega
             · omega
             intro v6 w6 o6 c6
             have n6 : New w5 w6 := ((New.refl _).alloc _).trans_chg c6 (fun j hj e => by have e' := own_some e; simp only at e'; omega)
             rw [Nat.zero_add, List.nil_append] at o6
             obtain ⟨g6, cap6, e6, hS6, hg6, hc61, hc62⟩ := o6.head hpos
             subst e6
             have hu0 : ∃ u0, us[k * 3]? = some u0 := get_of (by have := Hx3.out; omega)
             obtain ⟨u0, hu0⟩ := hu0
             have hcell := o6.cellAt hu0
             have hfroz := o6.frozenAt (k * 3))
        have hw56 := n6.size
        have hg6' : w5.heap.size ≤ g6 := by
          rcases hS6 with h | h
          · have h' := own_some h; simp only at h'; omega
          · simp at h; omega
        have cs7 := chg_set1 w6 g6 (k * 3) (.int .i64 0)
        have ops7 := (ops6.new n6).chg cs7 (fun j _ hj e => by have := hj.2; omega)
        have n7 : New w (w6.setCell ⟨g6, k * 3, none⟩ (.int .i64 0)) := (n05.trans n6).trans_chg cs7 (fun j hj e => by have := n05.size; omega)
        have r7 := (r25.new n6).chg cs7 (fun j _ hj e => by have := n5.size; omega)
        have o7 := o6.set (k * 3) (.int .i64 0)
        obtain ⟨o, hok⟩ := get_of hkl
        have hset := op_set0 os hok
        have ops8 := (r7.set (g := .int 0) (show Fld.reads _ _ (.int .i64 0) (.int 0) from ⟨rfl, I64.mk (by omega) (by omega)⟩) (k * 3)).recs o7
        rw [hset] at ops8
        have Pok := fun i => Hp.out i
        have hp1 : ∀ i ∈ os.take k ++ os.drop (k + 1), i.path.length ≤ 1048576 := fun i hi => by
          rcases List.mem_append.1 hi with hi | hi
          · exact Hp.out i (List.mem_of_mem_take hi)
          · exact Hp.out i (List.mem_of_mem_drop hi)
        have hp2 : ∀ i ∈ os.set k { o with kind := 0 }, i.path.length ≤ 1048576 := fun i hi => by
          rcases List.mem_or_eq_of_mem_set hi with hi | rfl
          · exact Hp.out i hi
          · exact Hp.out o (List.mem_of_getElem? hok)
        have Hp1 := Lib.hid hp1
        have Hp2 := Lib.hid hp2
        have hno := ok_zero (o := o) hkl
        have Hno := Lib.hid hno
        clear hp1 hp2 Pok hset cs7 r7 o7 o6 hu0 hcell hfroz c6 n6 r25 r15 Src5 ops6 n05 n5 Hone hno
        refine (implOps _ _ _ ops7 Hp1.out).mono ?_
        rw [ok_erase Hr.out k]
        rintro e w8 ⟨rfl, n8⟩
        go_wp2_with fail
        have ops9 := ops8.new n8
        clear ops8 ops7
        refine (implOps _ (os.set k { o with kind := 0 }) _ (by rw [Ops, List.length_set]; exact ops9) Hp2.out).mono ?_
        rw [Hno.out]
        rintro e w9 ⟨rfl, n9⟩
        go_wp2_with fail
        go_ret
        exact ⟨rfl, (n7.trans n8).trans n9⟩

end Go.Proofs.YtpmcjbemicheoaaDoor
