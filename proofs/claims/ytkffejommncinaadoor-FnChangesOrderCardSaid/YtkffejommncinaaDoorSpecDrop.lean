/- The reference's l5All, TreeDrop. -/
import Derived.Test.YtkffejommncinaaDoorImplDrop
import Derived.Test.YtkffejommncinaaDoorSpecFind
import Derived.Test.YtkffejommncinaaDoorBaseA
namespace Go.Proofs.YtkffejommncinaaDoor
open Go.RowKit

set_option maxRecDepth 4000 in
set_option maxHeartbeats 1000000 in
theorem specAll {S : Nat → Prop} (v : Value) (os : List ItemR) (w : World) (h : Items S w v os) (hl : os.length ≤ 1000) (hall : ∀ o ∈ os, o.size ≤ 1048576) :
    Calls Tryd.prog 55 #[v] w (ToItemsPost os w) := by
  have h0 := h
  have hat := fun (W : World) (n : New w W) (k : Nat) (o : ItemR) (ho : os[k]? = some o) => Items.at (Recs.new h0 n) ho
  have n0 : New w (w.alloc (.cells #[] 28)) := (New.refl _).alloc _
  have o0 : OwnItems (fun j => w.heap.size ≤ j) (w.alloc (.cells #[] 28)) (.slice (some ⟨w.heap.size, 0, none⟩) 0 0) [] := OwnRecs.empty _ _ _
  have Hat := Lib.hid hat
  have Hall := Lib.hid hall
  have N0 := Lib.hid n0
  have O0 := Lib.hid o0
  obtain ⟨-, a, c, rfl, h1, h2, -⟩ := h
  unfold maxLen at h2
  clear hat hall n0 o0 h0
  go_enter Tryd.func55, Tryd.ntmps55
  go_wp2_with fail
  go_loopg [3, 4] os.length (fun gk s3 i wr => ∃ (k : Nat), gk = os.length - k ∧ k ≤ os.length ∧ i = .int .i64 k ∧ New w wr ∧ Hid (OwnItems (fun j => w.heap.size ≤ j) wr s3 (os.take k)))
  case atStart => exact ⟨0, by omega, by omega, rfl, N0.out, O0⟩
  case round =>
    obtain ⟨k, hgk, hk, rfl, hn, ho⟩ := hrel
    have Hgk := Lib.hid hgk
    clear hgk O0 N0
    by_cases hlt : k < os.length
    · obtain ⟨o, hx⟩ := get_of hlt
      obtain ⟨b, off, c', u, e1, hb, c0, c1, c2, lp, r2⟩ := Hat.out wr hn k o hx
      simp only [Value.slice.injEq] at e1
      obtain ⟨rfl, -, rfl⟩ := e1
      have hos := Hall.out o (List.mem_of_getElem? hx)
      have htk : os.take (k + 1) = os.take k ++ [o] := by
        obtain ⟨hk', e⟩ := List.getElem?_eq_some_iff.1 hx
        rw [List.take_succ_eq_append_getElem hk', e]
      have htl : (os.take k).length = k := by simp; omega
      have hcp := specCopy o u wr r2 (by unfold ItemR.size at hos; omega)
      unfold txt at c0 hcp
      have Hcp := Lib.hid hcp
      generalize hD : os.take k = D at *
      have Htk := Lib.hid htk
      obtain ⟨us, r1, f1⟩ := OwnRecs.old ho.out
      obtain ⟨av, cv, rfl, x1, x2, -, -⟩ := r1.shape
      unfold maxLen at x2
      have R1 := Lib.hid r1
      have F1 := Lib.hid f1
      have z0 := hn.size
      have hdb : D.length ≤ 1000 := by omega
      clear hcp htk hx r2 ho r1 f1 hD htl
      go_wp2_with fail
      refine Hcp.out.mono ?_
      rintro e w2 ⟨u2, rfl, o2, n2⟩
      unfold txt
      obtain ⟨a2, d2, rfl, -⟩ := o2.shape
      have z2 := n2.size
      have R2 := Lib.hid (R1.out.new n2)
      have F2 := Lib.hid (F1.out.new n2)
      have O2 := Lib.hid o2
      clear o2 R1 F1
      go_wp2_with first
        | (at_builtin
           refine wpRow_appendRec slItem _ _ rfl rfl (.slice av D.length cv) D.length us [.string ⟨o.path.toArray⟩, .bool o.dir, .slice a2 o.ids.length d2] 28 rfl R2.out rfl (by intro u hu; simp at hu; rcases hu with rfl | rfl | rfl <;> rfl) rfl (by omega) (by decide) ?_
           intro v4 w4 q4 c4)
        | fail
      have o4 := own_snoc (o := o) R2.out F2.out (OwnI.of O2.out) lp q4 c4 z0 z2
      have n4 : New w w4 := (hn.trans n2).trans_chg c4 (fun j hj e => by have := (R2.out.2 j e).1; omega)
      go_roundg (os.length - (k + 1))
      case measure => rw [Hgk.out]; omega
      case rel =>
        refine ⟨k + 1, rfl, by omega, by go_num, n4, Lib.hid ?_⟩
        rw [Htk.out]
        exact o4
    · have ek : os.take k = os := List.take_of_length_le (by omega)
      rw [ek] at ho
      have ho' := ho.out
      obtain ⟨av, cv, rfl, -⟩ := OwnRecs.shape ho'
      clear ek ho'
      go_wp2_with fail
      go_ret
      exact ⟨_, rfl, ho.out, hn⟩

theorem atI_drop {os : List ItemR} {i : Nat} {z : ItemR} (h : Asc os) (hz : os[i]? = some z) : os.take i ++ os.drop (i + 1) = dropS z.path os := (drop_at h hz).symm
set_option maxRecDepth 4000 in
set_option maxHeartbeats 4000000 in
theorem specTreeDrop {S : Nat → Prop} (v : Value) (os : List ItemR) (p : List UInt8) (w : World) (h : Items S w v os) (hall : ∀ o ∈ os, o.size ≤ 1048576) :
    Calls Tryd.prog 22 #[v, txt p] w (TreesPost (dropR os p) w) := by
  have h0 := h
  have hsv := fun (W : World) (n : New w W) => specValid v os W (Recs.new h0 n) hall
  have hsa := fun (W : World) (n : New w W) => specAt v os p W (Recs.new h0 n)
  obtain ⟨-, a, c, rfl, h1, h2, -⟩ := h
  unfold maxLen at h2
  unfold txt at hsa ⊢
  rcases hk : treeOk os with _ | _
  · have hr : dropR os p = none := by unfold dropR; rw [hk]; rfl
    rw [hk] at hsv
    rw [hr]
    have Hsv := Lib.hid hsv
    have Hsa := Lib.hid hsa
    generalize atI os p = r at *
    clear hk hr hsv hsa h0
    go_enter Tryd.func22, Tryd.ntmps22
    go_wp2_with fail
    refine (Hsa.out _ (New.refl _)).mono ?_
    rintro e w1 ⟨rfl, rfl⟩
    go_wp2_with fail
    refine (Hsv.out _ (New.refl _)).mono ?_
    rintro e w2 ⟨rfl, n2⟩
    go_wp2_with fail
    go_ret2
    exact ⟨_, rfl, OwnRecs.mono (OwnRecs.empty _ _ _) (fun j _ hj => by have := n2.size; omega), n2.alloc _⟩
  · obtain ⟨hT, h12⟩ := treeOk_p hk
    rw [hk] at hsv
    rcases atI_cases os p with ⟨e1, e2⟩ | ⟨i, z, e1, e2, e3, e4⟩
    · have hr : dropR os p = none := by unfold dropR; rw [e2]; simp
      rw [hr]
      rw [e1] at hsa
      have Hsv := Lib.hid hsv
      have Hsa := Lib.hid hsa
      clear hk hr hsv hsa h0 e1 e2 hT
      go_enter Tryd.func22, Tryd.ntmps22
      go_wp2_with fail
      refine (Hsa.out _ (New.refl _)).mono ?_
      rintro e w1 ⟨rfl, rfl⟩
      go_wp2_with fail
      refine (Hsv.out _ (New.refl _)).mono ?_
      rintro e w2 ⟨rfl, n2⟩
      go_wp2_with fail
      go_ret2
      exact ⟨_, rfl, OwnRecs.mono (OwnRecs.empty _ _ _) (fun j _ hj => by have := n2.size; omega), n2.alloc _⟩
    · have hzm := List.mem_of_getElem? e2
      subst e3
      have hil := (List.getElem?_eq_some_iff.1 e2).1
      have hd := atI_drop hT.asc e2
      have hok := drop_iff hk hzm
      have hr : dropR os z.path = if treeOk (dropS z.path os) = true then some (dropS z.path os) else none := by
        unfold dropR
        rw [hk, e4, hok]; simp
      have Hr := Lib.hid hr
      have Hd := Lib.hid hd
      have hall2 : ∀ o ∈ dropS z.path os, o.size ≤ 1048576 := fun o ho => hall o (mem_drop.1 ho).1
      have Hall2 := Lib.hid hall2
      have hlen2 : (dropS z.path os).length = i + (os.length - (i + 1)) := by rw [← hd]; simp; omega
      have Hlen2 := Lib.hid hlen2
      have hcopy := fun (W : World) (n : New w W) => specAll (.slice a os.length c) os W (Recs.new h0 n) (by omega) hall
      have Hcopy := Lib.hid hcopy
      rw [e1] at hsa
      have Hsv := Lib.hid hsv
      have Hsa := Lib.hid hsa
      clear hk hr hsv hsa h0 e1 e2 e4 hT hzm hd hok hall2 hlen2 hcopy
      go_enter Tryd.func22, Tryd.ntmps22
      go_wp2_with fail
      refine (Hsa.out _ (New.refl _)).mono ?_
      rintro e w1 ⟨rfl, rfl⟩
      go_wp2_with fail
      refine (Hsv.out _ (New.refl _)).mono ?_
      rintro e w2 ⟨rfl, n2⟩
      go_wp2_with fail
      refine (Hcopy.out w2 n2).mono ?_
      rintro e w3 ⟨v3, rfl, o3, n3⟩
      obtain ⟨us, r1, r2⟩ := o3
      obtain ⟨b3, c3, rfl, hS, hb3, x1, x2⟩ := r1.head (by omega)
      unfold maxLen at x2
      have hone := r2.reads.one
      have Hone := Lib.hid hone
      have hul : us.length = os.length * 3 := r1.1.1
      have Hul := Lib.hid hul
      have hi1 : i ≤ c3 := by omega
      have hi2 : (0 : Int) ≤ (i : Int) + 1 := by omega
      have hi3 : (i : Int) + 1 ≤ (os.length : Int) := by omega
      have hi4 : ((i : Int) + 1).toNat = i + 1 := by omega
      have hi5 : IntKind.i64.wrap ((i : Int) + 1) = (i : Int) + 1 := IntWalk.i64_in _ (by omega)
      clear hone hul
      go_wp2_with fail
      refine wp_region_any (by kernel_rfl) ?_
      try (change wpAny _ _ _ _ _ _ _ (World.drew _))
      refine wpAny_take (i := 0) (v := ?_) rfl (by kernel_rfl) (by kernel_rfl) (by kernel_rfl) (fun _ _ _ h => h) (Or.inl ⟨by rfl, ?_⟩) ?_
      rotate_left
      · (intro w; go_simp); try with_reducible rfl
      refine wpAny_take (i := 1) (v := ?_) rfl (by kernel_rfl) (by kernel_rfl) (by kernel_rfl) (fun _ _ _ h => h) (Or.inl ⟨by rfl, ?_⟩) ?_
      rotate_left
      · (intro w; go_simp); try with_reducible rfl
      refine wpAny_take (i := 2) (v := ?_) rfl (by kernel_rfl) (by kernel_rfl) (by kernel_rfl) (fun _ _ _ h => h) (Or.inl ⟨by rfl, ?_⟩) ?_
      rotate_left
      · (intro w; go_simp); try with_reducible rfl
      refine wpAny_take (i := 3) (v := ?_) rfl (by kernel_rfl) (by kernel_rfl) (by kernel_rfl) (fun _ _ _ h => h) (Or.inl ⟨by rfl, ?_⟩) ?_
      rotate_left
      · (intro w; go_simp); try with_reducible rfl
      refine wpAny_take (i := 4) (v := ?_) rfl (by kernel_rfl) (by kernel_rfl) (by kernel_rfl) (fun _ _ _ h => h) (Or.inl ⟨by rfl, ?_⟩) ?_
      rotate_left
      · (intro w; go_simp); try with_reducible rfl
      refine wpAny_take (i := 5) (v := ?_) rfl (by kernel_rfl) (by kernel_rfl) (by kernel_rfl) (fun _ _ _ h => h) (Or.inl ⟨by rfl, ?_⟩) ?_
      rotate_left
      · (intro w; go_simp); try with_reducible rfl
      refine wpAny_ready (rs := [6]) (by kernel_rfl) (by simp) ?_
      refine AllReady.cons rfl (fun K hK => ?_) AllReady.nil
      go_simp
      refine hK _ _ ?_
      clear hK K
      have hsrc2 : Src w3.drew (if c3 = i + 1 then some (⟨b3, 0, none⟩ : Addr) else some ⟨b3, (i + 1) * 3, none⟩) (os.length - (i + 1)) (c3 - (i + 1)) 3 (us.drop ((i + 1) * 3)) := by
        have r1' := r1.new ((New.refl w3).drew)
        have hx3 := Hul.out
        by_cases hc : c3 = i + 1
        · rw [if_pos hc]
          refine ⟨by simp [hx3]; omega, by simp, fun ad e j x hx => ?_⟩
          rw [List.drop_eq_nil_of_le (by rw [hx3]; omega)] at hx
          simp at hx
        · rw [if_neg hc]
          have hs := Row.src r1' (i := i + 1) (m := os.length - (i + 1)) (by omega) (c3 - (i + 1))
          rw [List.take_of_length_le (by simp [hx3]; omega)] at hs
          exact hs
      have Src2 := Lib.hid hsrc2
      clear hsrc2
      generalize (if c3 = i + 1 then some (⟨b3, 0, none⟩ : Addr) else some ⟨b3, (i + 1) * 3, none⟩) = ao at Src2 ⊢
      refine wpAny_ready (rs := [7]) (by kernel_rfl) (by simp) ?_
      refine AllReady.cons rfl (fun K hK => ?_) AllReady.nil
      refine stepRow_append slItem _ _ rfl rfl (.slice (some ⟨b3, 0, none⟩) i c3) i (us.take (i * 3)) rfl ((r1.new ((New.refl w3).drew)).front (by omega)) ao (os.length - (i + 1)) (c3 - (i + 1)) (us.drop ((i + 1) * 3)) rfl Src2.out (fun u hu => Hone.out u (List.mem_of_mem_drop hu)) ?_ ?_ ?_
      · unfold maxLen; omega
      · omega
      intro v5 w5 o5 c5
      refine hK _ _ ?_
      clear hK K
      refine wpAny_take (i := 8) (v := ?_) rfl (by kernel_rfl) (by kernel_rfl) (by kernel_rfl) (fun _ _ _ h => h) (Or.inl ⟨by rfl, ?_⟩) ?_
      rotate_left
      · (intro w; go_simp); try with_reducible rfl
      refine wpAny_done (by kernel_rfl) ?_ _
      have hdz : w3.drew.heap.size = w3.heap.size := rfl
      have n35 : New w w5 := ((n2.trans n3).drew).trans_chg c5 (fun j hj e => by have e' := own_some e; simp only at e'; have := n2.size; have h' : w2.heap.size ≤ b3 := hS; omega)
      have hf := Fields.out (i * 3) ((i + 1) * 3) (by omega) r2.old
      have heq : List.take (i * 3) (itemFlds os) ++ List.drop ((i + 1) * 3) (itemFlds os) = itemFlds (dropS z.path os) := by
        rw [← Hd.out]
        unfold itemFlds
        rw [flds_take ItemR.flds 3 (fun _ => rfl), flds_drop ItemR.flds 3 (fun _ => rfl), List.flatMap_append]
      rw [heq] at hf
      have hf5 := (hf.new ((New.refl w3).drew)).chg c5 (fun j _ hj e => hj.1.2 (by have e' := own_some e; simp only at e'; simp [Value.ownBlock, e']))
      have ol : OwnItems (fun j => w.heap.size ≤ j) w5 v5 (dropS z.path os) := by
        unfold OwnItems
        rw [Hlen2.out]
        refine ⟨_, o5.mono (fun j _ hj => ?_), hf5.mono (fun j _ hj => ⟨?_, fun e => ?_⟩)⟩
        · have := n2.size; have := n3.size; have h' : w2.heap.size ≤ b3 := hS
          rcases hj with hj | hj
          · have e' := own_some hj; simp only at e'; omega
          · rw [hdz] at hj; omega
        · have := n2.size; have h' : w2.heap.size ≤ j := hj.1.1; omega
        · rcases o5.2 j e with h | h
          · exact hj.1.2 (by have e' := own_some h; simp only at e'; simp [Value.ownBlock, e'])
          · have h' : j < w3.heap.size := hj.2
            rw [hdz] at h; omega
      have hval := fun (W : World) (n : New w5 W) => specValid v5 (dropS z.path os) W (Recs.new ol.recs n) Hall2.out
      obtain ⟨a5, c5', rfl, -⟩ := OwnRecs.shape ol
      have Ol := Lib.hid ol
      rcases hk2 : treeOk (dropS z.path os) with _ | _
      · rw [hk2] at hval
        have hr2 := Hr.out
        rw [hk2] at hr2
        have Hr2 := Lib.hid hr2
        have Hval := Lib.hid hval
        clear hf hf5 heq o5 c5 r1 r2 Src2 Hone hval ol hr2 hk2
        go_wp2_with fail
        refine (Hval.out _ (New.refl _)).mono ?_
        rintro e w6 ⟨rfl, n6⟩
        go_wp2_with fail
        go_ret2
        rw [Hr2.out]
        exact ⟨_, rfl, OwnRecs.mono (OwnRecs.empty _ _ _) (fun j _ hj => by have := (n35.trans n6).size; omega), (n35.trans n6).alloc _⟩
      · rw [hk2] at hval
        have hr2 := Hr.out
        rw [hk2] at hr2
        have Hr2 := Lib.hid hr2
        have Hval := Lib.hid hval
        clear hf hf5 heq o5 c5 r1 r2 Src2 Hone hval ol hr2 hk2
        go_wp2_with fail
        refine (Hval.out _ (New.refl _)).mono ?_
        rintro e w6 ⟨rfl, n6⟩
        go_wp2_with fail
        go_ret2
        rw [Hr2.out]
        exact ⟨_, rfl, OwnRecs.new Ol.out n6, n35.trans n6⟩
end Go.Proofs.YtkffejommncinaaDoor
