/- StoreDrop: the reference's. -/
import Derived.Test.YtfhnhggmoplmiaaStoreKeepSpec
namespace Go.Proofs.Ytfhnhggmoplmiaa
open Go.RowKit

theorem Row.front {e sz : Nat} {S : Nat → Prop} {w : World} {g n cap : Nat} {us : List Value} (h : Row e sz S w (.slice (some ⟨g, 0, none⟩) n cap) n us) {i : Nat} (hi : i ≤ n) :
    Row e sz S w (.slice (some ⟨g, 0, none⟩) i cap) i (us.take (i * sz)) := by
  obtain ⟨⟨h1, h2⟩, hS⟩ := h
  rcases h2 with ⟨hv, _⟩ | ⟨g', cap', cur, hv, hb, hh, hn, hm, hs, ht⟩
  · simp at hv
  · simp only [Value.slice.injEq, Option.some.injEq, Addr.mk.injEq] at hv
    obtain ⟨⟨rfl, -, -⟩, -, rfl⟩ := hv
    have hmul : i * sz ≤ n * sz := Nat.mul_le_mul_right _ hi
    refine ⟨⟨by rw [List.length_take, h1, Nat.min_eq_left hmul], .inr ⟨g, cap, cur, rfl, hb, hh, by omega, hm, hs, ?_⟩⟩, fun k hk => hS k hk⟩
    rw [← ht, List.take_take, Nat.min_eq_left hmul]
theorem Fields.drop {w : World} : ∀ {vs : List Value} {fs : List Fld} {S : Nat → Prop} (m : Nat), Fields S w vs fs → Fields S w (vs.drop m) (fs.drop m)
  | _, _, _, 0, h => h
  | [], [], _, _ + 1, h => h
  | _ :: _, _ :: _, _, m + 1, h => (Fields.drop m h.2).mono fun _ _ hj => hj.1
  | [], _ :: _, _, _ + 1, h => h.elim
  | _ :: _, [], _, _ + 1, h => h.elim
theorem Fields.out {w : World} : ∀ {vs : List Value} {fs : List Fld} {S : Nat → Prop} (n m : Nat), n ≤ m → Fields S w vs fs → Fields S w (vs.take n ++ vs.drop m) (fs.take n ++ fs.drop m)
  | vs, fs, _, 0, m, _, h => by simpa using Fields.drop m h
  | [], [], _, n + 1, m, _, h => by simpa using h
  | v :: vs, f :: fs, S, n + 1, 0, hm, h => by omega
  | v :: vs, f :: fs, S, n + 1, m + 1, hm, h => ⟨h.1, Fields.out n m (by omega) h.2⟩
  | [], _ :: _, _, _ + 1, _, _, h => h.elim
  | _ :: _, [], _, _ + 1, _, _, h => h.elim

set_option maxRecDepth 4000 in
set_option maxHeartbeats 4000000 in
theorem specDropOut {S : Nat → Prop} (a : Option Addr) (c : Nat) (os : List HeldR) (k : Int) (w : World) (h0 : Helds S w (.slice a os.length c) os) {i : Nat} {o : HeldR}
    (hs : storeOk os = true) (ha : atH k os = some i) (ho : os[i]? = some o) (hc : o.uses = 1)
    (Hat : Hid (Calls Try.prog 65 #[.slice a os.length c, .int .i64 k] w fun e w' => e = .returned (.int .i64 (i : Int)) ∧ w = w'))
    (Hok : Hid (Calls Try.prog 36 #[.slice a os.length c] w fun e w' => e = .returned (.bool true) ∧ New w w')) :
    Calls Try.prog 39 #[.slice a os.length c, .int .i64 k] w (KeepPost (dropH k os) w) := by
  have hil := (List.getElem?_eq_some_iff.1 ho).1
  obtain ⟨s1, s2, s3⟩ := storeOk_all hs
  have hu := s2 o (List.mem_of_getElem? ho)
  have hr : dropH k os = some (os.take i ++ os.drop (i + 1)) := by rw [dropH, if_pos hs, ha]; simp only [ho, if_pos hc]
  have Hr := Lib.hid hr
  have hcopy := fun (W : World) (n : New w W) => specCopy (.slice a os.length c) os W (Recs.new h0 n) s1 (fun o ho => (blockOk_len (s2 o ho).2.2.2.2).2)
  have Hcopy := Lib.hid hcopy
  have hfl := (heldFlds_get ho).2.2
  rw [hc] at hfl
  have Hfl := Lib.hid hfl
  have S1 := Lib.hid s1
  clear hr hs ha s1 s2 s3 ho hcopy hfl hc
  go_enter Try.func39, Try.ntmps39
  go_wp2_with fail
  refine Hat.out.mono ?_
  rintro e w1 ⟨rfl, rfl⟩
  go_wp2_with fail
  refine Hok.out.mono ?_
  rintro e w2 ⟨rfl, n2⟩
  go_wp2_with fail
  refine (Hcopy.out w2 n2).mono ?_
  rintro e w3 ⟨v3, rfl, o3, n3⟩
  obtain ⟨b3, c3, u3, rfl, hS, hb3, k0, k1, ow⟩ := OwnRecs.at o3 Hfl.out
  obtain rfl : u3 = .int .i64 1 := ow.1
  obtain ⟨_, _, ev, x1, x2, x3⟩ := OwnRecs.shape o3
  simp only [Value.slice.injEq] at ev
  obtain ⟨-, -, rfl⟩ := ev
  obtain ⟨us, r1, r2⟩ := o3
  have hone := r2.reads.one
  have Hone := Lib.hid hone
  have hul : us.length = os.length * 3 := r1.1.1
  have Hul := Lib.hid hul
  have s1 := S1.out
  unfold maxLen at x2
  have hi1 : i ≤ c3 := by omega
  have hi2 : (0 : Int) ≤ (i : Int) + 1 := by omega
  have hi3 : (i : Int) + 1 ≤ (os.length : Int) := by omega
  have hi4 : ((i : Int) + 1).toNat = i + 1 := by omega
  have hi5 : IntKind.i64.wrap ((i : Int) + 1) = (i : Int) + 1 := IntWalk.i64_in _ (by omega)
  clear hone hul ow
  go_wp2_with fail
  refine wp_region_any (by kernel_rfl) ?_
  try (change wpAny _ _ _ _ _ _ _ (World.drew _))
  refine wpAny_take (i := 0) (v := ?_) rfl (by kernel_rfl) (by kernel_rfl) (by kernel_rfl) (fun _ _ _ h => h) (Or.inl ⟨by rfl, ?_⟩) ?_
  rotate_left
  · (intro w; go_simp); try with_reducible rfl
  refine wpAny_take (i := 1) (v := ?_) rfl (by kernel_rfl) (by kernel_rfl) (by kernel_rfl) (fun _ _ _ h => h) (Or.inl ⟨by rfl, ?_⟩) ?_
  rotate_left
  · (intro w; go_simp); try with_reducible rfl
  refine wpAny_take (i := 2) (v := ?_) rfl (by kernel_rfl) (by kernel_rfl) (by kernel_rfl) (fun _ _ _ h => h) (Or.inl ⟨by rfl, ?_⟩) ?_
  rotate_left
  · (intro w; go_simp); try with_reducible rfl
  refine wpAny_take (i := 3) (v := ?_) rfl (by kernel_rfl) (by kernel_rfl) (by kernel_rfl) (fun _ _ _ h => h) (Or.inl ⟨by rfl, ?_⟩) ?_
  rotate_left
  · (intro w; go_simp); try with_reducible rfl
  refine wpAny_take (i := 4) (v := ?_) rfl (by kernel_rfl) (by kernel_rfl) (by kernel_rfl) (fun _ _ _ h => h) (Or.inl ⟨by rfl, ?_⟩) ?_
  rotate_left
  · (intro w; go_simp); try with_reducible rfl
  refine wpAny_take (i := 5) (v := ?_) rfl (by kernel_rfl) (by kernel_rfl) (by kernel_rfl) (fun _ _ _ h => h) (Or.inl ⟨by rfl, ?_⟩) ?_
  rotate_left
  · (intro w; go_simp); try with_reducible rfl
  refine wpAny_ready (rs := [6]) (by kernel_rfl) (by simp) ?_
  refine AllReady.cons rfl (fun K hK => ?_) AllReady.nil
  go_simp
  refine hK _ _ ?_
  clear hK K
  have hsrc2 : Src w3.drew (if c3 = i + 1 then some (⟨b3, 0, none⟩ : Addr) else some ⟨b3, (i + 1) * 3, none⟩) (os.length - (i + 1)) (c3 - (i + 1)) 3 (us.drop ((i + 1) * 3)) := by
    have r1' := r1.new ((New.refl w3).drew)
    have hx3 := Hul.out
    by_cases hc : c3 = i + 1
    · rw [if_pos hc]
      refine ⟨by simp [hx3]; omega, by simp, fun ad e j x hx => ?_⟩
      rw [List.drop_eq_nil_of_le (by rw [hx3]; omega)] at hx
      simp at hx
    · rw [if_neg hc]
      have hs := Row.src r1' (i := i + 1) (m := os.length - (i + 1)) (by omega) (c3 - (i + 1))
      rw [List.take_of_length_le (by simp [hx3]; omega)] at hs
      exact hs
  have Src2 := Lib.hid hsrc2
  clear hsrc2
  generalize (if c3 = i + 1 then some (⟨b3, 0, none⟩ : Addr) else some ⟨b3, (i + 1) * 3, none⟩) = ao at Src2 ⊢
  refine wpAny_ready (rs := [7]) (by kernel_rfl) (by simp) ?_
  refine AllReady.cons rfl (fun K hK => ?_) AllReady.nil
  refine stepRow_append slHeld _ _ rfl rfl (.slice (some ⟨b3, 0, none⟩) i c3) i (us.take (i * 3)) rfl ((r1.new ((New.refl w3).drew)).front (by omega)) ao (os.length - (i + 1)) (c3 - (i + 1)) (us.drop ((i + 1) * 3)) rfl Src2.out (fun u hu => Hone.out u (List.mem_of_mem_drop hu)) ?_ ?_ ?_
  · unfold maxLen; omega
  · omega
  intro v5 w5 o5 c5
  refine hK _ _ ?_
  clear hK K
  refine wpAny_take (i := 8) (v := ?_) rfl (by kernel_rfl) (by kernel_rfl) (by kernel_rfl) (fun _ _ _ h => h) (Or.inl ⟨by rfl, ?_⟩) ?_
  rotate_left
  · (intro w; go_simp); try with_reducible rfl
  refine wpAny_take (i := 9) (v := ?_) rfl (by kernel_rfl) (by kernel_rfl) (by kernel_rfl) (fun _ _ _ h => h) (Or.inl ⟨by rfl, ?_⟩) ?_
  rotate_left
  · (intro w; go_simp); try with_reducible rfl
  refine wpAny_done (by kernel_rfl) ?_ _
  have hdz : w3.drew.heap.size = w3.heap.size := rfl
  have n35 : New w w5 := ((n2.trans n3).drew).trans_chg c5 (fun j hj e => by have e' := own_some e; simp only at e'; have := n2.size; have h' : w2.heap.size ≤ b3 := hS; omega)
  have hf := Fields.out (i * 3) ((i + 1) * 3) (by omega) r2.old
  have heq : List.take (i * 3) (heldFlds os) ++ List.drop ((i + 1) * 3) (heldFlds os) = heldFlds (os.take i ++ os.drop (i + 1)) := by
    unfold heldFlds
    rw [flds_take HeldR.flds 3 (fun _ => rfl), flds_drop HeldR.flds 3 (fun _ => rfl), List.flatMap_append]
  rw [heq] at hf
  have hf5 := (hf.new ((New.refl w3).drew)).chg c5 (fun j _ hj e => hj.1.2 (by have e' := own_some e; simp only at e'; simp [Value.ownBlock, e']))
  have ol : OwnHelds (fun j => w.heap.size ≤ j) w5 v5 (os.take i ++ os.drop (i + 1)) := by
    unfold OwnHelds
    rw [show (os.take i ++ os.drop (i + 1)).length = i + (os.length - (i + 1)) by simp; omega]
    refine ⟨_, o5.mono (fun j _ hj => ?_), hf5.mono (fun j _ hj => ⟨?_, fun e => ?_⟩)⟩
    · have := n2.size; have := n3.size; have h' : w2.heap.size ≤ b3 := hS
      rcases hj with hj | hj
      · have e' := own_some hj; simp only at e'; omega
      · rw [hdz] at hj; omega
    · have := n2.size; have h' : w2.heap.size ≤ j := hj.1.1; omega
    · rcases o5.2 j e with h | h
      · exact hj.1.2 (by have e' := own_some h; simp only at e'; simp [Value.ownBlock, e'])
      · have h' : j < w3.heap.size := hj.2
        rw [hdz] at h; omega
  clear hf hf5 heq o5 c5 r1 r2 Src2 Hone
  go_wp2_with fail
  go_ret2
  rw [Hr.out]
  exact ⟨_, rfl, ol, n35⟩


set_option maxRecDepth 4000 in
set_option maxHeartbeats 2000000 in
theorem specStoreDrop {S : Nat → Prop} (v : Value) (os : List HeldR) (k : Int) (w : World) (h : Helds S w v os) :
    Calls Try.prog 39 #[v, .int .i64 k] w (KeepPost (dropH k os) w) := by
  have h0 := h
  have hat := specAt v os k w h
  have hok := specStoreValid v os w h
  obtain ⟨-, a, c, rfl, h1, h2, -⟩ := h
  unfold maxLen at h2
  have Hat := Lib.hid hat
  have Hok := Lib.hid hok
  clear hat hok
  rcases hs : storeOk os with _ | _
  · have hr : dropH k os = none := by rw [dropH, if_neg (by rw [hs]; simp)]
    rw [hs] at Hok
    have Hr := Lib.hid hr
    clear hr hs
    go_enter Try.func39, Try.ntmps39
    go_wp2_with fail
    refine Hat.out.mono ?_
    rintro e w1 ⟨rfl, rfl⟩
    go_wp2_with fail
    refine Hok.out.mono ?_
    rintro e w2 ⟨rfl, n2⟩
    go_wp2_with fail
    go_ret2
    exact NoneAt.keep Hr.out (none_made n2)
  · rw [hs] at Hok
    rcases atH_cases k os with ⟨ha, -⟩ | ⟨i, o, ha, ho, hid⟩
    · have hr : dropH k os = none := by rw [dropH, if_pos hs, ha]
      rw [ha, placeOf] at Hat
      have Hr := Lib.hid hr
      clear hr hs ha
      go_enter Try.func39, Try.ntmps39
      go_wp2_with fail
      refine Hat.out.mono ?_
      rintro e w1 ⟨rfl, rfl⟩
      go_wp2_with fail
      refine Hok.out.mono ?_
      rintro e w2 ⟨rfl, n2⟩
      go_wp2_with fail
      go_ret2
      exact NoneAt.keep Hr.out (none_made n2)
    · rw [ha, placeOf] at Hat
      have hil := (List.getElem?_eq_some_iff.1 ho).1
      have hoc := fun (W : World) (n : New w W) => Helds.at (Recs.new h0 n) ho
      have Hoc := Lib.hid hoc
      obtain ⟨s1, s2, s3⟩ := storeOk_all hs
      have hu := s2 o (List.mem_of_getElem? ho)
      by_cases hc : o.uses = 1
      · exact specDropOut a c os k w h0 hs ha ho hc Hat Hok
      · have hr : dropH k os = some (os.set i { o with uses := o.uses - 1 }) := by rw [dropH, if_pos hs, ha]; simp only [ho, if_neg hc]
        have Hr := Lib.hid hr
        have hb2 : (o.uses == 1) = false := by simpa using hc
        have hcopy := fun (W : World) (n : New w W) => specCopy (.slice a os.length c) os W (Recs.new h0 n) s1 (fun o ho => (blockOk_len (s2 o ho).2.2.2.2).2)
        have Hcopy := Lib.hid hcopy
        have hset := held_set2 (y := o.uses - 1) os ho
        have Hset := Lib.hid hset
        have hfl := (heldFlds_get ho).2.2
        have Hfl := Lib.hid hfl
        clear hr hs ha s1 s2 s3 ho hoc hcopy hset hfl hc
        go_enter Try.func39, Try.ntmps39
        go_wp2_with fail
        refine Hat.out.mono ?_
        rintro e w1 ⟨rfl, rfl⟩
        go_wp2_with fail
        refine Hok.out.mono ?_
        rintro e w2 ⟨rfl, n2⟩
        obtain ⟨b, off, c', u, e1, hb, c0, c1, c2, i0, i2, r2⟩ := Hoc.out w2 n2
        simp only [Value.slice.injEq] at e1
        obtain ⟨rfl, -, rfl⟩ := e1
        clear r2
        go_wp2_with fail
        refine (Hcopy.out w2 n2).mono ?_
        rintro e w3 ⟨v3, rfl, o3, n3⟩
        obtain ⟨b3, c3, u3, rfl, hS, hb3, k0, k1, -⟩ := OwnRecs.at o3 Hfl.out
        have o4 := OwnRecs.putInt (y := o.uses - 1) o3 Hfl.out (I64.mk (by omega) (by omega))
        rw [Hset.out] at o4
        have cs := chg_set1 w3 b3 (i * 3 + 2) (.int .i64 (o.uses - 1))
        obtain ⟨_, _, ev, x1, x2, -⟩ := OwnRecs.shape o3
        simp only [Value.slice.injEq] at ev
        obtain ⟨-, -, rfl⟩ := ev
        unfold maxLen at x2
        have k0' : u3 = .int .i64 o.uses := by
          obtain ⟨_, _, u4, ev, -, -, k4, -, ow⟩ := OwnRecs.at o3 Hfl.out
          simp only [Value.slice.injEq, Option.some.injEq, Addr.mk.injEq] at ev
          obtain ⟨⟨rfl, -, -⟩, -, rfl⟩ := ev
          rw [k0] at k4
          rw [Option.some.inj k4]
          exact ow.1
        subst k0'
        have n4 : New w (w3.setCell ⟨b3, i * 3 + 2, none⟩ (.int .i64 (o.uses - 1))) := (n2.trans n3).trans_chg cs (fun j hj e => by have := n2.size; have h' : w2.heap.size ≤ b3 := hS; omega)
        have o5 : OwnHelds (fun j => w.heap.size ≤ j) (w3.setCell ⟨b3, i * 3 + 2, none⟩ (.int .i64 (o.uses - 1))) (.slice (some ⟨b3, 0, none⟩) os.length c3) (os.set i { o with uses := o.uses - 1 }) := by
          unfold OwnHelds
          rw [List.length_set]
          exact o4.mono (fun j _ hj => by have := n2.size; omega)
        clear o3 o4 cs c0 c1 c2
        go_wp2_with fail
        go_ret2
        rw [Hr.out]
        exact ⟨_, rfl, o5, n4⟩
end Go.Proofs.Ytfhnhggmoplmiaa
