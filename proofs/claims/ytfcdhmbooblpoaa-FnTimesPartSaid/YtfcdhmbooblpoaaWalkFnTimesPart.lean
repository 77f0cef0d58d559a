/- The walk of FnTimesPart. -/
import Derived.Test.YtfcdhmbooblpoaaTv
import Derived.Test.YtfcdhmbooblpoaaTimesDraw
import Derived.Deep.RegionLaw
namespace Go.Proofs.Ytfcdhmbooblpoaa
open Go.RowKit

theorem tv_mono : ∀ (xs : List Int) (p q : Int), p ≤ q → tvFrom q xs = true → tvFrom p xs = true
  | [], _, _, _, _ => rfl
  | x :: xs, p, q, h, ht => by
    rw [tvFrom] at ht ⊢
    split at ht
    · simp at ht
    · rw [if_neg (by omega)]; exact ht
theorem tv_erase : ∀ (xs : List Int) (k : Nat) (q : Int), tvFrom q xs = true → tvFrom q (xs.take k ++ xs.drop (k + 1)) = true
  | [], _, _, _ => by simp [tvFrom]
  | x :: xs, 0, q, h => by
    rw [tvFrom] at h
    split at h
    · simp at h
    · rename_i hc
      exact tv_mono xs q x (by omega) h
  | x :: xs, k + 1, q, h => by
    rw [tvFrom] at h
    split at h
    · simp at h
    · rename_i hc
      simp only [List.take_succ_cons, List.drop_succ_cons, List.cons_append]
      rw [tvFrom, if_neg hc]
      exact tv_erase xs k x h
theorem tv_twice : ∀ (xs : List Int) (k : Nat) (q : Int), k < xs.length → tvFrom q (xs.take (k + 1) ++ xs.drop k) = false
  | [], _, _, h => by simp at h
  | x :: xs, 0, q, _ => by
    simp only [Nat.zero_add, List.take_succ_cons, List.take_zero, List.drop_zero, List.cons_append, List.nil_append]
    rw [tvFrom]
    split
    · rfl
    · rw [tvFrom, if_pos (by omega)]
  | x :: xs, k + 1, q, h => by
    simp only [List.take_succ_cons, List.drop_succ_cons, List.cons_append]
    rw [tvFrom]
    split
    · rfl
    · exact tv_twice xs k x (by simpa using h)
theorem ok_erase {xs : List Int} (h : timesOk xs = true) (k : Nat) (hk : k < xs.length) : timesOk (xs.take k ++ xs.drop (k + 1)) = true := by
  simp only [timesOk, Bool.and_eq_true, decide_eq_true_eq] at h ⊢
  exact ⟨by simp; omega, tv_erase _ _ _ h.2⟩
theorem ok_twice {xs : List Int} (k : Nat) (hk : k < xs.length) : timesOk (xs.take (k + 1) ++ xs.drop k) = false := by
  simp [timesOk, tv_twice xs k _ hk]

set_option maxHeartbeats 400000 in
theorem walkFnTimesPart (v : Value) (bs : List Int) (u : Value) (cs : List Int) (w : World) (h : Nums .u8 Any w v bs) (g : Nums .u8 Any w u cs) :
    Calls Try.prog 4 #[v, u] w fun e w' => e = .returned (.bool true) ∧ New w w' := by
  have h0 := h
  have g0 := g
  obtain ⟨a, c, rfl, h1, ⟨h2, -⟩, h3, h4⟩ := h
  obtain ⟨a', c', rfl, g1, ⟨g2, -⟩, g3, g4⟩ := g
  unfold maxLen at h2 g2
  clear h4 h3 g4 g3
  by_cases hl : 1048576 < bs.length ∨ 1048576 < cs.length
  · by_cases hl1 : 1048576 < bs.length
    · have hl' : (1048576 : Int) < bs.length := by omega
      go_enter Try.func4, Try.ntmps4
      go_wp2_with fail
      go_ret
      exact ⟨rfl, New.refl _⟩
    · have hl' : ¬ ((1048576 : Int) < bs.length) := by omega
      have hl2 : (1048576 : Int) < cs.length := by omega
      go_enter Try.func4, Try.ntmps4
      go_wp2_with fail
      go_ret
      exact ⟨rfl, New.refl _⟩
  · have hl1 : ¬ ((1048576 : Int) < bs.length) := by omega
    have hl2 : ¬ ((1048576 : Int) < cs.length) := by omega
    clear hl
    go_enter Try.func4, Try.ntmps4
    go_wp2_with fail
    refine (drawTimesValid _ bs w h0).mono ?_
    rintro e w1 ⟨v1, xs, rfl, hs, ho, n1⟩
    have hx := ho.nums
    go_wp2_with fail
    refine (implTv _ xs _ hx).mono ?_
    rintro e w2 ⟨rfl, rfl⟩
    go_wp2_with fail
    refine (specTv_ok _ xs _ hx).mono ?_
    rintro e w2 ⟨rfl, d2⟩
    have n2 := n1.trans d2.new
    have hx2 := hx.new d2.new
    clear hx ho n1 d2
    have hs1 := hs.1
    rcases hr : timesOk xs with _ | _
    · clear hr
      go_wp2_with fail
      go_ret
      exact ⟨rfl, n2⟩
    · have Hr := Lib.hid hr
      clear hr
      have hx2' := hx2
      obtain ⟨ax, cx, rfl, x1, ⟨x2, x2'⟩, x3, x4⟩ := hx2
      unfold maxLen at x2
      by_cases hnil : xs.length = 0
      · have hne : (((xs.length : Int) == 0)) = true := by simp [hnil]
        clear hnil
        go_wp2_with fail
        go_ret
        exact ⟨rfl, n2⟩
      · have hne : (((xs.length : Int) == 0)) = false := by simp [hnil]
        have hpos : 0 < xs.length := by omega
        clear hnil
        have hk : ∃ k : Nat, (cs.length : Int) % (xs.length : Int) = (k : Int) ∧ k < xs.length := ⟨cs.length % xs.length, by simp, Nat.mod_lt _ hpos⟩
        obtain ⟨k, hk, hkl⟩ := hk
        go_wp2_with fail
        rcases x4 with rfl | ⟨b, off, rfl, hb0, hb, hc⟩
        · simp at hpos
        clear hc
        have hk1 : k ≤ cx := by omega
        have hk2 : (0 : Int) ≤ (k : Int) + 1 := by omega
        have hk3 : (k : Int) + 1 ≤ (xs.length : Int) := by omega
        have hk4 : ((k : Int) + 1).toNat = k + 1 := by omega
        have hk5 : IntKind.i64.wrap ((k : Int) + 1) = (k : Int) + 1 := IntWalk.i64_in _ (by omega)
        have hd := hx2'.drop (k + 1) (by omega)
        refine wp_region_any (by kernel_rfl) ?_
        try (change wpAny _ _ _ _ _ _ _ (World.drew _))
        refine wpAny_take (i := 1) (v := ?_) rfl (by kernel_rfl) (by kernel_rfl) (by kernel_rfl) (fun _ _ _ h => h) (Or.inl ⟨by rfl, ?_⟩) ?_
        rotate_left
        · (intro w; go_simp); try with_reducible rfl
        refine wpAny_take (i := 2) (v := ?_) rfl (by kernel_rfl) (by kernel_rfl) (by kernel_rfl) (fun _ _ _ h => h) (Or.inl ⟨by rfl, ?_⟩) ?_
        rotate_left
        · (intro w; go_simp); try with_reducible rfl
        refine wpAny_take (i := 3) (v := ?_) rfl (by kernel_rfl) (by kernel_rfl) (by kernel_rfl) (fun _ _ _ h => h) (Or.inl ⟨by rfl, ?_⟩) ?_
        rotate_left
        · (intro w; go_simp); try with_reducible rfl
        refine wpAny_take (i := 5) (v := ?_) rfl (by kernel_rfl) (by kernel_rfl) (by kernel_rfl) (fun _ _ _ h => h) (Or.inl ⟨by rfl, ?_⟩) ?_
        rotate_left
        · (intro w; go_simp); try with_reducible rfl
        refine wpAny_take (i := 6) (v := ?_) rfl (by kernel_rfl) (by kernel_rfl) (by kernel_rfl) (fun _ _ _ h => h) (Or.inl ⟨by rfl, ?_⟩) ?_
        rotate_left
        · (intro w; go_simp); try with_reducible rfl
        refine wpAny_take (i := 7) (v := ?_) rfl (by kernel_rfl) (by kernel_rfl) (by kernel_rfl) (fun _ _ _ h => h) (Or.inl ⟨by rfl, ?_⟩) ?_
        rotate_left
        · (intro w; go_simp); try with_reducible rfl
        refine wpAny_take (i := 8) (v := ?_) rfl (by kernel_rfl) (by kernel_rfl) (by kernel_rfl) (fun _ _ _ h => h) (Or.inl ⟨by rfl, ?_⟩) ?_
        rotate_left
        · (intro w; go_simp); try with_reducible rfl
        generalize (if cx = k + 1 then some (⟨b, off, none⟩ : Addr) else some ⟨b, off + (k + 1), none⟩) = ao at hd ⊢
        refine wpAny_ready (rs := [0]) (by kernel_rfl) (by simp) ?_
        refine AllReady.cons rfl (fun K hK => ?_) AllReady.nil
        go_simp
        refine hK _ _ ?_
        clear hK K
        refine wpAny_ready (rs := [4]) (by kernel_rfl) (by simp) ?_
        refine AllReady.cons rfl (fun K hK => ?_) AllReady.nil
        refine stepRow_append slInt _ _ rfl rfl (.slice (some ⟨w2.heap.size, 0, none⟩) 0 0) 0 [] rfl (((OwnNums.empty .i64 3 w2).new ((New.refl _).drew)).1) _ k cx ((xs.take k).map (Value.int .i64)) rfl ?_ (oneCells _ _) ?_ ?_ ?_
        · exact Nums.src ((hx2'.take k (by omega)).new (((New.refl _).alloc _).drew))
        · unfold maxLen; omega
        · omega
        intro v3 w3 o3 c3
        refine hK _ _ ?_
        clear hK K
        have hn3 : New w w3 := (n2.trans (((New.refl _).alloc _).drew)).trans_chg c3 (fun j hj e => by have e' := own_some e; simp only at e'; have := n2.size; omega)
        have hx3 := hx2'.old.new (((New.refl w2).alloc (.cells #[] 3)).drew)
        have hd4 := (hd.old.new (((New.refl w2).alloc (.cells #[] 3)).drew)).chg c3 (fun j hj hs e => by have e' := own_some e; simp only at e'; have := hs.2; omega)
        have hx4 := hx3.chg c3 (fun j hj hs e => by have e' := own_some e; simp only at e'; have := hs.2; omega)
        refine wpAny_ready (rs := [9]) (by kernel_rfl) (by simp) ?_
        refine AllReady.cons rfl (fun K hK => ?_) AllReady.nil
        refine stepRow_append slInt _ _ rfl rfl v3 (0 + k) ([] ++ (xs.take k).map (Value.int .i64)) rfl o3 _ (xs.length - (k + 1)) (cx - (k + 1)) ((xs.drop (k + 1)).map (Value.int .i64)) rfl ?_ (oneCells _ _) ?_ ?_ ?_
        · exact Nums.src hd4
        · unfold maxLen; omega
        · omega
        intro v4 w4 o4 c4
        refine hK _ _ ?_
        clear hK K
        refine wpAny_take (i := 10) (v := ?_) rfl (by kernel_rfl) (by kernel_rfl) (by kernel_rfl) (fun _ _ _ h => h) (Or.inl ⟨by rfl, ?_⟩) ?_
        rotate_left
        · (intro w; go_simp); try with_reducible rfl
        refine wpAny_done (by kernel_rfl) ?_ _
        have o5 := OwnNums.of_append (xs := xs.take k) (ys := xs.drop (k + 1)) o4 (fun x hx => x3 x (List.mem_of_mem_take hx)) (fun x hx => x3 x (List.mem_of_mem_drop hx))
        have n4 : New w w4 := hn3.trans_chg c4 (fun j hj e => by have e' : j = w2.heap.size ∨ j = w2.heap.size + 1 := (o3.2 j e).imp own_some (fun h => by simpa using h); have := n2.size; omega)
        have hx5 := hx4.chg c4 (fun j hj hs e => by have e' : j = w2.heap.size ∨ j = w2.heap.size + 1 := (o3.2 j e).imp own_some (fun h => by simpa using h); have := hs.2; omega)
        have hsz := n2.size
        have o6 := o5.mono (T := fun j => w.heap.size ≤ j) (fun j _ e => by
          rcases e with e | e
          · have e' : j = w2.heap.size ∨ j = w2.heap.size + 1 := (o3.2 j e).imp own_some (fun h => by simpa using h)
            omega
          · have := n4.size; have := hn3.size; omega)
        have h6 := o6.nums
        have hok := ok_erase Hr.out k hkl
        have hno := ok_twice (xs := xs) k hkl
        have Hok := Lib.hid hok
        have Hno := Lib.hid hno
        have hx6 := hx5.mono (T := fun j => w.heap.size ≤ j) (fun j _ hs => hs.1)
        clear hd hd4 o3 c3 hx3 hx4 o4 c4 o5 hx5 o6 hn3 hx2' hok hno
        go_wp2_with fail
        have hk6 : IntKind.i64.wrap ((k : Int) + 1) = (k : Int) + 1 := IntWalk.i64_in _ (by omega)
        have hk7 : (k : Int) + 1 ≤ (cx : Int) := by omega
        have hk8 : k ≤ xs.length := by omega
        have hd := hx6.drop k (by omega)
        refine wp_region_any (by kernel_rfl) ?_
        try (change wpAny _ _ _ _ _ _ _ (World.drew _))
        refine wpAny_take (i := 1) (v := ?_) rfl (by kernel_rfl) (by kernel_rfl) (by kernel_rfl) (fun _ _ _ h => h) (Or.inl ⟨by rfl, ?_⟩) ?_
        rotate_left
        · (intro w; go_simp); try with_reducible rfl
        refine wpAny_take (i := 2) (v := ?_) rfl (by kernel_rfl) (by kernel_rfl) (by kernel_rfl) (fun _ _ _ h => h) (Or.inl ⟨by rfl, ?_⟩) ?_
        rotate_left
        · (intro w; go_simp); try with_reducible rfl
        refine wpAny_take (i := 3) (v := ?_) rfl (by kernel_rfl) (by kernel_rfl) (by kernel_rfl) (fun _ _ _ h => h) (Or.inl ⟨by rfl, ?_⟩) ?_
        rotate_left
        · (intro w; go_simp); try with_reducible rfl
        refine wpAny_take (i := 4) (v := ?_) rfl (by kernel_rfl) (by kernel_rfl) (by kernel_rfl) (fun _ _ _ h => h) (Or.inl ⟨by rfl, ?_⟩) ?_
        rotate_left
        · (intro w; go_simp); try with_reducible rfl
        refine wpAny_take (i := 6) (v := ?_) rfl (by kernel_rfl) (by kernel_rfl) (by kernel_rfl) (fun _ _ _ h => h) (Or.inl ⟨by rfl, ?_⟩) ?_
        rotate_left
        · (intro w; go_simp); try with_reducible rfl
        refine wpAny_take (i := 7) (v := ?_) rfl (by kernel_rfl) (by kernel_rfl) (by kernel_rfl) (fun _ _ _ h => h) (Or.inl ⟨by rfl, ?_⟩) ?_
        rotate_left
        · (intro w; go_simp); try with_reducible rfl
        refine wpAny_take (i := 8) (v := ?_) rfl (by kernel_rfl) (by kernel_rfl) (by kernel_rfl) (fun _ _ _ h => h) (Or.inl ⟨by rfl, ?_⟩) ?_
        rotate_left
        · (intro w; go_simp); try with_reducible rfl
        generalize (if cx = k then some (⟨b, off, none⟩ : Addr) else some ⟨b, off + k, none⟩) = ao' at hd ⊢
        refine wpAny_ready (rs := [0]) (by kernel_rfl) (by simp) ?_
        refine AllReady.cons rfl (fun K hK => ?_) AllReady.nil
        go_simp
        refine hK _ _ ?_
        clear hK K
        refine wpAny_ready (rs := [5]) (by kernel_rfl) (by simp) ?_
        refine AllReady.cons rfl (fun K hK => ?_) AllReady.nil
        refine stepRow_append slInt _ _ rfl rfl (.slice (some ⟨w4.heap.size, 0, none⟩) 0 0) 0 [] rfl (((OwnNums.empty .i64 3 w4).new ((New.refl _).drew)).1) _ (k + 1) cx ((xs.take (k + 1)).map (Value.int .i64)) rfl ?_ (oneCells _ _) ?_ ?_ ?_
        · exact Nums.src ((hx6.take (k + 1) (by omega)).new (((New.refl _).alloc _).drew))
        · unfold maxLen; omega
        · omega
        intro v7 w7 o7 c7
        refine hK _ _ ?_
        clear hK K
        have n7 : New w w7 := (n4.trans (((New.refl _).alloc _).drew)).trans_chg c7 (fun j hj e => by have e' := own_some e; simp only at e'; have := n4.size; omega)
        have hx7 := (hx6.old.new (((New.refl w4).alloc (.cells #[] 3)).drew)).chg c7 (fun j hj hs e => by have e' := own_some e; simp only at e'; have := hs.2; omega)
        have hd7 := (hd.old.new (((New.refl w4).alloc (.cells #[] 3)).drew)).chg c7 (fun j hj hs e => by have e' := own_some e; simp only at e'; have := hs.2; omega)
        have h67 := (h6.old.new (((New.refl w4).alloc (.cells #[] 3)).drew)).chg c7 (fun j hj hs e => by have e' := own_some e; simp only at e'; have := hs.2; omega)
        refine wpAny_ready (rs := [9]) (by kernel_rfl) (by simp) ?_
        refine AllReady.cons rfl (fun K hK => ?_) AllReady.nil
        refine stepRow_append slInt _ _ rfl rfl v7 (0 + (k + 1)) ([] ++ (xs.take (k + 1)).map (Value.int .i64)) rfl o7 _ (xs.length - k) (cx - k) ((xs.drop k).map (Value.int .i64)) rfl ?_ (oneCells _ _) ?_ ?_ ?_
        · exact Nums.src hd7
        · unfold maxLen; omega
        · omega
        intro v8 w8 o8 c8
        refine hK _ _ ?_
        clear hK K
        refine wpAny_take (i := 10) (v := ?_) rfl (by kernel_rfl) (by kernel_rfl) (by kernel_rfl) (fun _ _ _ h => h) (Or.inl ⟨by rfl, ?_⟩) ?_
        rotate_left
        · (intro w; go_simp); try with_reducible rfl
        refine wpAny_done (by kernel_rfl) ?_ _
        have o9 := OwnNums.of_append (xs := xs.take (k + 1)) (ys := xs.drop k) o8 (fun x hx => x3 x (List.mem_of_mem_take hx)) (fun x hx => x3 x (List.mem_of_mem_drop hx))
        have n8 : New w w8 := n7.trans_chg c8 (fun j hj e => by have e' : j = w4.heap.size ∨ j = w4.heap.size + 1 := (o7.2 j e).imp own_some (fun h => by simpa using h); have := n4.size; omega)
        have h68 := h67.chg c8 (fun j hj hs e => by have e' : j = w4.heap.size ∨ j = w4.heap.size + 1 := (o7.2 j e).imp own_some (fun h => by simpa using h); have := hs.2; omega)
        have h9 := o9.nums
        clear hd hd7 o7 c7 hx7 h67 o8 c8 o9 n7 hx6 h6
        go_wp2_with fail
        refine (implTv _ _ _ h68).mono ?_
        rw [Hok.out]
        rintro e w9 ⟨rfl, rfl⟩
        go_wp2_with fail
        refine (implTv _ _ _ h9).mono ?_
        rw [Hno.out]
        rintro e w9 ⟨rfl, rfl⟩
        go_wp2_with fail
        go_ret
        exact ⟨rfl, n8⟩

end Go.Proofs.Ytfcdhmbooblpoaa
