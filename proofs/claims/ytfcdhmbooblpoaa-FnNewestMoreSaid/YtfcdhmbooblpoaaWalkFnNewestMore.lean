/- The walk of FnNewestMore. -/
import Derived.Test.YtfcdhmbooblpoaaWalkFnNewest
namespace Go.Proofs.Ytfcdhmbooblpoaa
open Go.RowKit

theorem newest_some {xs : List Int} {many : Int} (h : (newest xs many).length ≠ 0) : timesOk xs = true ∧ manyOk many = true := by
  unfold newest at h
  split at h
  · rename_i hc; simpa using hc
  · simp at h
theorem tv_drop : ∀ (xs : List Int) (k : Nat) (q : Int), tvFrom q xs = true → tvFrom q (xs.drop k) = true
  | xs, 0, _, h => by simpa using h
  | [], k + 1, _, _ => by simp [tvFrom]
  | x :: xs, k + 1, q, h => by
    rw [tvFrom] at h
    split at h
    · simp at h
    · rename_i hc
      rw [List.drop_succ_cons]
      have h1 := tv_drop xs k x h
      cases hd : xs.drop k with
      | nil => rfl
      | cons y ys =>
        rw [hd, tvFrom] at h1
        rw [tvFrom]
        split at h1
        · simp at h1
        · rename_i hc2
          rw [if_neg (by omega)]; exact h1
theorem ok_drop {xs : List Int} (h : timesOk xs = true) (k : Nat) : timesOk (xs.drop k) = true := by
  simp only [timesOk, Bool.and_eq_true, decide_eq_true_eq] at h ⊢
  exact ⟨by simp; omega, tv_drop _ _ _ h.2⟩
theorem newest_again {xs : List Int} {m : Nat} (h : timesOk xs = true) (hm : manyOk (m : Int) = true) : newest (newest xs m) m = newest xs m := by
  have h1 : timesOk (newest xs m) = true := by rw [newest_drop h hm]; exact ok_drop h _
  rw [newest_drop h1 hm, newest_length h hm, show min m xs.length - m = 0 from by omega]; rfl
theorem newest_more {xs : List Int} {m : Nat} (h : timesOk xs = true) (hm : manyOk (m : Int) = true) (hm1 : manyOk ((m : Int) + 1) = true) :
    (newest xs ((m : Int) + 1)).drop ((newest xs ((m : Int) + 1)).length - (newest xs m).length) = newest xs m ∧ (newest xs m).length ≤ (newest xs ((m : Int) + 1)).length := by
  have e : ((m : Int) + 1) = ((m + 1 : Nat) : Int) := by omega
  rw [e] at hm1 ⊢
  rw [newest_length h hm, newest_length h hm1, newest_drop h hm, newest_drop h hm1, List.drop_drop]
  exact ⟨by congr 1; omega, by omega⟩

set_option maxHeartbeats 1000000 in
theorem walkFnNewestMore (v : Value) (bs : List Int) (w : World) (h : Nums .u8 Any w v bs) :
    Calls Try.prog 8 #[v] w fun e w' => e = .returned (.bool true) ∧ New w w' := by
  have h0 := h
  obtain ⟨a, c, rfl, h1, ⟨h2, -⟩, h3, h4⟩ := h
  unfold maxLen at h2
  clear h4 h3
  by_cases hl : 1048576 < bs.length
  · have hl' : (1048576 : Int) < bs.length := by omega
    go_enter Try.func8, Try.ntmps8
    go_wp2_with fail
    go_ret
    exact ⟨rfl, New.refl _⟩
  · have hl' : ¬ ((1048576 : Int) < bs.length) := by omega
    go_enter Try.func8, Try.ntmps8
    go_wp2_with fail
    refine (drawKeepNewest _ bs w h0).mono ?_
    rintro e w1 ⟨v1, xs, many, rfl, hs, hm0, hm1, o1, n1⟩
    have hs1 := hs.1
    have hrl := newest_len xs many
    go_wp2_with fail
    refine (keepNewest _ xs many _ o1.nums).mono ?_
    rintro e w2 ⟨v2, rfl, o2, n2⟩
    replace o1 := o1.new n2
    replace n1 := n1.trans n2
    go_wp2_with fail
    refine (specKeepNewest _ xs many _ o1).mono ?_
    rw [newest_eq]
    rintro e w3 ⟨v3, rfl, o3, n3⟩
    replace o1 := o1.new n3
    replace o2 := o2.new n3
    replace n1 := n1.trans n3
    go_wp2_with fail
    refine (sameInts _ _ _ _ _ o2.nums o3.nums).mono ?_
    rintro e w4 ⟨rfl, d4⟩
    replace o1 := o1.new d4.new
    replace o2 := o2.new d4.new
    replace o3 := o3.new d4.new
    replace n1 := n1.trans d4.new
    clear n2 n3 d4
    have hsome := @newest_some xs many
    have hmore : 0 ≤ many → many < 20 → timesOk xs = true → newest (newest xs many) many = newest xs many ∧ ((newest xs (many + 1)).drop ((newest xs (many + 1)).length - (newest xs many).length) = newest xs many ∧ (newest xs many).length ≤ (newest xs (many + 1)).length) := by
      intro g0 g1 gt
      obtain ⟨m, rfl⟩ := Int.eq_ofNat_of_zero_le g0
      exact ⟨newest_again gt (by simp [manyOk]; omega), newest_more gt (by simp [manyOk]; omega) (by simp [manyOk]; omega)⟩
    have Hmore := Lib.hid hmore
    have Hsome := Lib.hid hsome
    have hk2 : ∀ (S : Nat → Prop) (u : Value) (W : World), Ints S W u (newest xs many) → Calls Try.prog 22 #[u, .int .i64 many] W (Kept W (newest (newest xs many) many)) := fun S u W H => keepNewest u _ many W H
    have Hk2 := Lib.hid hk2
    clear hsome hmore hk2
    generalize newest xs many = r at hrl Hmore Hsome Hk2 o2 o3 ⊢
    obtain ⟨a3, c3, rfl, -⟩ := o3.shape
    obtain ⟨a2, c2, rfl, r1, r2⟩ := o2.shape
    by_cases hr0 : r.length = 0
    · have hb : ((r.length : Int) == 0) = true := by simp [hr0]
      clear hr0
      go_wp2_with fail
      refine (sameInts _ _ _ _ _ o2.nums o3.nums).mono ?_
      rintro e w6 ⟨rfl, d6⟩
      go_wp2_with fail
      go_ret
      exact ⟨by simp, n1.trans d6.new⟩
    · have hb : ((r.length : Int) == 0) = false := by simp [hr0]
      obtain ⟨hok, hmo⟩ := Hsome.out hr0
      have hm : 0 ≤ many ∧ many ≤ 20 := by simpa [manyOk] using hmo
      have hrp : 0 < r.length := by omega
      clear hr0 hmo
      by_cases h20 : many = 20
      · subst h20
        go_wp2_with fail
        refine (sameInts _ _ _ _ _ o2.nums o3.nums).mono ?_
        rintro e w6 ⟨rfl, d6⟩
        go_wp2_with fail
        go_ret
        exact ⟨by simp, n1.trans d6.new⟩
      · have hb2 : (many == 20) = false := by simp [h20]
        have hm3 : many < 20 := by omega
        obtain ⟨e1, e2, e3⟩ := Hmore.out hm.1 hm3 hok
        have E1 := Lib.hid e1
        have E2 := Lib.hid e2
        have hrl2 := newest_len xs (many + 1)
        have hk1 := fun (W : World) (H : Ints (fun k => w.heap.size ≤ k) W v1 xs) => keepNewest v1 xs (many + 1) W H
        have Hk1 := Lib.hid hk1
        clear h20 hok e1 e2 hk1
        go_wp2_with fail
        refine (Hk1.out _ o1.nums).mono ?_
        generalize newest xs (many + 1) = q at hrl2 e3 E2 ⊢
        rintro e w6 ⟨v6, rfl, o6, n6⟩
        replace o2 := o2.new n6
        replace n1 := n1.trans n6
        obtain ⟨g, c6, rfl, -, -, hc6, -⟩ := o6.1.head (by omega)
        obtain ⟨k, hk⟩ : ∃ k : Nat, k = q.length - r.length := ⟨_, rfl⟩
        have hke : (q.length : Int) - (r.length : Int) = (k : Int) := by omega
        have hkl : k ≤ q.length := by omega
        have hkl' : (k : Int) ≤ (q.length : Int) := by omega
        have hck : ¬ c6 = k := by omega
        have hd := o6.nums.drop k hkl
        have e2 := E2.out
        rw [← hk] at e2
        rw [e2, if_neg hck, Nat.zero_add] at hd
        have Hd := Lib.hid hd
        have hx := o2.nums
        clear hk hd e2
        go_wp2_with fail
        refine (sameInts _ _ r r _ Hd.out hx).mono ?_
        rintro e w7 ⟨rfl, d7⟩
        replace hx := hx.new d7.new
        replace n1 := n1.trans d7.new
        go_wp2_with fail
        refine (Hk2.out _ _ _ hx).mono ?_
        rw [E1.out]
        rintro e w8 ⟨v8, rfl, o8, n8⟩
        replace hx := hx.new n8
        go_wp2_with fail
        refine (sameInts _ _ r r _ o8.nums hx).mono ?_
        rintro e w9 ⟨rfl, d9⟩
        go_wp2_with fail
        go_ret
        exact ⟨by simp, (n1.trans n8).trans d9.new⟩

end Go.Proofs.Ytfcdhmbooblpoaa
