/- The walk of DrawKeepSpans: its return draws its order; each order is walked. -/
import Derived.Test.YtfcdhmbooblpoaaTimesDraw
namespace Go.Proofs.Ytfcdhmbooblpoaa
open Go.RowKit

def DrawnSpans (w : World) (e : Ending) (w' : World) : Prop :=
  ∃ v xs, ∃ s n : Int, e = .returned (.tuple #[v, .int .i64 s, .int .i64 n]) ∧ Small xs ∧ 0 ≤ s ∧ s ≤ 50 ∧ 0 ≤ n ∧ n ≤ 5 ∧ OwnInts 3 (fun k => w.heap.size ≤ k) w' v xs ∧ New w w'

def Tab (w : World) (b : Nat) : Prop := ∀ i, i < 5 → ∃ s : Int, w.cell? ⟨b, i, none⟩ = some (.int .i64 s) ∧ 0 ≤ s ∧ s ≤ 50
theorem Tab.mk (w : World) (t : TypeId) : Tab (w.alloc (.cells #[.int .i64 1, .int .i64 10, .int .i64 24, .int .i64 50, .int .i64 0] t)) w.heap.size := by
  intro i hi
  have hi' : i = 0 ∨ i = 1 ∨ i = 2 ∨ i = 3 ∨ i = 4 := by omega
  rcases hi' with rfl | rfl | rfl | rfl | rfl
  · exact ⟨1, by simp, by omega, by omega⟩
  · exact ⟨10, by simp, by omega, by omega⟩
  · exact ⟨24, by simp, by omega, by omega⟩
  · exact ⟨50, by simp, by omega, by omega⟩
  · exact ⟨0, by simp, by omega, by omega⟩
theorem Tab.chg {w w' : World} {b : Nat} {S : Nat → Prop} (h : Tab w b) (c : Chg S w w') (hb : ¬ S b) : Tab w' b := by
  intro i hi
  obtain ⟨s, h1, h2⟩ := h i hi
  exact ⟨s, c.cell h1 hb, h2⟩

set_option maxHeartbeats 2000000 in
theorem drawKeepSpans {S : Nat → Prop} (v : Value) (bs : List Int) (w : World) (h : Nums .u8 S w v bs) :
    Calls Try.prog 29 #[v] w (DrawnSpans w) := by
  go_enter Try.func29, Try.ntmps29
  go_wp2_with fail
  refine (l6Open v bs w h).mono ?_
  rintro e w1 ⟨g, rfl, hg, hr, n1⟩
  go_wp2_with fail
  refine (l92Times g 0 w1 hr (by omega)).mono ?_
  rintro e w2 ⟨v2, xs, rfl, hs, ho, hr2, c2⟩
  have hgl := hr.lt
  have hgl2 := hr2.lt
  have n2 : New w w2 := n1.trans_chg c2 (fun k hk e => by omega)
  have ho2 := ho.mono (T := fun k => w.heap.size ≤ k ∧ k ≠ g) (fun k _ hk => ⟨Nat.le_trans n1.size hk, by omega⟩)
  have hrA := hr2.new ((New.refl w2).drew)
  have hoA := ho2.new ((New.refl w2).drew)
  have nA := n2.drew
  have hgA : g < w2.drew.heap.size := hgl2
  clear hr hr2 ho ho2 c2 n1
  go_wp2_with fail
  refine wp_region_any (by kernel_rfl) ?_
  try (change wpAny _ _ _ _ _ _ _ (World.drew _))
  refine wpAny_take (i := 0) (v := ?_) rfl (by kernel_rfl) (by kernel_rfl) (by kernel_rfl) (fun _ _ _ h => h) (Or.inl ⟨by rfl, ?_⟩) ?_
  rotate_left
  · (intro w; go_simp); try with_reducible rfl
  refine wpAny_take (i := 2) (v := ?_) rfl (by kernel_rfl) (by kernel_rfl) (by kernel_rfl) (fun _ _ _ h => h) (Or.inl ⟨by rfl, ?_⟩) ?_
  rotate_left
  · (intro w; go_simp); try with_reducible rfl
  refine wpAny_take (i := 6) (v := ?_) rfl (by kernel_rfl) (by kernel_rfl) (by kernel_rfl) (fun _ _ _ h => h) (Or.inl ⟨by rfl, ?_⟩) ?_
  rotate_left
  · (intro w; go_simp); try with_reducible rfl
  change wpAny _ _ _ _ _ _ _ w2.drew
  revert hrA hoA nA hgA
  generalize w2.drew = W
  intro hrA hoA nA hgA
  refine wpAny_ready (rs := [1, 3]) (by kernel_rfl) (by simp) ?_
  refine AllReady.cons rfl (fun K hK => ?_) (AllReady.cons rfl (fun K hK => ?_) AllReady.nil)
  · go_simp
    refine hK _ _ ?_
    clear hK K
    have tab1 := Tab.mk W 3
    have al1 : New W (W.alloc (.cells #[.int .i64 1, .int .i64 10, .int .i64 24, .int .i64 50, .int .i64 0] 3)) := (New.refl _).alloc _
    have hr1 := hrA.new al1
    have ho1 := hoA.new al1
    have n1 := nA.trans al1
    have hg1 : g < (W.alloc (.cells #[.int .i64 1, .int .i64 10, .int .i64 24, .int .i64 50, .int .i64 0] 3)).heap.size := by have := al1.size; omega
    obtain ⟨B, hB⟩ : ∃ B, B = W.heap.size := ⟨_, rfl⟩
    rw [← hB] at tab1 ⊢
    have hBg : ¬ B = g := by omega
    clear hB
    revert tab1 hr1 ho1 n1 hg1
    generalize (W.alloc (.cells #[.int .i64 1, .int .i64 10, .int .i64 24, .int .i64 50, .int .i64 0] 3)) = W1
    intro hr1 ho1 n1 hg1 tab1
    clear al1
    refine wpAny_ready (rs := [3]) (by kernel_rfl) (by simp) ?_
    refine AllReady.cons rfl (fun K hK => ?_) AllReady.nil
    go_simp
    refine (pick g (0 + 100) 5 W1 hr1 (by omega) (by omega) (by omega)).mono ?_
    rintro e W2 ⟨rv, rfl, hp2a, hp2b, hr2, c2⟩
    refine hK _ _ ?_
    clear hK K
    have ho2 := ho1.chg c2 (fun j _ hj e => hj.2 e)
    have n2 := n1.trans_chg c2 (fun j hj e => by omega)
    have hg2 := Nat.lt_of_lt_of_le hg1 c2.size
    obtain ⟨rn, rfl⟩ := Int.eq_ofNat_of_zero_le hp2a
    have hrn : rn < 5 := by omega
    have tab2 := tab1.chg c2 hBg
    clear c2
    have hrn5 : (rn : Int) < 5 := by omega
    refine wpAny_take (i := 4) (v := ?_) rfl (by kernel_rfl) (by kernel_rfl) (by kernel_rfl) (fun _ _ _ h => h) (Or.inl ⟨by rfl, ?_⟩) ?_
    rotate_left
    · (intro w; go_simp); try with_reducible rfl
    refine wpAny_ready (rs := [5, 7]) (by kernel_rfl) (by simp) ?_
    refine AllReady.cons rfl (fun K hK => ?_) (AllReady.cons rfl (fun K hK => ?_) AllReady.nil)
    · obtain ⟨sv, hcell, hs0, hs1⟩ := tab2 rn hrn
      go_simp
      refine hK _ _ ?_
      clear hK K
      refine wpAny_ready (rs := [7]) (by kernel_rfl) (by simp) ?_
      refine AllReady.cons rfl (fun K hK => ?_) AllReady.nil
      go_simp
      refine (pick g ((0 + 100) + 1) 6 W2 hr2 (by omega) (by omega) (by omega)).mono ?_
      rintro e W4 ⟨qv, rfl, hp4a, hp4b, hr4, c4⟩
      refine hK _ _ ?_
      clear hK K
      have ho4 := ho2.chg c4 (fun j _ hj e => hj.2 e)
      have n4 := n2.trans_chg c4 (fun j hj e => by omega)
      have hg4 := Nat.lt_of_lt_of_le hg2 c4.size
      have hq0 : 0 ≤ qv := hp4a
      have hq1 : qv ≤ 5 := by omega
      have tab4 := tab2.chg c4 hBg
      clear c4
      refine wpAny_take (i := 8) (v := ?_) rfl (by kernel_rfl) (by kernel_rfl) (by kernel_rfl) (fun _ _ _ h => h) (Or.inl ⟨by rfl, ?_⟩) ?_
      rotate_left
      · (intro w; go_simp); try with_reducible rfl
      refine wpAny_take (i := 9) (v := ?_) rfl (by kernel_rfl) (by kernel_rfl) (by kernel_rfl) (fun _ _ _ h => h) (Or.inl ⟨by rfl, ?_⟩) ?_
      rotate_left
      · (intro w; go_simp); try with_reducible rfl
      refine wpAny_take (i := 10) (v := ?_) rfl (by kernel_rfl) (by kernel_rfl) (by kernel_rfl) (fun _ _ _ h => h) (Or.inl ⟨by rfl, ?_⟩) ?_
      rotate_left
      · (intro w; go_simp); try with_reducible rfl
      refine wpAny_done (by kernel_rfl) ?_ _
      go_wp2_with fail
      go_ret3
      exact ⟨v2, xs, sv, qv, rfl, hs, hs0, hs1, hq0, hq1, ho4.mono (fun k _ hk => hk.1), n4⟩
    · go_simp
      refine (pick g ((0 + 100) + 1) 6 W2 hr2 (by omega) (by omega) (by omega)).mono ?_
      rintro e W5 ⟨qv, rfl, hp5a, hp5b, hr5, c5⟩
      refine hK _ _ ?_
      clear hK K
      have ho5 := ho2.chg c5 (fun j _ hj e => hj.2 e)
      have n5 := n2.trans_chg c5 (fun j hj e => by omega)
      have hg5 := Nat.lt_of_lt_of_le hg2 c5.size
      have hq0 : 0 ≤ qv := hp5a
      have hq1 : qv ≤ 5 := by omega
      have tab5 := tab2.chg c5 hBg
      clear c5
      refine wpAny_take (i := 8) (v := ?_) rfl (by kernel_rfl) (by kernel_rfl) (by kernel_rfl) (fun _ _ _ h => h) (Or.inl ⟨by rfl, ?_⟩) ?_
      rotate_left
      · (intro w; go_simp); try with_reducible rfl
      refine wpAny_ready (rs := [5]) (by kernel_rfl) (by simp) ?_
      refine AllReady.cons rfl (fun K hK => ?_) AllReady.nil
      obtain ⟨sv, hcell, hs0, hs1⟩ := tab5 rn hrn
      go_simp
      refine hK _ _ ?_
      clear hK K
      refine wpAny_take (i := 9) (v := ?_) rfl (by kernel_rfl) (by kernel_rfl) (by kernel_rfl) (fun _ _ _ h => h) (Or.inl ⟨by rfl, ?_⟩) ?_
      rotate_left
      · (intro w; go_simp); try with_reducible rfl
      refine wpAny_take (i := 10) (v := ?_) rfl (by kernel_rfl) (by kernel_rfl) (by kernel_rfl) (fun _ _ _ h => h) (Or.inl ⟨by rfl, ?_⟩) ?_
      rotate_left
      · (intro w; go_simp); try with_reducible rfl
      refine wpAny_done (by kernel_rfl) ?_ _
      go_wp2_with fail
      go_ret3
      exact ⟨v2, xs, sv, qv, rfl, hs, hs0, hs1, hq0, hq1, ho5.mono (fun k _ hk => hk.1), n5⟩
  · go_simp
    refine (pick g (0 + 100) 5 W hrA (by omega) (by omega) (by omega)).mono ?_
    rintro e W7 ⟨rv, rfl, hp7a, hp7b, hr7, c7⟩
    refine hK _ _ ?_
    clear hK K
    have ho7 := hoA.chg c7 (fun j _ hj e => hj.2 e)
    have n7 := nA.trans_chg c7 (fun j hj e => by omega)
    have hg7 := Nat.lt_of_lt_of_le hgA c7.size
    obtain ⟨rn, rfl⟩ := Int.eq_ofNat_of_zero_le hp7a
    have hrn : rn < 5 := by omega
    clear c7
    refine wpAny_ready (rs := [1, 7]) (by kernel_rfl) (by simp) ?_
    refine AllReady.cons rfl (fun K hK => ?_) (AllReady.cons rfl (fun K hK => ?_) AllReady.nil)
    · go_simp
      refine hK _ _ ?_
      clear hK K
      have tab8 := Tab.mk W7 3
      have al8 : New W7 (W7.alloc (.cells #[.int .i64 1, .int .i64 10, .int .i64 24, .int .i64 50, .int .i64 0] 3)) := (New.refl _).alloc _
      have hr8 := hr7.new al8
      have ho8 := ho7.new al8
      have n8 := n7.trans al8
      have hg8 : g < (W7.alloc (.cells #[.int .i64 1, .int .i64 10, .int .i64 24, .int .i64 50, .int .i64 0] 3)).heap.size := by have := al8.size; omega
      obtain ⟨B, hB⟩ : ∃ B, B = W7.heap.size := ⟨_, rfl⟩
      rw [← hB] at tab8 ⊢
      have hBg : ¬ B = g := by omega
      clear hB
      revert tab8 hr8 ho8 n8 hg8
      generalize (W7.alloc (.cells #[.int .i64 1, .int .i64 10, .int .i64 24, .int .i64 50, .int .i64 0] 3)) = W8
      intro hr8 ho8 n8 hg8 tab8
      clear al8
      have hrn5 : (rn : Int) < 5 := by omega
      refine wpAny_take (i := 4) (v := ?_) rfl (by kernel_rfl) (by kernel_rfl) (by kernel_rfl) (fun _ _ _ h => h) (Or.inl ⟨by rfl, ?_⟩) ?_
      rotate_left
      · (intro w; go_simp); try with_reducible rfl
      refine wpAny_ready (rs := [5, 7]) (by kernel_rfl) (by simp) ?_
      refine AllReady.cons rfl (fun K hK => ?_) (AllReady.cons rfl (fun K hK => ?_) AllReady.nil)
      · obtain ⟨sv, hcell, hs0, hs1⟩ := tab8 rn hrn
        go_simp
        refine hK _ _ ?_
        clear hK K
        refine wpAny_ready (rs := [7]) (by kernel_rfl) (by simp) ?_
        refine AllReady.cons rfl (fun K hK => ?_) AllReady.nil
        go_simp
        refine (pick g ((0 + 100) + 1) 6 W8 hr8 (by omega) (by omega) (by omega)).mono ?_
        rintro e W10 ⟨qv, rfl, hp10a, hp10b, hr10, c10⟩
        refine hK _ _ ?_
        clear hK K
        have ho10 := ho8.chg c10 (fun j _ hj e => hj.2 e)
        have n10 := n8.trans_chg c10 (fun j hj e => by omega)
        have hg10 := Nat.lt_of_lt_of_le hg8 c10.size
        have hq0 : 0 ≤ qv := hp10a
        have hq1 : qv ≤ 5 := by omega
        have tab10 := tab8.chg c10 hBg
        clear c10
        refine wpAny_take (i := 8) (v := ?_) rfl (by kernel_rfl) (by kernel_rfl) (by kernel_rfl) (fun _ _ _ h => h) (Or.inl ⟨by rfl, ?_⟩) ?_
        rotate_left
        · (intro w; go_simp); try with_reducible rfl
        refine wpAny_take (i := 9) (v := ?_) rfl (by kernel_rfl) (by kernel_rfl) (by kernel_rfl) (fun _ _ _ h => h) (Or.inl ⟨by rfl, ?_⟩) ?_
        rotate_left
        · (intro w; go_simp); try with_reducible rfl
        refine wpAny_take (i := 10) (v := ?_) rfl (by kernel_rfl) (by kernel_rfl) (by kernel_rfl) (fun _ _ _ h => h) (Or.inl ⟨by rfl, ?_⟩) ?_
        rotate_left
        · (intro w; go_simp); try with_reducible rfl
        refine wpAny_done (by kernel_rfl) ?_ _
        go_wp2_with fail
        go_ret3
        exact ⟨v2, xs, sv, qv, rfl, hs, hs0, hs1, hq0, hq1, ho10.mono (fun k _ hk => hk.1), n10⟩
      · go_simp
        refine (pick g ((0 + 100) + 1) 6 W8 hr8 (by omega) (by omega) (by omega)).mono ?_
        rintro e W11 ⟨qv, rfl, hp11a, hp11b, hr11, c11⟩
        refine hK _ _ ?_
        clear hK K
        have ho11 := ho8.chg c11 (fun j _ hj e => hj.2 e)
        have n11 := n8.trans_chg c11 (fun j hj e => by omega)
        have hg11 := Nat.lt_of_lt_of_le hg8 c11.size
        have hq0 : 0 ≤ qv := hp11a
        have hq1 : qv ≤ 5 := by omega
        have tab11 := tab8.chg c11 hBg
        clear c11
        refine wpAny_take (i := 8) (v := ?_) rfl (by kernel_rfl) (by kernel_rfl) (by kernel_rfl) (fun _ _ _ h => h) (Or.inl ⟨by rfl, ?_⟩) ?_
        rotate_left
        · (intro w; go_simp); try with_reducible rfl
        refine wpAny_ready (rs := [5]) (by kernel_rfl) (by simp) ?_
        refine AllReady.cons rfl (fun K hK => ?_) AllReady.nil
        obtain ⟨sv, hcell, hs0, hs1⟩ := tab11 rn hrn
        go_simp
        refine hK _ _ ?_
        clear hK K
        refine wpAny_take (i := 9) (v := ?_) rfl (by kernel_rfl) (by kernel_rfl) (by kernel_rfl) (fun _ _ _ h => h) (Or.inl ⟨by rfl, ?_⟩) ?_
        rotate_left
        · (intro w; go_simp); try with_reducible rfl
        refine wpAny_take (i := 10) (v := ?_) rfl (by kernel_rfl) (by kernel_rfl) (by kernel_rfl) (fun _ _ _ h => h) (Or.inl ⟨by rfl, ?_⟩) ?_
        rotate_left
        · (intro w; go_simp); try with_reducible rfl
        refine wpAny_done (by kernel_rfl) ?_ _
        go_wp2_with fail
        go_ret3
        exact ⟨v2, xs, sv, qv, rfl, hs, hs0, hs1, hq0, hq1, ho11.mono (fun k _ hk => hk.1), n11⟩
    · go_simp
      refine (pick g ((0 + 100) + 1) 6 W7 hr7 (by omega) (by omega) (by omega)).mono ?_
      rintro e W13 ⟨qv, rfl, hp13a, hp13b, hr13, c13⟩
      refine hK _ _ ?_
      clear hK K
      have ho13 := ho7.chg c13 (fun j _ hj e => hj.2 e)
      have n13 := n7.trans_chg c13 (fun j hj e => by omega)
      have hg13 := Nat.lt_of_lt_of_le hg7 c13.size
      have hq0 : 0 ≤ qv := hp13a
      have hq1 : qv ≤ 5 := by omega
      clear c13
      refine wpAny_take (i := 8) (v := ?_) rfl (by kernel_rfl) (by kernel_rfl) (by kernel_rfl) (fun _ _ _ h => h) (Or.inl ⟨by rfl, ?_⟩) ?_
      rotate_left
      · (intro w; go_simp); try with_reducible rfl
      refine wpAny_ready (rs := [1]) (by kernel_rfl) (by simp) ?_
      refine AllReady.cons rfl (fun K hK => ?_) AllReady.nil
      go_simp
      refine hK _ _ ?_
      clear hK K
      have tab14 := Tab.mk W13 3
      have al14 : New W13 (W13.alloc (.cells #[.int .i64 1, .int .i64 10, .int .i64 24, .int .i64 50, .int .i64 0] 3)) := (New.refl _).alloc _
      have hr14 := hr13.new al14
      have ho14 := ho13.new al14
      have n14 := n13.trans al14
      have hg14 : g < (W13.alloc (.cells #[.int .i64 1, .int .i64 10, .int .i64 24, .int .i64 50, .int .i64 0] 3)).heap.size := by have := al14.size; omega
      obtain ⟨B, hB⟩ : ∃ B, B = W13.heap.size := ⟨_, rfl⟩
      rw [← hB] at tab14 ⊢
      have hBg : ¬ B = g := by omega
      clear hB
      revert tab14 hr14 ho14 n14 hg14
      generalize (W13.alloc (.cells #[.int .i64 1, .int .i64 10, .int .i64 24, .int .i64 50, .int .i64 0] 3)) = W14
      intro hr14 ho14 n14 hg14 tab14
      clear al14
      have hrn5 : (rn : Int) < 5 := by omega
      refine wpAny_take (i := 4) (v := ?_) rfl (by kernel_rfl) (by kernel_rfl) (by kernel_rfl) (fun _ _ _ h => h) (Or.inl ⟨by rfl, ?_⟩) ?_
      rotate_left
      · (intro w; go_simp); try with_reducible rfl
      refine wpAny_ready (rs := [5]) (by kernel_rfl) (by simp) ?_
      refine AllReady.cons rfl (fun K hK => ?_) AllReady.nil
      obtain ⟨sv, hcell, hs0, hs1⟩ := tab14 rn hrn
      go_simp
      refine hK _ _ ?_
      clear hK K
      refine wpAny_take (i := 9) (v := ?_) rfl (by kernel_rfl) (by kernel_rfl) (by kernel_rfl) (fun _ _ _ h => h) (Or.inl ⟨by rfl, ?_⟩) ?_
      rotate_left
      · (intro w; go_simp); try with_reducible rfl
      refine wpAny_take (i := 10) (v := ?_) rfl (by kernel_rfl) (by kernel_rfl) (by kernel_rfl) (fun _ _ _ h => h) (Or.inl ⟨by rfl, ?_⟩) ?_
      rotate_left
      · (intro w; go_simp); try with_reducible rfl
      refine wpAny_done (by kernel_rfl) ?_ _
      go_wp2_with fail
      go_ret3
      exact ⟨v2, xs, sv, qv, rfl, hs, hs0, hs1, hq0, hq1, ho14.mono (fun k _ hk => hk.1), n14⟩

end Go.Proofs.Ytfcdhmbooblpoaa
