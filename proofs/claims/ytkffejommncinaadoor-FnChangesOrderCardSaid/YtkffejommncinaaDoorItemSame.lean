/- itemEqual, l13Same. -/
import Derived.Test.YtkffejommncinaaDoorSameInts
import Derived.Test.YtkffejommncinaaDoorItemsA
namespace Go.Proofs.YtkffejommncinaaDoor
open Go.RowKit

set_option maxRecDepth 4000 in
set_option maxHeartbeats 400000 in
theorem itemEqual {S T : Nat → Prop} (o p : ItemR) (u t : Value) (w : World) (h : Ints S w u o.ids) (g : Ints T w t p.ids) :
    Calls Tryd.prog 82 #[.agg #[txt o.path, .bool o.dir, u], .agg #[txt p.path, .bool p.dir, t]] w fun e w' => e = .returned (.bool (decide (o = p))) ∧ New w w' := by
  obtain ⟨k, l, xs⟩ := o
  obtain ⟨k', l', ys⟩ := p
  simp only at h g ⊢
  unfold txt
  have hn : ∀ (W : World) (o o' : Obj), New W ((W.alloc o).alloc o') := fun W o o' => ((New.refl W).alloc o).alloc o'
  have Hn := Lib.hid hn
  have heq := fun (W : World) (n : New w W) => slEqual u t xs ys W (h.new n) (g.new n)
  have Heq := Lib.hid heq
  obtain ⟨a, c, rfl, h1, ⟨h2, -⟩, -, -⟩ := h
  obtain ⟨a', c', rfl, g1, ⟨g2, -⟩, -, -⟩ := g
  unfold maxLen at h2 g2
  clear hn heq
  by_cases hk : k = k'
  · subst hk
    by_cases hl : l = l'
    · subst hl
      by_cases hx : xs = ys
      · have hd : decide (ItemR.mk k l xs = ItemR.mk k l ys) = true := by simp [hx]
        have hd2 : decide (xs = ys) = true := by simp [hx]
        rw [hd]
        rw [hd2] at Heq
        clear hd hd2 hx
        go_enter Tryd.func82, Tryd.ntmps82
        go_wp2_with fail
        refine (Heq.out _ (Hn.out _ _ _)).mono ?_
        rintro e w1 ⟨rfl, d1⟩
        have n1 := (Hn.out w _ _).trans d1.new
        clear d1
        go_wp2_with fail
        go_ret
        exact ⟨rfl, n1⟩
      · have hd : decide (ItemR.mk k l xs = ItemR.mk k l ys) = false := by simp [hx]
        have hd2 : decide (xs = ys) = false := by simp [hx]
        rw [hd]
        rw [hd2] at Heq
        clear hd hd2 hx
        go_enter Tryd.func82, Tryd.ntmps82
        go_wp2_with fail
        refine (Heq.out _ (Hn.out _ _ _)).mono ?_
        rintro e w1 ⟨rfl, d1⟩
        have n1 := (Hn.out w _ _).trans d1.new
        clear d1
        go_wp2_with fail
        go_ret
        exact ⟨rfl, n1⟩
    · have hd : decide (ItemR.mk k l xs = ItemR.mk k l' ys) = false := by simp [hl]
      rw [hd]
      have hcs : (l = true ∧ l' = false) ∨ (l = false ∧ l' = true) := by revert hl; cases l <;> cases l' <;> simp
      clear hd hl
      rcases hcs with ⟨rfl, rfl⟩ | ⟨rfl, rfl⟩
      all_goals
        go_enter Tryd.func82, Tryd.ntmps82
        go_wp2_with fail
        go_ret
        exact ⟨rfl, Hn.out _ _ _⟩
  · have hd : decide (ItemR.mk k l xs = ItemR.mk k' l' ys) = false := by simp [hk]
    have hb : (k == k') = false := by simp [hk]
    have hb2 : (k != k') = true := by simp [hk]
    rw [hd]
    clear hd hk
    go_enter Tryd.func82, Tryd.ntmps82
    go_wp2_with fail
    go_ret
    exact ⟨rfl, Hn.out _ _ _⟩

set_option maxRecDepth 4000 in
set_option maxHeartbeats 400000 in
theorem l13Same {S T : Nat → Prop} (o p : ItemR) (u t : Value) (w : World) (h : Ints S w u o.ids) (g : Ints T w t p.ids) :
    Calls Tryd.prog 65 #[.agg #[txt o.path, .bool o.dir, u], .agg #[txt p.path, .bool p.dir, t]] w fun e w' => e = .returned (.bool (decide (o = p))) ∧ New w w' := by
  obtain ⟨k, l, xs⟩ := o
  obtain ⟨k', l', ys⟩ := p
  simp only at h g ⊢
  unfold txt
  have hn : ∀ (W : World) (o o' : Obj), New W ((W.alloc o).alloc o') := fun W o o' => ((New.refl W).alloc o).alloc o'
  have Hn := Lib.hid hn
  have heq := fun (W : World) (n : New w W) => l2Same u t xs ys W (h.new n) (g.new n)
  have Heq := Lib.hid heq
  obtain ⟨a, c, rfl, h1, ⟨h2, -⟩, -, -⟩ := h
  obtain ⟨a', c', rfl, g1, ⟨g2, -⟩, -, -⟩ := g
  unfold maxLen at h2 g2
  clear hn heq
  by_cases hk : k = k'
  · subst hk
    by_cases hl : l = l'
    · subst hl
      by_cases hx : xs = ys
      · have hd : decide (ItemR.mk k l xs = ItemR.mk k l ys) = true := by simp [hx]
        have hd2 : decide (xs = ys) = true := by simp [hx]
        rw [hd]
        rw [hd2] at Heq
        clear hd hd2 hx
        go_enter Tryd.func65, Tryd.ntmps65
        go_wp2_with fail
        refine (Heq.out _ (Hn.out _ _ _)).mono ?_
        rintro e w1 ⟨rfl, d1⟩
        have n1 := (Hn.out w _ _).trans d1.new
        clear d1
        go_wp2_with fail
        go_ret
        exact ⟨rfl, n1⟩
      · have hd : decide (ItemR.mk k l xs = ItemR.mk k l ys) = false := by simp [hx]
        have hd2 : decide (xs = ys) = false := by simp [hx]
        rw [hd]
        rw [hd2] at Heq
        clear hd hd2 hx
        go_enter Tryd.func65, Tryd.ntmps65
        go_wp2_with fail
        refine (Heq.out _ (Hn.out _ _ _)).mono ?_
        rintro e w1 ⟨rfl, d1⟩
        have n1 := (Hn.out w _ _).trans d1.new
        clear d1
        go_wp2_with fail
        go_ret
        exact ⟨rfl, n1⟩
    · have hd : decide (ItemR.mk k l xs = ItemR.mk k l' ys) = false := by simp [hl]
      rw [hd]
      have hcs : (l = true ∧ l' = false) ∨ (l = false ∧ l' = true) := by revert hl; cases l <;> cases l' <;> simp
      clear hd hl
      rcases hcs with ⟨rfl, rfl⟩ | ⟨rfl, rfl⟩
      all_goals
        go_enter Tryd.func65, Tryd.ntmps65
        go_wp2_with fail
        go_ret
        exact ⟨rfl, Hn.out _ _ _⟩
  · have hd : decide (ItemR.mk k l xs = ItemR.mk k' l' ys) = false := by simp [hk]
    have hb : (k == k') = false := by simp [hk]
    have hb2 : (k != k') = true := by simp [hk]
    rw [hd]
    clear hd hk
    go_enter Tryd.func65, Tryd.ntmps65
    go_wp2_with fail
    go_ret
    exact ⟨rfl, Hn.out _ _ _⟩

end Go.Proofs.YtkffejommncinaaDoor
