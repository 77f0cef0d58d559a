/- Equal bytes: the reference's l2Same, slices.Equal; slices.Clone; the reference's BlockValid. -/
import Derived.Test.YtkffejommncinaaDoorItemsA
import Derived.Test.YtkffejommncinaaDoorBaseA
namespace Go.Proofs.YtkffejommncinaaDoor
open Go.RowKit

set_option maxRecDepth 4000 in
set_option maxHeartbeats 400000 in
theorem l2Same {S T : Nat → Prop} (v u : Value) (xs ys : List Int) (w : World) (h : Ints S w v xs) (g : Ints T w u ys) :
    Calls Tryd.prog 83 #[v, u] w fun e w' => e = .returned (.bool (decide (xs = ys))) ∧ Drew w w' := by
  obtain ⟨a, c, rfl, h1, h2, h3, h4⟩ := h
  obtain ⟨a', c', rfl, g1, g2, g3, g4⟩ := g
  replace h2 := h2.1
  replace g2 := g2.1
  unfold maxLen at h2 g2
  by_cases hl : xs.length = ys.length
  · have e0 := eqFrom_is xs ys hl
    have E0 := Lib.hid e0
    have hne : (((xs.length : Int) != (ys.length : Int))) = false := by simp [hl]
    have Hl := Lib.hid hl
    clear e0 hl
    go_enter Tryd.func83, Tryd.ntmps83
    go_wp2
    go_loopw [5] (fun i wr => ∃ (k : Nat), k ≤ xs.length ∧ i = .int .i64 k ∧ Drew w wr ∧ eqFrom xs ys = eqFrom (xs.drop k) (ys.drop k)) (fun i _ => xs.length - (intOf i).toNat)
    case atStart => exact ⟨0, Nat.zero_le _, rfl, Drew.refl _, rfl⟩
    case round =>
      obtain ⟨k, hk, rfl, hw, he⟩ := hrel
      rename World => wr
      have He := Lib.hid he
      clear he
      by_cases hlt : k < xs.length
      · obtain ⟨x, hx⟩ := get_of hlt
        have hlt2 : k < ys.length := by rw [← Hl.out]; exact hlt
        obtain ⟨y, hy⟩ := get_of hlt2
        rcases h4 with rfl | ⟨b, off, rfl, _, hb, hc⟩
        · simp at hlt
        rcases g4 with rfl | ⟨b', off', rfl, _, hb', hc'⟩
        · simp at hlt2
        have hcx : wr.cell? ⟨b, off + k, none⟩ = some (.int .i64 x) := by rw [hw.cell]; exact hc k x hx
        have hcy : wr.cell? ⟨b', off' + k, none⟩ = some (.int .i64 y) := by rw [hw.cell]; exact hc' k y hy
        have Hx := Lib.hid (drop_of hx)
        have Hy := Lib.hid (drop_of hy)
        clear hc hx hc' hy
        by_cases hxy : x = y
        · subst hxy
          go_wp2
          go_quiet (fail)
          go_wp2
          go_roundw
          case rel => exact ⟨k + 1, by omega, by go_num, hw.drewN _, by rw [He.out, Hx.out, Hy.out]; simp [eqFrom]⟩
          case measure => simp [intOf]; omega
        · have hxy' : (x != y) = true := by simpa using hxy
          go_wp2
          go_quiet (fail)
          go_wp2
          go_ret
          exact ⟨ret_bool (by rw [← E0.out, He.out, Hx.out, Hy.out]; simp [eqFrom, hxy]), hw.drewN _⟩
      · go_wp2
        go_ret
        exact ⟨ret_bool (by rw [← E0.out, He.out, drop_end hlt]; simp [eqFrom]), hw⟩
  · have hne : (((xs.length : Int) != (ys.length : Int))) = true := by simp; omega
    have Hl := Lib.hid hl
    clear hl
    go_enter Tryd.func83, Tryd.ntmps83
    go_wp2
    go_ret
    exact ⟨ret_bool (by simp; intro e; exact Hl.out (by rw [e])), Drew.refl _⟩

set_option maxRecDepth 4000 in
set_option maxHeartbeats 400000 in
theorem slEqual {S T : Nat → Prop} (v u : Value) (xs ys : List Int) (w : World) (h : Ints S w v xs) (g : Ints T w u ys) :
    Calls Tryd.prog 94 #[v, u] w fun e w' => e = .returned (.bool (decide (xs = ys))) ∧ Drew w w' := by
  obtain ⟨a, c, rfl, h1, h2, h3, h4⟩ := h
  obtain ⟨a', c', rfl, g1, g2, g3, g4⟩ := g
  replace h2 := h2.1
  replace g2 := g2.1
  unfold maxLen at h2 g2
  by_cases hl : xs.length = ys.length
  · have e0 := eqFrom_is xs ys hl
    have E0 := Lib.hid e0
    have hne : (((xs.length : Int) != (ys.length : Int))) = false := by simp [hl]
    have Hl := Lib.hid hl
    clear e0 hl
    go_enter Tryd.func94, Tryd.ntmps94
    go_wp2
    go_loopw [13] (fun i wr => ∃ (k : Nat), k ≤ xs.length ∧ i = .int .i64 k ∧ Drew w wr ∧ eqFrom xs ys = eqFrom (xs.drop k) (ys.drop k)) (fun i _ => xs.length - (intOf i).toNat)
    case atStart => exact ⟨0, Nat.zero_le _, rfl, Drew.refl _, rfl⟩
    case round =>
      obtain ⟨k, hk, rfl, hw, he⟩ := hrel
      rename World => wr
      have He := Lib.hid he
      clear he
      by_cases hlt : k < xs.length
      · obtain ⟨x, hx⟩ := get_of hlt
        have hlt2 : k < ys.length := by rw [← Hl.out]; exact hlt
        obtain ⟨y, hy⟩ := get_of hlt2
        rcases h4 with rfl | ⟨b, off, rfl, _, hb, hc⟩
        · simp at hlt
        rcases g4 with rfl | ⟨b', off', rfl, _, hb', hc'⟩
        · simp at hlt2
        have hcx : wr.cell? ⟨b, off + k, none⟩ = some (.int .i64 x) := by rw [hw.cell]; exact hc k x hx
        have hcy : wr.cell? ⟨b', off' + k, none⟩ = some (.int .i64 y) := by rw [hw.cell]; exact hc' k y hy
        have Hx := Lib.hid (drop_of hx)
        have Hy := Lib.hid (drop_of hy)
        clear hc hx hc' hy
        by_cases hxy : x = y
        · subst hxy
          go_wp2
          go_quiet (fail)
          go_wp2
          go_roundw
          case rel => exact ⟨k + 1, by omega, by go_num, hw.drewN _, by rw [He.out, Hx.out, Hy.out]; simp [eqFrom]⟩
          case measure => simp [intOf]; omega
        · have hxy' : (x != y) = true := by simpa using hxy
          go_wp2
          go_quiet (fail)
          go_wp2
          go_ret
          exact ⟨ret_bool (by rw [← E0.out, He.out, Hx.out, Hy.out]; simp [eqFrom, hxy]), hw.drewN _⟩
      · go_wp2
        go_ret
        exact ⟨ret_bool (by rw [← E0.out, He.out, drop_end hlt]; simp [eqFrom]), hw⟩
  · have hne : (((xs.length : Int) != (ys.length : Int))) = true := by simp; omega
    have Hl := Lib.hid hl
    clear hl
    go_enter Tryd.func94, Tryd.ntmps94
    go_wp2
    go_ret
    exact ⟨ret_bool (by simp; intro e; exact Hl.out (by rw [e])), Drew.refl _⟩

end Go.Proofs.YtkffejommncinaaDoor
