/- Equal bytes: the reference's l2Same, slices.Equal; slices.Clone; the reference's BlockValid. -/
import Derived.Test.YtipligidnoajfaaDoorBlockOk
import Derived.Test.YtipligidnoajfaaDoorIn
namespace Go.Proofs.YtipligidnoajfaaDoor
open Go.RowKit

set_option maxRecDepth 4000 in
set_option maxHeartbeats 400000 in
theorem l2Same {S T : Nat → Prop} (v u : Value) (xs ys : List Int) (w : World) (h : Ints S w v xs) (g : Ints T w u ys) :
    Calls Tryd.prog 35 #[v, u] w fun e w' => e = .returned (.bool (decide (xs = ys))) ∧ Drew w w' := by
  obtain ⟨a, c, rfl, h1, h2, h3, h4⟩ := h
  obtain ⟨a', c', rfl, g1, g2, g3, g4⟩ := g
  replace h2 := h2.1
  replace g2 := g2.1
  unfold maxLen at h2 g2
  by_cases hl : xs.length = ys.length
  · have e0 := eqFrom_is xs ys hl
    have E0 := Lib.hid e0
    have hne : (((xs.length : Int) != (ys.length : Int))) = false := by simp [hl]
    have Hl := Lib.hid hl
    clear e0 hl
    go_enter Tryd.func35, Tryd.ntmps35
    go_wp2
    go_loopw [5] (fun i wr => ∃ (k : Nat), k ≤ xs.length ∧ i = .int .i64 k ∧ Drew w wr ∧ eqFrom xs ys = eqFrom (xs.drop k) (ys.drop k)) (fun i _ => xs.length - (intOf i).toNat)
    case atStart => exact ⟨0, Nat.zero_le _, rfl, Drew.refl _, rfl⟩
    case round =>
      obtain ⟨k, hk, rfl, hw, he⟩ := hrel
      rename World => wr
      have He := Lib.hid he
      clear he
      by_cases hlt : k < xs.length
      · obtain ⟨x, hx⟩ := get_of hlt
        have hlt2 : k < ys.length := by rw [← Hl.out]; exact hlt
        obtain ⟨y, hy⟩ := get_of hlt2
        rcases h4 with rfl | ⟨b, off, rfl, _, hb, hc⟩
        · simp at hlt
        rcases g4 with rfl | ⟨b', off', rfl, _, hb', hc'⟩
        · simp at hlt2
        have hcx : wr.cell? ⟨b, off + k, none⟩ = some (.int .i64 x) := by rw [hw.cell]; exact hc k x hx
        have hcy : wr.cell? ⟨b', off' + k, none⟩ = some (.int .i64 y) := by rw [hw.cell]; exact hc' k y hy
        have Hx := Lib.hid (drop_of hx)
        have Hy := Lib.hid (drop_of hy)
        clear hc hx hc' hy
        by_cases hxy : x = y
        · subst hxy
          go_wp2
          go_quiet (fail)
          go_wp2
          go_roundw
          case rel => exact ⟨k + 1, by omega, by go_num, hw.drewN _, by rw [He.out, Hx.out, Hy.out]; simp [eqFrom]⟩
          case measure => simp [intOf]; omega
        · have hxy' : (x != y) = true := by simpa using hxy
          go_wp2
          go_quiet (fail)
          go_wp2
          go_ret
          exact ⟨ret_bool (by rw [← E0.out, He.out, Hx.out, Hy.out]; simp [eqFrom, hxy]), hw.drewN _⟩
      · go_wp2
        go_ret
        exact ⟨ret_bool (by rw [← E0.out, He.out, drop_end hlt]; simp [eqFrom]), hw⟩
  · have hne : (((xs.length : Int) != (ys.length : Int))) = true := by simp; omega
    have Hl := Lib.hid hl
    clear hl
    go_enter Tryd.func35, Tryd.ntmps35
    go_wp2
    go_ret
    exact ⟨ret_bool (by simp; intro e; exact Hl.out (by rw [e])), Drew.refl _⟩

set_option maxRecDepth 4000 in
set_option maxHeartbeats 400000 in
theorem slEqual {S T : Nat → Prop} (v u : Value) (xs ys : List Int) (w : World) (h : Ints S w v xs) (g : Ints T w u ys) :
    Calls Tryd.prog 54 #[v, u] w fun e w' => e = .returned (.bool (decide (xs = ys))) ∧ Drew w w' := by
  obtain ⟨a, c, rfl, h1, h2, h3, h4⟩ := h
  obtain ⟨a', c', rfl, g1, g2, g3, g4⟩ := g
  replace h2 := h2.1
  replace g2 := g2.1
  unfold maxLen at h2 g2
  by_cases hl : xs.length = ys.length
  · have e0 := eqFrom_is xs ys hl
    have E0 := Lib.hid e0
    have hne : (((xs.length : Int) != (ys.length : Int))) = false := by simp [hl]
    have Hl := Lib.hid hl
    clear e0 hl
    go_enter Tryd.func54, Tryd.ntmps54
    go_wp2
    go_loopw [13] (fun i wr => ∃ (k : Nat), k ≤ xs.length ∧ i = .int .i64 k ∧ Drew w wr ∧ eqFrom xs ys = eqFrom (xs.drop k) (ys.drop k)) (fun i _ => xs.length - (intOf i).toNat)
    case atStart => exact ⟨0, Nat.zero_le _, rfl, Drew.refl _, rfl⟩
    case round =>
      obtain ⟨k, hk, rfl, hw, he⟩ := hrel
      rename World => wr
      have He := Lib.hid he
      clear he
      by_cases hlt : k < xs.length
      · obtain ⟨x, hx⟩ := get_of hlt
        have hlt2 : k < ys.length := by rw [← Hl.out]; exact hlt
        obtain ⟨y, hy⟩ := get_of hlt2
        rcases h4 with rfl | ⟨b, off, rfl, _, hb, hc⟩
        · simp at hlt
        rcases g4 with rfl | ⟨b', off', rfl, _, hb', hc'⟩
        · simp at hlt2
        have hcx : wr.cell? ⟨b, off + k, none⟩ = some (.int .i64 x) := by rw [hw.cell]; exact hc k x hx
        have hcy : wr.cell? ⟨b', off' + k, none⟩ = some (.int .i64 y) := by rw [hw.cell]; exact hc' k y hy
        have Hx := Lib.hid (drop_of hx)
        have Hy := Lib.hid (drop_of hy)
        clear hc hx hc' hy
        by_cases hxy : x = y
        · subst hxy
          go_wp2
          go_quiet (fail)
          go_wp2
          go_roundw
          case rel => exact ⟨k + 1, by omega, by go_num, hw.drewN _, by rw [He.out, Hx.out, Hy.out]; simp [eqFrom]⟩
          case measure => simp [intOf]; omega
        · have hxy' : (x != y) = true := by simpa using hxy
          go_wp2
          go_quiet (fail)
          go_wp2
          go_ret
          exact ⟨ret_bool (by rw [← E0.out, He.out, Hx.out, Hy.out]; simp [eqFrom, hxy]), hw.drewN _⟩
      · go_wp2
        go_ret
        exact ⟨ret_bool (by rw [← E0.out, He.out, drop_end hlt]; simp [eqFrom]), hw⟩
  · have hne : (((xs.length : Int) != (ys.length : Int))) = true := by simp; omega
    have Hl := Lib.hid hl
    clear hl
    go_enter Tryd.func54, Tryd.ntmps54
    go_wp2
    go_ret
    exact ⟨ret_bool (by simp; intro e; exact Hl.out (by rw [e])), Drew.refl _⟩

set_option maxRecDepth 4000 in
set_option maxHeartbeats 400000 in
theorem slClone {S : Nat → Prop} (v : Value) (xs : List Int) (w : World) (h : Ints S w v xs) (hl : xs.length ≤ 1048576) :
    Calls Tryd.prog 41 #[v] w fun e w' => ∃ v', e = .returned v' ∧ New w w' ∧ OwnInts 3 (fun k => w.heap.size ≤ k) w' v' xs := by
  have h0 := h
  obtain ⟨a, c, rfl, h1, ⟨h2, h2'⟩, h3, h4⟩ := h
  unfold maxLen at h2
  rcases a with _ | ad
  · obtain rfl := h2' rfl
    obtain rfl : xs = [] := List.eq_nil_of_length_eq_zero (by omega)
    have hnil : (binOp .eql 23 (.slice none 0 0) (.slice none 0 0)).run Tryd.prog w = .ok (.bool true) w := by kernel_rfl
    go_enter Tryd.func41, Tryd.ntmps41
    go_wp2_with fail
    go_ret
    exact ⟨_, rfl, New.refl _, OwnNums.nil _ _ _ _⟩
  · clear h4
    have hnil : ∀ n : Nat, (binOp .eql 23 (.slice (some ad) n c) (.slice none 0 0)).run Tryd.prog w = .ok (.bool false) w := fun n => by kernel_rfl
    go_enter Tryd.func41, Tryd.ntmps41
    go_wp2_with first
      | fail
      | (refine wpRow_append slInt _ _ rfl rfl (.slice (some ⟨w.heap.size, 0, none⟩) 0 0) 0 [] rfl (Row.empty 3 1 w) (some ad) xs.length c (xs.map (Value.int .i64)) rfl (Nums.src (h0.new ((New.refl _).alloc _))) (oneCells _ _) ?_ ?_ ?_
         · unfold maxLen; omega
         · omega
         intro v1 w1 o1 c1)
    go_ret
    rw [Nat.zero_add, List.nil_append] at o1
    refine ⟨_, rfl, ((New.refl _).alloc _).trans_chg c1 (fun j hj e => by have e' := own_some e; simp only at e'; omega), ⟨o1.mono (fun j _ hj => ?_), h3⟩⟩
    rcases hj with hj | hj
    · have e' := own_some hj; simp only at e'; omega
    · simp at hj; omega

theorem blockOk_in (xs : List Int) : blockOk xs = (bytesOk xs && inB xs.length 1 8) := by
  unfold blockOk inB
  rcases bytesOk xs with _ | _
  · simp
  · simp only [Bool.and_true, Bool.true_and]
    congr 1 <;> exact decide_eq_decide.2 (by omega)

set_option maxRecDepth 4000 in
set_option maxHeartbeats 400000 in
theorem specBlock {S : Nat → Prop} (v : Value) (xs : List Int) (w : World) (h : Ints S w v xs) :
    Calls Tryd.prog 34 #[v] w fun e w' => e = .returned (.bool (blockOk xs)) ∧ w = w' := by
  rw [blockOk_in]
  obtain ⟨a, c, rfl, h1, ⟨h2, -⟩, h3, h4⟩ := h
  unfold maxLen at h2
  go_enter Tryd.func34, Tryd.ntmps34
  go_wp2
  go_loop [3] (fun i => ∃ (k : Nat), k ≤ xs.length ∧ i = .int .i64 k ∧ bytesOk xs = bytesOk (xs.drop k)) (fun i => xs.length - (intOf i).toNat)
  case atStart => exact ⟨0, Nat.zero_le _, rfl, rfl⟩
  case round =>
    obtain ⟨k, hk, rfl, hq⟩ := hrel
    have Hq := Lib.hid hq; clear hq
    by_cases hlt : k < xs.length
    · obtain ⟨x, hx⟩ := get_of hlt
      rcases h4 with rfl | ⟨b, off, rfl, _, _, hc⟩
      · simp at hlt
      have hcell := hc k x hx
      have Hx := Lib.hid (drop_of hx)
      clear hc hx
      rcases hin : inB x 0 255 with _ | _
      · have Hin := Lib.hid hin
        have hf : bytesOk xs = false := by rw [Hq.out, Hx.out, bytesOk_in, hin]; rfl
        have Hf := Lib.hid hf
        clear hin hf
        go_wp2_with fail
        refine (in_is Hin.out _).mono ?_
        rintro e w1 ⟨rfl, rfl⟩
        go_wp2_with fail
        go_ret
        exact ⟨ret_bool (by simp [Hf.out]), rfl⟩
      · have Hin := Lib.hid hin
        have hf : bytesOk xs = bytesOk (xs.drop (k + 1)) := by rw [Hq.out, Hx.out, bytesOk_in, hin]; simp
        have Hf := Lib.hid hf
        clear hin hf
        go_wp2_with fail
        refine (in_is Hin.out _).mono ?_
        rintro e w1 ⟨rfl, rfl⟩
        go_wp2_with fail
        go_round
        case rel => exact ⟨k + 1, by omega, by go_num, Hf.out⟩
        case measure => simp [intOf]; omega
    · go_wp2_with fail
      refine (in_any _ _ _ _).mono ?_
      rintro e w1 ⟨rfl, rfl⟩
      go_wp2_with fail
      go_ret
      exact ⟨ret_bool (by rw [Hq.out, drop_end hlt]; simp [bytesOk]), rfl⟩
end Go.Proofs.YtipligidnoajfaaDoor
