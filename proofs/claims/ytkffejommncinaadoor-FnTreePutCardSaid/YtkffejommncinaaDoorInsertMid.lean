/- slices.Insert of one pointer ahead of another: in place, or into a new row. -/
import Derived.Test.YtkffejommncinaaDoorDelete
import Derived.Shelf.Spec.SlicesInsert
import Derived.Lib.AppendZerosOnto
import Derived.Deep.RegionHeld3
namespace Go.Proofs.YtkffejommncinaaDoor
open Go.RowKit

/-- what is written over a row's cells -/
theorem cells_set {w : World} {g o : Nat} {vs : List Value} (h : ∀ j, j < vs.length → (w.cell? ⟨g, o + j, none⟩).isSome = true) (j : Nat) : (w.setCells g o vs).cell? ⟨g, j, none⟩ = if o ≤ j ∧ j < o + vs.length then vs[j - o]? else w.cell? ⟨g, j, none⟩ := by
  by_cases hj : o ≤ j ∧ j < o + vs.length
  · rw [if_pos hj]
    have := World.cell?_setCells_in g vs o w h (j - o) (by omega)
    rw [show o + (j - o) = j by omega] at this
    rw [this, List.getElem?_eq_getElem (by omega)]
  · rw [if_neg hj, World.cell?_setCells_out _ _ _ _ _ (fun _ _ => by show j < o ∨ o + vs.length ≤ j; omega)]
theorem mid_get {us : List Value} {i : Nat} {p : Value} (hi : i ≤ us.length) (j : Nat) : (us.take i ++ p :: us.drop i)[j]? = if j < i then us[j]? else if j = i then some p else us[j - 1]? := by
  have hl : (us.take i).length = i := by rw [List.length_take]; omega
  by_cases h1 : j < i
  · rw [if_pos h1, List.getElem?_append_left (by omega), List.getElem?_take, if_pos h1]
  · rw [if_neg h1, List.getElem?_append_right (by omega), hl]
    by_cases h2 : j = i
    · subst h2; rw [if_pos rfl, Nat.sub_self]; rfl
    · rw [if_neg h2, show j - i = (j - i - 1) + 1 by omega, List.getElem?_cons_succ, List.getElem?_drop]
      congr 1; omega

set_option maxRecDepth 100000 in
set_option maxHeartbeats 4000000 in
theorem slInsertRoom {S : Nat → Prop} (g n c i : Nat) (us : List Value) (nb k : Nat) (tn : TypeId) (w : World) (h : Row 63 1 S w (.slice (some ⟨g, 0, none⟩) n c) n us) (hi : i < n) (hn : n ≤ 1000) (hroom : n + 1 ≤ c) (h1 : ∀ u ∈ us, u.oneCell' = true)
    (hv : w.heap[nb]? = some (.cells #[.pointer (some ⟨k, 0, none⟩)] tn)) (hne : nb ≠ g) :
    Calls Tryd.prog 85 #[.slice (some ⟨g, 0, none⟩) n c, .int .i64 i, .slice (some ⟨nb, 0, none⟩) 1 1] w fun e w' =>
      e = .returned (.slice (some ⟨g, 0, none⟩) (n + 1) c) ∧ Row 63 1 (fun j => j = g) w' (.slice (some ⟨g, 0, none⟩) (n + 1) c) (n + 1) (us.take i ++ .pointer (some ⟨k, 0, none⟩) :: us.drop i) ∧ Chg (fun j => j = g) w w' := by
  obtain ⟨cur, hh, hs, hnc, hcm, hul⟩ := h.heapAt
  have hcell := fun (j : Nat) (x : Value) (hx : us[j]? = some x) => h.cellAt hx
  have hfz := fun (j : Nat) => h.frozenAt j
  have hsp : ∀ j, j < c → (w.cell? ⟨g, j, none⟩).isSome = true := fun j hj => by
    simp only [World.cell?, hh]
    rw [show (cur[(⟨g, j, none⟩ : Addr).off]?) = cur[j]? from rfl, Array.getElem?_eq_getElem (by omega)]; rfl
  have hdl : (us.drop i).length = n - i := by rw [List.length_drop, hul]
  have hsz : (Tryd.prog.info? 63).map (·.size) = some 1 := by
    obtain ⟨i0, hi0, hz0, hz1, hz2⟩ := info_parts slPtr.2.1
    rw [hi0]; simp [hz1]
  have hsa : w.shape? nb = some (tn, 1) := by simp [World.shape?, hv]
  have hsb : w.shape? g = some (63, c) := by simp [World.shape?, hh, hs]
  have hov : ∀ lb cb, (callFunc 96 #[.slice (some ⟨nb, 0, none⟩) 1 1, .slice (some ⟨g, i + 1, none⟩) lb cb]).run Tryd.prog w = .ok (.value (.bool false)) w := fun lb cb => by
    rw [run_callFunc_extern Tryd.func96 (by kernel_rfl) (by kernel_rfl) (by kernel_rfl) (e := Extern.SlicesOverlaps.overlaps #[67, 67] #[4]) (by kernel_rfl),
      Lib.run_overlaps_apart w 67 4 63 Tryd.underlying67 1 (fun w => by kernel_rfl) ⟨nb, 0, none⟩ ⟨g, i + 1, none⟩ 1 1 lb cb hne tn _ 1 c hsa hsb (by omega) (by simp [World.frozen?, hv]) (by simp [World.frozen?, hv])]
    rfl
  have hcp1 : ∀ ty dc sc, (Builtin.copy_ #[67, 67] ty #[.slice (some ⟨g, i + 1, none⟩) (n + 1 - (i + 1)) dc, .slice (some ⟨g, i, none⟩) (n + 1 - i) sc]).run Tryd.prog w.drew = .ok (goInt (us.drop i).length) (w.drew.setCells g (i + 1) (us.drop i)) := fun ty dc sc =>
    run_copy_cells w.drew _ _ ty 63 g (i + 1) (n + 1 - (i + 1)) dc ⟨g, i, none⟩ (n + 1 - i) sc (us.drop i) Tryd.underlying67 hsz (by rw [hdl]; simp only [Nat.min_def]; split <;> omega)
      (fun j v hj => by rw [addr_add]; exact hcell (i + j) v (by rwa [List.getElem?_drop] at hj))
      (fun j hj => hsp _ (by omega)) (fun j hj => hfz _) (fun v hv => h1 v (List.mem_of_mem_drop hv))
  obtain ⟨W1, hW1⟩ : ∃ W1, W1 = w.drew.setCells g (i + 1) (us.drop i) := ⟨_, rfl⟩
  have hc1 : Chg (fun j => j = g) w W1 := by
    rw [hW1]; exact ((Chg.refl (fun j => j = g) w).drew).trans (setCells_chg g _ _ _)
  obtain ⟨cur1, hh1, hs1⟩ : ∃ cur1, W1.heap[g]? = some (.cells cur1 63) ∧ cur1.size = c := by
    obtain ⟨c2, e1, e2⟩ := setCells_heap g 63 (us.drop i) (i + 1) w.drew cur hh
    exact ⟨c2, by rw [hW1]; exact e1, by rw [e2, hs]⟩
  have hv1 := hc1.heap hv hne
  have hsp1 : ∀ j, j < c → (W1.cell? ⟨g, j, none⟩).isSome = true := fun j hj => by
    simp only [World.cell?, hh1]
    rw [show (cur1[(⟨g, j, none⟩ : Addr).off]?) = cur1[j]? from rfl, Array.getElem?_eq_getElem (by omega)]; rfl
  have hfz1 : ∀ j, W1.frozen? ⟨g, j, none⟩ = false := fun j => by rw [hW1, World.frozen?_setCells]; exact hfz j
  have hcp2 : ∀ ty dc, (Builtin.copy_ #[67, 67] ty #[.slice (some ⟨g, i, none⟩) (n + 1 - i) dc, .slice (some ⟨nb, 0, none⟩) 1 1]).run Tryd.prog W1 = .ok (goInt 1) (W1.setCells g i [.pointer (some ⟨k, 0, none⟩)]) := fun ty dc =>
    run_copy_cells W1 _ _ ty 63 g i (n + 1 - i) dc ⟨nb, 0, none⟩ 1 1 [.pointer (some ⟨k, 0, none⟩)] Tryd.underlying67 hsz (by simp only [Nat.min_def, List.length_singleton]; split <;> omega)
      (fun j v hj => by
        rw [addr_add, Nat.zero_add]
        rcases j with _ | j
        · simp at hj; subst hj; simp [World.cell?, hv1]
        · simp at hj)
      (fun j hj => hsp1 _ (by simp at hj; omega)) (fun j hj => hfz1 _) (by intro v hv; simp at hv; subst hv; rfl)
  have fin : ∀ W2, W2 = W1.setCells g i [.pointer (some ⟨k, 0, none⟩)] → Row 63 1 (fun j => j = g) W2 (.slice (some ⟨g, 0, none⟩) (n + 1) c) (n + 1) (us.take i ++ .pointer (some ⟨k, 0, none⟩) :: us.drop i) ∧ Chg (fun j => j = g) w W2 := by
    intro W2 hW2
    obtain ⟨cur2, hh2, hs2⟩ : ∃ cur2, W2.heap[g]? = some (.cells cur2 63) ∧ cur2.size = c := by
      obtain ⟨c2, e1, e2⟩ := setCells_heap g 63 [.pointer (some ⟨k, 0, none⟩)] i W1 cur1 hh1
      exact ⟨c2, by rw [hW2]; exact e1, by rw [e2, hs1]⟩
    refine ⟨Row.ofCells hh2 hs2 hroom hcm (by simp; omega) (fun j x hx => ?_), by rw [hW2]; exact hc1.trans (setCells_chg g _ _ _)⟩
    have hjn : j < n + 1 := by
      have := (List.getElem?_eq_some_iff.1 hx).1
      simp at this; omega
    rw [mid_get (by omega)] at hx
    rw [hW2, cells_set (fun j hj => hsp1 _ (by simp at hj; omega)) j]
    by_cases c1 : j < i
    · rw [if_pos c1] at hx
      rw [if_neg (by omega), hW1, cells_set (w := w.drew) (vs := us.drop i) (fun t ht => hsp _ (by rw [hdl] at ht; omega)) j, if_neg (by omega)]
      exact hcell j x hx
    · rw [if_neg c1] at hx
      by_cases c2 : j = i
      · rw [if_pos c2] at hx
        rw [if_pos (by simp; omega), c2, Nat.sub_self]; exact hx
      · rw [if_neg c2] at hx
        rw [if_neg (by simp; omega), hW1, cells_set (w := w.drew) (vs := us.drop i) (fun t ht => hsp _ (by rw [hdl] at ht; omega)) j, if_pos (by rw [hdl]; omega), List.getElem?_drop, show i + (j - (i + 1)) = j - 1 by omega]
        exact hx
  have Fin := Lib.hid fin
  rw [← hW1] at hcp1
  have HW1 := Lib.hid hW1
  have Hcp1 := Lib.hid hcp1
  have hz2 : ¬ ((i : Int) = (n : Int)) := by omega
  have hw1 : IntKind.i64.wrap ((i : Int) + 1) = (i : Int) + 1 := IntWalk.i64_in _ (by unfold maxLen at hcm; omega)
  have hb1 : (0 : Int) ≤ (i : Int) + 1 := by omega
  have hin : i ≤ n := by omega
  have htn : ((i : Int) + 1).toNat = i + 1 := by omega
  have hb2 : ¬ (c = i + 1) := by omega
  have hb3 : (i : Int) ≤ (n : Int) + 1 := by omega
  have hb4 : ¬ (c = i) := by omega
  unfold maxLen at hcm
  clear hcell hfz hsp hdl hh hs hsa hsb hh1 hs1 hv1 hsp1 hfz1 fin hc1 hcp1 hW1 cur cur1
  go_enter Tryd.func85, Tryd.ntmps85
  go_wp2_with (simp only [hov])
  refine wp_region_held_drew (S := (fun _ => True)) (by kernel_rfl) ?_ (fun hHeld => ?_)
  · exact trivial
  refine wpAnyH_take (i := 0) (v := ?_) (oi := ?_) ?hi_1 ?hs_1 ?hf_1 ?hr_1 ?hQ_1 ?hy_1 ?hS_1 ?h_1
  case hi_1 => (simp only [List.getElem?_toArray, List.getElem?_cons_zero] <;> rfl)
  case hs_1 => kernel_rfl
  case hf_1 => kernel_rfl
  case hr_1 => kernel_rfl
  case hQ_1 => exact fun _ _ _ h => h
  case hy_1 => (refine Or.inl ⟨by rfl, ?_⟩; intro w hSw; (try dsimp only at hSw); go_simp; try with_reducible rfl)
  case hS_1 => assumption
  try go_frame
  refine wpAnyH_take (i := 1) (v := ?_) (oi := ?_) ?hi_2 ?hs_2 ?hf_2 ?hr_2 ?hQ_2 ?hy_2 ?hS_2 ?h_2
  case hi_2 => (simp only [List.getElem?_toArray, List.getElem?_cons_zero, List.getElem?_cons_succ] <;> rfl)
  case hs_2 => kernel_rfl
  case hf_2 => kernel_rfl
  case hr_2 => kernel_rfl
  case hQ_2 => exact fun _ _ _ h => h
  case hy_2 => (refine Or.inl ⟨by rfl, ?_⟩; intro w hSw; (try dsimp only at hSw); go_simp; try with_reducible rfl)
  case hS_2 => assumption
  try go_frame
  refine wpAnyH_take (i := 2) (v := ?_) (oi := ?_) ?hi_3 ?hs_3 ?hf_3 ?hr_3 ?hQ_3 ?hy_3 ?hS_3 ?h_3
  case hi_3 => (simp only [List.getElem?_toArray, List.getElem?_cons_zero, List.getElem?_cons_succ] <;> rfl)
  case hs_3 => kernel_rfl
  case hf_3 => kernel_rfl
  case hr_3 => kernel_rfl
  case hQ_3 => exact fun _ _ _ h => h
  case hy_3 => (refine Or.inl ⟨by rfl, ?_⟩; intro w hSw; (try dsimp only at hSw); go_simp; try with_reducible rfl)
  case hS_3 => assumption
  try go_frame
  refine wpAnyH_take (i := 3) (v := ?_) (oi := ?_) ?hi_4 ?hs_4 ?hf_4 ?hr_4 ?hQ_4 ?hy_4 ?hS_4 ?h_4
  case hi_4 => (simp only [List.getElem?_toArray, List.getElem?_cons_zero, List.getElem?_cons_succ] <;> rfl)
  case hs_4 => kernel_rfl
  case hf_4 => kernel_rfl
  case hr_4 => kernel_rfl
  case hQ_4 => exact fun _ _ _ h => h
  case hy_4 => (refine Or.inl ⟨by rfl, ?_⟩; intro w hSw; (try dsimp only at hSw); go_simp; try with_reducible rfl)
  case hS_4 => assumption
  try go_frame
  refine wpAnyH_take (i := 4) (v := ?_) (oi := ?_) ?hi_5 ?hs_5 ?hf_5 ?hr_5 ?hQ_5 ?hy_5 ?hS_5 ?h_5
  case hi_5 => (simp only [List.getElem?_toArray, List.getElem?_cons_zero, List.getElem?_cons_succ] <;> rfl)
  case hs_5 => kernel_rfl
  case hf_5 => kernel_rfl
  case hr_5 => kernel_rfl
  case hQ_5 => exact fun _ _ _ h => h
  case hy_5 => (refine Or.inl ⟨by rfl, ?_⟩; intro w hSw; (try dsimp only at hSw); go_simp; try with_reducible rfl)
  case hS_5 => assumption
  try go_frame
  refine wpAnyH_take (i := 5) (v := ?_) (oi := ?_) ?hi_6 ?hs_6 ?hf_6 ?hr_6 ?hQ_6 ?hy_6 ?hS_6 ?h_6
  case hi_6 => (simp only [List.getElem?_toArray, List.getElem?_cons_zero, List.getElem?_cons_succ] <;> rfl)
  case hs_6 => kernel_rfl
  case hf_6 => kernel_rfl
  case hr_6 => kernel_rfl
  case hQ_6 => exact fun _ _ _ h => h
  case hy_6 => (refine Or.inl ⟨by rfl, ?_⟩; intro w hSw; (try dsimp only at hSw); go_simp; try with_reducible rfl)
  case hS_6 => assumption
  try go_frame
  refine wpAnyH_take (i := 6) (v := ?_) (oi := ?_) ?hi_7 ?hs_7 ?hf_7 ?hr_7 ?hQ_7 ?hy_7 ?hS_7 ?h_7
  case hi_7 => (simp only [List.getElem?_toArray, List.getElem?_cons_zero, List.getElem?_cons_succ] <;> rfl)
  case hs_7 => kernel_rfl
  case hf_7 => kernel_rfl
  case hr_7 => kernel_rfl
  case hQ_7 => exact fun _ _ _ h => h
  case hy_7 => (refine Or.inl ⟨by rfl, ?_⟩; intro w hSw; (try dsimp only at hSw); go_simp; try with_reducible rfl)
  case hS_7 => assumption
  try go_frame
  refine wpAnyH_take (i := 7) (v := ?_) (oi := ?_) ?hi_8 ?hs_8 ?hf_8 ?hr_8 ?hQ_8 ?hy_8 ?hS_8 ?h_8
  case hi_8 => (simp only [List.getElem?_toArray, List.getElem?_cons_zero, List.getElem?_cons_succ] <;> rfl)
  case hs_8 => kernel_rfl
  case hf_8 => kernel_rfl
  case hr_8 => kernel_rfl
  case hQ_8 => exact fun _ _ _ h => h
  case hy_8 => (refine Or.inl ⟨by rfl, ?_⟩; intro w hSw; (try dsimp only at hSw); go_simp; try with_reducible rfl)
  case hS_8 => assumption
  try go_frame
  refine wpAnyH_ready (rs := [8]) (by kernel_rfl) (by simp) ?_
  refine (AllReadyH.cons (o := ?_) ?hi_9 (fun K hK => ?h_9) AllReadyH.nil)
  case hi_9 => (simp only [List.getElem?_toArray, List.getElem?_cons_zero, List.getElem?_cons_succ] <;> rfl)
  refine step_copy_runI rfl _ _ 67 67 rfl (.slice (some ⟨g, i + 1, none⟩) (n + 1 - (i + 1)) (c - (i + 1))) (.slice (some ⟨g, i, none⟩) (n + 1 - i) (c - i)) (by simp [Act.eval]) (by simp [Act.eval]) (Hcp1.out _ _ _) ?_
  refine hK.out _ _ ?_ (fun hHeld => ?_)
  · trivial
  clear hK K
  try go_frame
  refine wpAnyH_done (by kernel_rfl) ?_ _
  go_wp2_with fail
  go_ret
  obtain ⟨f1, f2⟩ := Fin.out _ rfl
  exact ⟨rfl, f1, f2⟩

set_option maxRecDepth 100000 in
set_option maxHeartbeats 4000000 in
theorem slInsertGrow {S : Nat → Prop} (g n c i : Nat) (us : List Value) (nb k : Nat) (tn : TypeId) (w : World) (h : Row 63 1 S w (.slice (some ⟨g, 0, none⟩) n c) n us) (hi : i < n) (hn : n ≤ 1000) (hroom : c < n + 1) (h1 : ∀ u ∈ us, u.oneCell' = true)
    (hv : w.heap[nb]? = some (.cells #[.pointer (some ⟨k, 0, none⟩)] tn)) :
    Calls Tryd.prog 85 #[.slice (some ⟨g, 0, none⟩) n c, .int .i64 i, .slice (some ⟨nb, 0, none⟩) 1 1] w fun e w' =>
      ∃ v', e = .returned v' ∧ Row 63 1 (fun j => j = w.heap.size) w' v' (n + 1) (us.take i ++ .pointer (some ⟨k, 0, none⟩) :: us.drop i) ∧ New w w' := by
  obtain ⟨cur, hh, hs, hnc, hcm, hul⟩ := h.heapAt
  have hgw : g < w.heap.size := (Array.getElem?_eq_some_iff.1 hh).1
  have hcell := fun (j : Nat) (x : Value) (hx : us[j]? = some x) => h.cellAt hx
  have hdl : (us.drop i).length = n - i := by rw [List.length_drop, hul]
  obtain ⟨i0, hi0, hz0, hz1, hzb⟩ := info_parts slPtr.2.1
  have hsz : (Tryd.prog.info? 63).map (·.size) = some 1 := by rw [hi0]; simp [hz1]
  have hold : (Builtin.firstCells i0.size i (.slice (some ⟨g, 0, none⟩) i c)).run Tryd.prog w.drew = .ok (us.take i).toArray w.drew := by
    rw [hz1]
    exact run_firstCells_some w.drew 1 i ⟨g, 0, none⟩ i c (us.take i) (by rw [List.length_take]; omega) (fun j v hj => by
      rw [addr_add, Nat.zero_add]
      rw [List.getElem?_take] at hj
      split at hj
      · exact hcell j v hj
      · cases hj)
  obtain ⟨G, hG⟩ : ∃ G, G = grownCap w (n + 1) c 63 := ⟨_, rfl⟩
  obtain ⟨ROW, hROW⟩ : ∃ ROW : Array Value, ROW = (us.take i).toArray ++ Builtin.zeroCells (Value.pointer none).cells (n + 1 - i) ++ Builtin.zeroCells (Value.pointer none).cells (G - (n + 1)) := ⟨_, rfl⟩
  obtain ⟨A0, hA0⟩ : ∃ A0, A0 = w.drew.alloc (.cells ROW 63) := ⟨_, rfl⟩
  have hkk : (n : Int) + 1 - (i : Int) = ((n + 1 - i : Nat) : Int) := by omega
  have hik : i + (n + 1 - i) = n + 1 := by omega
  have hrz : ∀ ty, (Builtin.append_ #[67, 3] ty #[.slice (some ⟨g, 0, none⟩) i c, .int .i64 ((n : Int) + 1 - (i : Int))]).run Tryd.prog w =
      .ok (.slice (some ⟨w.heap.size, 0, none⟩) (n + 1) G) A0 := fun ty => by
    have h := Lib.run_append_grow_zeros w 67 3 ty 63 i0 _ .i64 .i64 Tryd.underlying67 Tryd.underlying3 hi0 hz0 (some ⟨g, 0, none⟩) i c (us.take i) hold (n + 1 - i) (by omega) (by omega) (by omega) (by omega) (by rw [hzb]; omega) (by rw [hzb, hik]; exact growslice_fits hroom (by omega))
    rw [hik] at h
    rw [hkk, hA0, hROW, hG]
    exact h
  have hGn : n + 1 ≤ G := by rw [hG]; exact grownCap_ge w _ _ _
  have hG63 : G ≤ maxLen := by rw [hG]; exact grownCap_le_maxLen w (n + 1) c _ (by unfold maxLen; omega)
  have hRs : ROW.size = G := by
    rw [hROW]
    simp [Builtin.zeroCells, Value.cells]
    omega
  have hR : ∀ j x, j < i → us[j]? = some x → ROW[j]? = some x := fun j x hj hx => by
    rw [hROW, Array.append_assoc, Array.getElem?_append_left (by simp; omega), List.getElem?_toArray, List.getElem?_take, if_pos hj]
    exact hx
  have nA : New w A0 := by rw [hA0]; exact ((New.refl w).drew).alloc _
  have hA : A0.heap[w.heap.size]? = some (.cells ROW 63) := by rw [hA0]; exact heap_alloc_new w.drew _
  have hcpA : ∀ ty dc, (Builtin.copy_ #[67, 67] ty #[.slice (some ⟨w.heap.size, i, none⟩) (n + 1 - i) dc, .slice (some ⟨nb, 0, none⟩) 1 1]).run Tryd.prog A0 = .ok (goInt 1) (A0.setCells w.heap.size i [.pointer (some ⟨k, 0, none⟩)]) := fun ty dc =>
    run_copy_cells A0 _ _ ty 63 w.heap.size i (n + 1 - i) dc ⟨nb, 0, none⟩ 1 1 [.pointer (some ⟨k, 0, none⟩)] Tryd.underlying67 hsz (by simp only [Nat.min_def, List.length_singleton]; split <;> omega)
      (fun j v hj => by
        rw [addr_add, Nat.zero_add]
        rcases j with _ | j
        · simp at hj; subst hj; simp [World.cell?, nA.heap hv]
        · simp at hj)
      (fun j hj => by
        simp only [World.cell?, hA]
        rw [show (ROW[(⟨w.heap.size, i + j, none⟩ : Addr).off]?) = ROW[i + j]? from rfl, Array.getElem?_eq_getElem (by simp at hj; omega)]; rfl)
      (fun j hj => by simp [World.frozen?, hA]) (by intro v hv; simp at hv; subst hv; rfl)
  obtain ⟨A1, hA1⟩ : ∃ A1, A1 = A0.setCells w.heap.size i [.pointer (some ⟨k, 0, none⟩)] := ⟨_, rfl⟩
  rw [← hA1] at hcpA
  have c1 : Chg (fun j => j = w.heap.size) A0 A1 := by rw [hA1]; exact setCells_chg _ _ _ _
  obtain ⟨R1, hR1, hR1s⟩ : ∃ R1, A1.heap[w.heap.size]? = some (.cells R1 63) ∧ R1.size = G := by
    obtain ⟨c2, e1, e2⟩ := setCells_heap w.heap.size 63 [.pointer (some ⟨k, 0, none⟩)] i A0 ROW hA
    exact ⟨c2, by rw [hA1]; exact e1, by rw [e2, hRs]⟩
  have hsp0 : ∀ j, j < G → (A0.cell? ⟨w.heap.size, j, none⟩).isSome = true := fun j hj => by
    simp only [World.cell?, hA]
    rw [show (ROW[(⟨w.heap.size, j, none⟩ : Addr).off]?) = ROW[j]? from rfl, Array.getElem?_eq_getElem (by omega)]; rfl
  have hsp1 : ∀ j, j < G → (A1.drew.cell? ⟨w.heap.size, j, none⟩).isSome = true := fun j hj => by
    show (A1.cell? ⟨w.heap.size, j, none⟩).isSome = true
    simp only [World.cell?, hR1]
    rw [show (R1[(⟨w.heap.size, j, none⟩ : Addr).off]?) = R1[j]? from rfl, Array.getElem?_eq_getElem (by omega)]; rfl
  have hcpB : ∀ ty dc sc, (Builtin.copy_ #[67, 67] ty #[.slice (some ⟨w.heap.size, i + 1, none⟩) (n + 1 - (i + 1)) dc, .slice (some ⟨g, i, none⟩) (n - i) sc]).run Tryd.prog A1.drew = .ok (goInt (us.drop i).length) (A1.drew.setCells w.heap.size (i + 1) (us.drop i)) := fun ty dc sc =>
    run_copy_cells A1.drew _ _ ty 63 w.heap.size (i + 1) (n + 1 - (i + 1)) dc ⟨g, i, none⟩ (n - i) sc (us.drop i) Tryd.underlying67 hsz (by rw [hdl]; simp only [Nat.min_def]; split <;> omega)
      (fun j v hj => by
        rw [addr_add]
        rw [List.getElem?_drop] at hj
        exact c1.cell (nA.cell (hcell (i + j) v hj)) (by omega))
      (fun j hj => hsp1 _ (by rw [hdl] at hj; omega)) (fun j hj => by show A1.frozen? _ = false; simp [World.frozen?, hR1]) (fun v hv => h1 v (List.mem_of_mem_drop hv))
  have fin : ∀ A2, A2 = A1.drew.setCells w.heap.size (i + 1) (us.drop i) → Row 63 1 (fun j => j = w.heap.size) A2 (.slice (some ⟨w.heap.size, 0, none⟩) (n + 1) G) (n + 1) (us.take i ++ .pointer (some ⟨k, 0, none⟩) :: us.drop i) ∧ New w A2 := by
    intro A2 hA2
    obtain ⟨R2, hR2, hR2s⟩ : ∃ R2, A2.heap[w.heap.size]? = some (.cells R2 63) ∧ R2.size = G := by
      obtain ⟨c2, e1, e2⟩ := setCells_heap w.heap.size 63 (us.drop i) (i + 1) A1.drew R1 hR1
      exact ⟨c2, by rw [hA2]; exact e1, by rw [e2, hR1s]⟩
    refine ⟨Row.ofCells hR2 hR2s hGn hG63 (by simp; omega) (fun j x hx => ?_), ?_⟩
    · have hjn : j < n + 1 := by
        have := (List.getElem?_eq_some_iff.1 hx).1
        simp at this; omega
      rw [mid_get (by omega)] at hx
      rw [hA2, cells_set (w := A1.drew) (vs := us.drop i) (fun t ht => hsp1 _ (by rw [hdl] at ht; omega)) j]
      by_cases d1 : j < i
      · rw [if_pos d1] at hx
        rw [if_neg (by omega)]
        show A1.cell? ⟨w.heap.size, j, none⟩ = some x
        rw [hA1, cells_set (w := A0) (fun t ht => hsp0 _ (by simp at ht; omega)) j, if_neg (by omega)]
        simp only [World.cell?, hA]
        exact hR j x d1 hx
      · rw [if_neg d1] at hx
        by_cases d2 : j = i
        · rw [if_pos d2] at hx
          rw [if_neg (by omega)]
          show A1.cell? ⟨w.heap.size, j, none⟩ = some x
          rw [hA1, cells_set (w := A0) (fun t ht => hsp0 _ (by simp at ht; omega)) j, if_pos (by simp; omega), d2, Nat.sub_self]
          exact hx
        · rw [if_neg d2] at hx
          rw [if_pos (by rw [hdl]; omega), List.getElem?_drop, show i + (j - (i + 1)) = j - 1 by omega]
          exact hx
    · rw [hA2]
      exact nA.trans_chg ((c1.drew).trans (setCells_chg _ _ _ _)) (fun j hj e => by omega)
  have Fin := Lib.hid fin
  have HcpB := Lib.hid hcpB
  have hz2 : ¬ ((i : Int) = (n : Int)) := by omega
  have hz3 : (c : Int) < (n : Int) + 1 := by omega
  have hw1 : IntKind.i64.wrap ((i : Int) + 1) = (i : Int) + 1 := IntWalk.i64_in _ (by omega)
  have hb1 : (0 : Int) ≤ (i : Int) + 1 := by omega
  have hin : i ≤ n := by omega
  have htn : ((i : Int) + 1).toNat = i + 1 := by omega
  have hGi : ¬ (G = i) := by omega
  have hGim : ¬ (G = i + 1) := by omega
  have hci : ¬ (c = i) := by omega
  have hb3 : (i : Int) ≤ (n : Int) := by omega
  unfold maxLen at hcm hG63
  clear hkk hik hold hROW hG hRs hR hA hA0 hA1 hR1 hR1s hsp0 hsp1 hcell hdl fin hcpB c1 nA hh hs hi0 hz0 hz1 hzb hgw
  go_enter Tryd.func85, Tryd.ntmps85
  have Hrz := Lib.hid hrz
  clear hrz
  go_wp2_with first
    | (at_builtin; refine Lib.wpList_append_run _ rfl _ _ _ _ rfl (.slice (some ⟨g, 0, none⟩) i c) (.int .i64 ((n : Int) + 1 - (i : Int))) rfl rfl _ _ (Hrz.out _) ?_)
    | fail
  refine wp_region_held_drew (S := (fun _ => True)) (by kernel_rfl) ?_ (fun hHeld => ?_)
  · exact trivial
  refine wpAnyH_take (i := 0) (v := ?_) (oi := ?_) ?hi_10 ?hs_10 ?hf_10 ?hr_10 ?hQ_10 ?hy_10 ?hS_10 ?h_10
  case hi_10 => (simp only [List.getElem?_toArray, List.getElem?_cons_zero] <;> rfl)
  case hs_10 => kernel_rfl
  case hf_10 => kernel_rfl
  case hr_10 => kernel_rfl
  case hQ_10 => exact fun _ _ _ h => h
  case hy_10 => (refine Or.inl ⟨by rfl, ?_⟩; intro w hSw; (try dsimp only at hSw); go_simp; try with_reducible rfl)
  case hS_10 => assumption
  try go_frame
  refine wpAnyH_take (i := 1) (v := ?_) (oi := ?_) ?hi_11 ?hs_11 ?hf_11 ?hr_11 ?hQ_11 ?hy_11 ?hS_11 ?h_11
  case hi_11 => (simp only [List.getElem?_toArray, List.getElem?_cons_zero, List.getElem?_cons_succ] <;> rfl)
  case hs_11 => kernel_rfl
  case hf_11 => kernel_rfl
  case hr_11 => kernel_rfl
  case hQ_11 => exact fun _ _ _ h => h
  case hy_11 => (refine Or.inl ⟨by rfl, ?_⟩; intro w hSw; (try dsimp only at hSw); go_simp; try with_reducible rfl)
  case hS_11 => assumption
  try go_frame
  refine wpAnyH_take (i := 2) (v := ?_) (oi := ?_) ?hi_12 ?hs_12 ?hf_12 ?hr_12 ?hQ_12 ?hy_12 ?hS_12 ?h_12
  case hi_12 => (simp only [List.getElem?_toArray, List.getElem?_cons_zero, List.getElem?_cons_succ] <;> rfl)
  case hs_12 => kernel_rfl
  case hf_12 => kernel_rfl
  case hr_12 => kernel_rfl
  case hQ_12 => exact fun _ _ _ h => h
  case hy_12 => (refine Or.inl ⟨by rfl, ?_⟩; intro w hSw; (try dsimp only at hSw); go_simp; try with_reducible rfl)
  case hS_12 => assumption
  try go_frame
  refine wpAnyH_take (i := 3) (v := ?_) (oi := ?_) ?hi_13 ?hs_13 ?hf_13 ?hr_13 ?hQ_13 ?hy_13 ?hS_13 ?h_13
  case hi_13 => (simp only [List.getElem?_toArray, List.getElem?_cons_zero, List.getElem?_cons_succ] <;> rfl)
  case hs_13 => kernel_rfl
  case hf_13 => kernel_rfl
  case hr_13 => kernel_rfl
  case hQ_13 => exact fun _ _ _ h => h
  case hy_13 => (refine Or.inl ⟨by rfl, ?_⟩; intro w hSw; (try dsimp only at hSw); go_simp; try with_reducible rfl)
  case hS_13 => assumption
  try go_frame
  refine wpAnyH_take (i := 4) (v := ?_) (oi := ?_) ?hi_14 ?hs_14 ?hf_14 ?hr_14 ?hQ_14 ?hy_14 ?hS_14 ?h_14
  case hi_14 => (simp only [List.getElem?_toArray, List.getElem?_cons_zero, List.getElem?_cons_succ] <;> rfl)
  case hs_14 => kernel_rfl
  case hf_14 => kernel_rfl
  case hr_14 => kernel_rfl
  case hQ_14 => exact fun _ _ _ h => h
  case hy_14 => (refine Or.inl ⟨by rfl, ?_⟩; intro w hSw; (try dsimp only at hSw); go_simp; try with_reducible rfl)
  case hS_14 => assumption
  try go_frame
  refine wpAnyH_take (i := 5) (v := ?_) (oi := ?_) ?hi_15 ?hs_15 ?hf_15 ?hr_15 ?hQ_15 ?hy_15 ?hS_15 ?h_15
  case hi_15 => (simp only [List.getElem?_toArray, List.getElem?_cons_zero, List.getElem?_cons_succ] <;> rfl)
  case hs_15 => kernel_rfl
  case hf_15 => kernel_rfl
  case hr_15 => kernel_rfl
  case hQ_15 => exact fun _ _ _ h => h
  case hy_15 => (refine Or.inl ⟨by rfl, ?_⟩; intro w hSw; (try dsimp only at hSw); go_simp; try with_reducible rfl)
  case hS_15 => assumption
  try go_frame
  refine wpAnyH_take (i := 6) (v := ?_) (oi := ?_) ?hi_16 ?hs_16 ?hf_16 ?hr_16 ?hQ_16 ?hy_16 ?hS_16 ?h_16
  case hi_16 => (simp only [List.getElem?_toArray, List.getElem?_cons_zero, List.getElem?_cons_succ] <;> rfl)
  case hs_16 => kernel_rfl
  case hf_16 => kernel_rfl
  case hr_16 => kernel_rfl
  case hQ_16 => exact fun _ _ _ h => h
  case hy_16 => (refine Or.inl ⟨by rfl, ?_⟩; intro w hSw; (try dsimp only at hSw); go_simp; try with_reducible rfl)
  case hS_16 => assumption
  try go_frame
  refine wpAnyH_take (i := 7) (v := ?_) (oi := ?_) ?hi_17 ?hs_17 ?hf_17 ?hr_17 ?hQ_17 ?hy_17 ?hS_17 ?h_17
  case hi_17 => (simp only [List.getElem?_toArray, List.getElem?_cons_zero, List.getElem?_cons_succ] <;> rfl)
  case hs_17 => kernel_rfl
  case hf_17 => kernel_rfl
  case hr_17 => kernel_rfl
  case hQ_17 => exact fun _ _ _ h => h
  case hy_17 => (refine Or.inl ⟨by rfl, ?_⟩; intro w hSw; (try dsimp only at hSw); go_simp; try with_reducible rfl)
  case hS_17 => assumption
  try go_frame
  refine wpAnyH_ready (rs := [8]) (by kernel_rfl) (by simp) ?_
  refine (AllReadyH.cons (o := ?_) ?hi_18 (fun K hK => ?h_18) AllReadyH.nil)
  case hi_18 => (simp only [List.getElem?_toArray, List.getElem?_cons_zero, List.getElem?_cons_succ] <;> rfl)
  refine step_copy_runI rfl _ _ 67 67 rfl (.slice (some ⟨w.heap.size, i + 1, none⟩) (n + 1 - (i + 1)) (G - (i + 1))) (.slice (some ⟨g, i, none⟩) (n - i) (c - i)) (by simp [Act.eval]) (by simp [Act.eval]) (HcpB.out _ _ _) ?_
  refine hK.out _ _ ?_ (fun hHeld => ?_)
  · trivial
  clear hK K
  try go_frame
  refine wpAnyH_done (by kernel_rfl) ?_ _
  go_wp2_with fail
  go_ret
  obtain ⟨f1, f2⟩ := Fin.out _ rfl
  exact ⟨_, rfl, f1, f2⟩
end Go.Proofs.YtkffejommncinaaDoor
