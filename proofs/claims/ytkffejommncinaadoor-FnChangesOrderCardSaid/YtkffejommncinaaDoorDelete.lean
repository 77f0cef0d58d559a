/- slices.Delete of one pointer: in place. -/
import Derived.Test.YtkffejommncinaaDoorGrow
import Derived.Deep.RegionLaw
import Derived.Lib.SliceRun
import Derived.Deep.RegionHeld3
namespace Go.Proofs.YtkffejommncinaaDoor
open Go.RowKit

theorem setCells_heap (g : Nat) (e : TypeId) : ∀ (vs : List Value) (o : Nat) (w : World) (cur : Array Value), w.heap[g]? = some (.cells cur e) → ∃ cur', (w.setCells g o vs).heap[g]? = some (.cells cur' e) ∧ cur'.size = cur.size
  | [], _, _, cur, h => ⟨cur, h, rfl⟩
  | v :: r, o, w, cur, h => by
    obtain ⟨c2, h2, h3⟩ := setCells_heap g e r (o + 1) (w.setCell ⟨g, o, none⟩ v) (cur.setIfInBounds o v) (by simp [World.setCell, Array.getElem?_modify, h])
    exact ⟨c2, h2, by rw [h3]; simp⟩
theorem setCells_chg (g : Nat) : ∀ (vs : List Value) (o : Nat) (w : World), Chg (fun k => k = g) w (w.setCells g o vs)
  | [], _, _ => Chg.refl _ _
  | v :: r, o, w => by
    have h1 := chg_set1 w g o v
    exact h1.trans (setCells_chg g r (o + 1) _)
/-- a row by its cells -/
theorem Row.ofCells {e : TypeId} {w : World} {g n cap : Nat} {cur : Array Value} {xs : List Value} (h : w.heap[g]? = some (.cells cur e)) (hs : cur.size = cap) (hn : n ≤ cap) (hc : cap ≤ maxLen) (hl : xs.length = n) (hx : ∀ i x, xs[i]? = some x → w.cell? ⟨g, i, none⟩ = some x) :
    Row e 1 (fun k => k = g) w (.slice (some ⟨g, 0, none⟩) n cap) n xs := by
  refine ⟨⟨by rw [Nat.mul_one]; exact hl, .inr ⟨g, cap, cur, rfl, Nat.zero_le _, h, hn, hc, by rw [Nat.mul_one]; exact hs, ?_⟩⟩, fun k hk => by simp [Value.ownBlock] at hk; exact hk.symm⟩
  rw [Nat.mul_one]
  apply List.ext_getElem?
  intro i
  rw [List.getElem?_take]
  by_cases hi : i < n
  · rw [if_pos hi]
    obtain ⟨x, hx'⟩ := get_of (show i < xs.length by omega)
    have := hx i x hx'
    simp only [World.cell?, h] at this
    rw [hx', ← this]
    simp
  · rw [if_neg hi, List.getElem?_eq_none (by omega)]
theorem Row.heapAt {e : TypeId} {S : Nat → Prop} {w : World} {g n cap : Nat} {xs : List Value} (h : Row e 1 S w (.slice (some ⟨g, 0, none⟩) n cap) n xs) : ∃ cur, w.heap[g]? = some (.cells cur e) ∧ cur.size = cap ∧ n ≤ cap ∧ cap ≤ maxLen ∧ xs.length = n := by
  obtain ⟨⟨h1, h2⟩, _⟩ := h
  rcases h2 with ⟨hv, _⟩ | ⟨g', cap', cur, hv, _, hh, s1, s2, s3, _⟩
  · simp at hv
  · simp only [Value.slice.injEq, Option.some.injEq, Addr.mk.injEq] at hv
    obtain ⟨⟨rfl, _, _⟩, _, rfl⟩ := hv
    exact ⟨cur, hh, by omega, s1, s2, by omega⟩

set_option maxRecDepth 4000 in
set_option maxHeartbeats 4000000 in
theorem slDelete {S : Nat → Prop} (g n c i : Nat) (us : List Value) (w : World) (h : Row 63 1 S w (.slice (some ⟨g, 0, none⟩) n c) n us) (hi : i < n) (hn : n ≤ 1000) (h1 : ∀ u ∈ us, u.oneCell' = true) :
    Calls Tryd.prog 75 #[.slice (some ⟨g, 0, none⟩) n c, .int .i64 i, .int .i64 ((i : Int) + 1)] w fun e w' =>
      e = .returned (.slice (some ⟨g, 0, none⟩) (n - 1) c) ∧ Row 63 1 (fun k => k = g) w' (.slice (some ⟨g, 0, none⟩) (n - 1) c) (n - 1) (us.take i ++ us.drop (i + 1)) ∧ Chg (fun k => k = g) w w' := by
  obtain ⟨cur, hh, hs, hnc, hcm, hul⟩ := h.heapAt
  have hcell := fun (j : Nat) (x : Value) (hx : us[j]? = some x) => h.cellAt hx
  have hfz := fun (j : Nat) => h.frozenAt j
  have hsp : ∀ j, j < n → (w.cell? ⟨g, j, none⟩).isSome = true := fun j hj => by
    obtain ⟨x, hx⟩ := get_of (show j < us.length by omega)
    rw [hcell j x hx]; rfl
  obtain ⟨news, hnews⟩ : ∃ news, news = us.drop (i + 1) := ⟨_, rfl⟩
  have hlen : news.length = n - (i + 1) := by rw [hnews, List.length_drop, hul]
  obtain ⟨A, hA, hsrc⟩ : ∃ A : Addr, (if c = i + 1 then some (⟨g, 0, none⟩ : Addr) else some ⟨g, i + 1, none⟩) = some A ∧ Hid (∀ t u, news[t]? = some u → w.drew.cell? (A.add t) = some u) := by
    by_cases hc : c = i + 1
    · refine ⟨⟨g, 0, none⟩, by simp [hc], Lib.hid fun t u hu => ?_⟩
      have h0 : news.length = 0 := by rw [hlen]; omega
      rw [List.eq_nil_of_length_eq_zero h0] at hu
      simp at hu
    · refine ⟨⟨g, i + 1, none⟩, by simp [hc], Lib.hid fun t u hu => ?_⟩
      rw [hnews, List.getElem?_drop] at hu
      rw [addr_add]
      exact hcell _ _ hu
  have s1 : Hid (news.length = (n - (i + 1)) * 1) := Lib.hid (by rw [Nat.mul_one]; exact hlen)
  have s2 : Hid (∀ u ∈ news, u.oneCell' = true) := Lib.hid (fun u hu => h1 u (by rw [hnews] at hu; exact List.mem_of_mem_drop hu))
  have s3 : Hid (∀ t, t < news.length → (w.drew.cell? ⟨g, 0 + i * 1 + t, none⟩).isSome = true ∧ w.drew.frozen? ⟨g, 0 + i * 1 + t, none⟩ = false) := Lib.hid (fun t ht => by
    rw [hlen] at ht
    rw [Nat.mul_one, Nat.zero_add]
    exact ⟨hsp _ (by omega), hfz _⟩)
  obtain ⟨W1, hW1⟩ : ∃ W1, W1 = w.drew.setCells g (0 + i * 1) news := ⟨_, rfl⟩
  have hc1 : Chg (fun k => k = g) w W1 := by
    rw [hW1]
    exact ((Chg.refl (fun k => k = g) w).drew).trans (setCells_chg g news _ _)
  obtain ⟨cur1, hh1, hs1⟩ : ∃ cur1, W1.heap[g]? = some (.cells cur1 63) ∧ cur1.size = c := by
    obtain ⟨c2, e1, e2⟩ := setCells_heap g 63 news (0 + i * 1) w.drew cur hh
    exact ⟨c2, by rw [hW1]; exact e1, by rw [e2, hs]⟩
  have hcl1 : ∀ j x, (us.take i ++ news)[j]? = some x → W1.cell? ⟨g, j, none⟩ = some x := by
    intro j x hx
    have hti : (us.take i).length = i := by rw [List.length_take]; omega
    rw [hW1, Nat.mul_one, Nat.zero_add]
    by_cases hj : j < i
    · rw [List.getElem?_append_left (by omega), List.getElem?_take, if_pos hj] at hx
      rw [World.cell?_setCells_out _ _ _ _ _ (fun _ _ => .inl hj)]
      exact hcell j x hx
    · rw [List.getElem?_append_right (by omega), hti] at hx
      obtain ⟨hlt, e⟩ := List.getElem?_eq_some_iff.1 hx
      have := World.cell?_setCells_in g news i w.drew (fun t ht => by
        rw [hlen] at ht
        exact hsp _ (by omega)) (j - i) hlt
      rw [show i + (j - i) = j by omega] at this
      rw [this, e]
  have hsp1 : ∀ j, j < n → (W1.cell? ⟨g, j, none⟩).isSome = true := fun j hj => by
    simp only [World.cell?, hh1]
    rw [show (cur1[(⟨g, j, none⟩ : Addr).off]?) = cur1[j]? from rfl, Array.getElem?_eq_getElem (by omega)]; rfl
  have hfz1 : ∀ j, W1.frozen? ⟨g, j, none⟩ = false := fun j => by rw [hW1, World.frozen?_setCells]; exact hfz j
  have hcl : ∀ ty, (Builtin.clear_ #[67] ty #[.slice (some ⟨g, i + (n - (i + 1)), none⟩) (n - (i + (n - (i + 1)))) (c - (i + (n - (i + 1))))]).run Tryd.prog W1 = .ok (.tuple #[]) (W1.setCells g (i + (n - (i + 1))) (List.replicate (n - (i + (n - (i + 1)))) (.pointer none))) :=
    fun ty => Lib.run_clear_slice W1 _ _ ty _ Tryd.underlying67 (fun w => by kernel_rfl) rfl rfl g _ _ _ (by omega) (fun t ht => hsp1 _ (by omega)) (fun t ht => hfz1 _)
  have fin : ∀ W2, W2 = W1.setCells g (i + (n - (i + 1))) (List.replicate (n - (i + (n - (i + 1)))) (.pointer none)) → Row 63 1 (fun k => k = g) W2 (.slice (some ⟨g, 0, none⟩) (n - 1) c) (n - 1) (us.take i ++ us.drop (i + 1)) ∧ Chg (fun k => k = g) w W2 := by
    intro W2 hW2
    obtain ⟨cur2, hh2, hs2⟩ : ∃ cur2, W2.heap[g]? = some (.cells cur2 63) ∧ cur2.size = c := by
      obtain ⟨c2, e1, e2⟩ := setCells_heap g 63 (List.replicate (n - (i + (n - (i + 1)))) (.pointer none)) (i + (n - (i + 1))) W1 cur1 hh1
      exact ⟨c2, by rw [hW2]; exact e1, by rw [e2, hs1]⟩
    refine ⟨Row.ofCells hh2 hs2 (by omega) hcm (by simp; omega) (fun j x hx => ?_), ?_⟩
    · have hj := (List.getElem?_eq_some_iff.1 hx).1
      rw [List.length_append, List.length_take, List.length_drop] at hj
      rw [hW2, World.cell?_setCells_out _ _ _ _ _ (fun _ _ => .inl (show j < _ by omega))]
      exact hcl1 j x (by rw [hnews]; exact hx)
    · rw [hW2]; exact hc1.trans (setCells_chg g _ _ _)
  have Fin := Lib.hid fin
  have hW : Hid (W1 = w.drew.setCells g (0 + i * 1) news) := Lib.hid hW1
  obtain ⟨i0, hi0, hz0, hz1, hz2⟩ := info_parts slPtr.2.1
  have Hz1 := Lib.hid hz1
  have Hi0 := Lib.hid hi0
  have hic : i ≤ c := by omega
  have hjc : i + 1 ≤ c := by omega
  unfold maxLen at hcm
  have hk2 : (0 : Int) ≤ (i : Int) + 1 := by omega
  have hk3 : (i : Int) + 1 ≤ (n : Int) := by omega
  have hk4 : ((i : Int) + 1).toNat = i + 1 := by omega
  have hk5 : IntKind.i64.wrap ((i : Int) + 1) = (i : Int) + 1 := IntWalk.i64_in _ (by omega)
  have hk6 : ((i : Int) == (i : Int) + 1) = false := by simp; omega
  have hk7 : (i : Int) ≤ (i : Int) + 1 := by omega
  clear hW1 hc1 hh1 hs1 hcl1 hsp1 hfz1 fin hnews hlen hcell hfz hsp hh hs hi0 hz0 hz1 hz2 cur1
  go_enter Tryd.func75, Tryd.ntmps75
  go_wp2_with fail
  refine wp_region_held_drew (S := (fun _ => True)) (by kernel_rfl) ?_ (fun hHeld => ?_)
  · exact trivial
  refine wpAnyH_take (i := 0) (v := ?_) (oi := ?_) ?hi_1 ?hs_1 ?hf_1 ?hr_1 ?hQ_1 ?hy_1 ?hS_1 ?h_1
  case hi_1 => (simp only [List.getElem?_toArray, List.getElem?_cons_zero] <;> rfl)
  case hs_1 => kernel_rfl
  case hf_1 => kernel_rfl
  case hr_1 => kernel_rfl
  case hQ_1 => exact fun _ _ _ h => h
  case hy_1 => (refine Or.inl ⟨by rfl, ?_⟩; intro w hSw; (try dsimp only at hSw); go_simp; try with_reducible rfl)
  case hS_1 => assumption
  try go_frame
  refine wpAnyH_take (i := 1) (v := ?_) (oi := ?_) ?hi_2 ?hs_2 ?hf_2 ?hr_2 ?hQ_2 ?hy_2 ?hS_2 ?h_2
  case hi_2 => (simp only [List.getElem?_toArray, List.getElem?_cons_zero, List.getElem?_cons_succ] <;> rfl)
  case hs_2 => kernel_rfl
  case hf_2 => kernel_rfl
  case hr_2 => kernel_rfl
  case hQ_2 => exact fun _ _ _ h => h
  case hy_2 => (refine Or.inl ⟨by rfl, ?_⟩; intro w hSw; (try dsimp only at hSw); go_simp; try with_reducible rfl)
  case hS_2 => assumption
  try go_frame
  refine wpAnyH_take (i := 2) (v := ?_) (oi := ?_) ?hi_3 ?hs_3 ?hf_3 ?hr_3 ?hQ_3 ?hy_3 ?hS_3 ?h_3
  case hi_3 => (simp only [List.getElem?_toArray, List.getElem?_cons_zero, List.getElem?_cons_succ] <;> rfl)
  case hs_3 => kernel_rfl
  case hf_3 => kernel_rfl
  case hr_3 => kernel_rfl
  case hQ_3 => exact fun _ _ _ h => h
  case hy_3 => (refine Or.inl ⟨by rfl, ?_⟩; intro w hSw; (try dsimp only at hSw); go_simp; try with_reducible rfl)
  case hS_3 => assumption
  try go_frame
  refine wpAnyH_take (i := 3) (v := ?_) (oi := ?_) ?hi_4 ?hs_4 ?hf_4 ?hr_4 ?hQ_4 ?hy_4 ?hS_4 ?h_4
  case hi_4 => (simp only [List.getElem?_toArray, List.getElem?_cons_zero, List.getElem?_cons_succ] <;> rfl)
  case hs_4 => kernel_rfl
  case hf_4 => kernel_rfl
  case hr_4 => kernel_rfl
  case hQ_4 => exact fun _ _ _ h => h
  case hy_4 => (refine Or.inl ⟨by rfl, ?_⟩; intro w hSw; (try dsimp only at hSw); go_simp; try with_reducible rfl)
  case hS_4 => assumption
  try go_frame
  refine wpAnyH_take (i := 4) (v := ?_) (oi := ?_) ?hi_5 ?hs_5 ?hf_5 ?hr_5 ?hQ_5 ?hy_5 ?hS_5 ?h_5
  case hi_5 => (simp only [List.getElem?_toArray, List.getElem?_cons_zero, List.getElem?_cons_succ] <;> rfl)
  case hs_5 => kernel_rfl
  case hf_5 => kernel_rfl
  case hr_5 => kernel_rfl
  case hQ_5 => exact fun _ _ _ h => h
  case hy_5 => (refine Or.inl ⟨by rfl, ?_⟩; intro w hSw; (try dsimp only at hSw); go_simp; try with_reducible rfl)
  case hS_5 => assumption
  try go_frame
  refine wpAnyH_take (i := 5) (v := ?_) (oi := ?_) ?hi_6 ?hs_6 ?hf_6 ?hr_6 ?hQ_6 ?hy_6 ?hS_6 ?h_6
  case hi_6 => (simp only [List.getElem?_toArray, List.getElem?_cons_zero, List.getElem?_cons_succ] <;> rfl)
  case hs_6 => kernel_rfl
  case hf_6 => kernel_rfl
  case hr_6 => kernel_rfl
  case hQ_6 => exact fun _ _ _ h => h
  case hy_6 => (refine Or.inl ⟨by rfl, ?_⟩; intro w hSw; (try dsimp only at hSw); go_simp; try with_reducible rfl)
  case hS_6 => assumption
  try go_frame
  refine wpAnyH_ready (rs := [6]) (by kernel_rfl) (by simp) ?_
  refine (AllReadyH.cons (o := ?_) ?hi_7 (fun K hK => ?h_7) AllReadyH.nil)
  case hi_7 => (simp only [List.getElem?_toArray, List.getElem?_cons_zero, List.getElem?_cons_succ] <;> rfl)
  refine step_append_room rfl (.tmp 22) (.tmp 25) 67 rfl 63 i0 1 Tryd.underlying67 Hi0.out Hz1.out g 0 i c (by simp [Act.eval]) A (n - (i + 1)) (c - (i + 1)) news (by simp [Act.eval]) s1.out hsrc.out s2.out (by omega) s3.out ?_
  rw [← hW.out]
  refine hK.out _ _ ?_ (fun hHeld => ?_)
  · trivial
  clear hK K
  try go_frame
  refine wpAnyH_take (i := 7) (v := ?_) (oi := ?_) ?hi_8 ?hs_8 ?hf_8 ?hr_8 ?hQ_8 ?hy_8 ?hS_8 ?h_8
  case hi_8 => (simp only [List.getElem?_toArray, List.getElem?_cons_zero, List.getElem?_cons_succ] <;> rfl)
  case hs_8 => kernel_rfl
  case hf_8 => kernel_rfl
  case hr_8 => kernel_rfl
  case hQ_8 => exact fun _ _ _ h => h
  case hy_8 => (refine Or.inl ⟨by rfl, ?_⟩; intro w hSw; (try dsimp only at hSw); go_simp; try with_reducible rfl)
  case hS_8 => assumption
  try go_frame
  refine wpAnyH_done (by kernel_rfl) ?_ _
  go_wp2
  go_ret
  obtain ⟨f1, f2⟩ := Fin.out _ rfl
  exact ⟨by rw [show n - 1 = i + (n - (i + 1)) by omega]; rfl, f1, f2⟩
end Go.Proofs.YtkffejommncinaaDoor
