/- The reference's TreeValid. -/
import Derived.Test.YtkffejommncinaaDoorSpecTree
namespace Go.Proofs.YtkffejommncinaaDoor
open Go.RowKit

def prevAt (os : List ItemR) : Nat → Option (List UInt8)
  | 0 => none
  | j + 1 => (os[j]?).map (·.path)
def SpecInv (os : List ItemR) (k : Nat) : Prop := specGo os none os = specGo os (prevAt os k) (os.drop k)
theorem specInv_end {os : List ItemR} {k : Nat} (h : SpecInv os k) (hk : ¬ k < os.length) : treeOk os = decide ((os.length : Int) ≤ 12) := by
  unfold SpecInv at h
  unfold treeOk
  rw [h, drop_end hk, specGo, Bool.true_and]
  exact decide_eq_decide.2 (by omega)
theorem specInv_step {os : List ItemR} {k : Nat} {o : ItemR} (h : SpecInv os k) (ho : os[k]? = some o) : specGo os none os = (itemOk o && (prevOk (prevAt os k) o.path && (homeS os o.path && specGo os (prevAt os (k + 1)) (os.drop (k + 1))))) := by
  unfold SpecInv at h
  rw [h, drop_of ho, specGo]
  simp only [prevAt, ho, Option.map_some]
theorem specInv_bad {os : List ItemR} (h : specGo os none os = false) : treeOk os = false := by unfold treeOk; rw [h]; rfl

set_option maxRecDepth 4000 in
set_option maxHeartbeats 2000000 in
theorem specValid {S : Nat → Prop} (v : Value) (os : List ItemR) (w : World) (h : Items S w v os) (hall : ∀ o ∈ os, o.size ≤ 1048576) :
    Calls Tryd.prog 43 #[v] w fun e w' => e = .returned (.bool (treeOk os)) ∧ New w w' := by
  have h0 := h
  obtain ⟨-, a, c, rfl, h1, h2, -⟩ := h
  unfold maxLen at h2
  have hat := fun (W : World) (n : New w W) (k : Nat) (o : ItemR) (ho : os[k]? = some o) => Items.at (Recs.new h0 n) ho
  have Hat := Lib.hid hat
  have hho := fun (W : World) (n : New w W) (p : List UInt8) (hp : p.length ≤ 1048576) => specHome _ os p W (Recs.new h0 n) hp
  have Hho := Lib.hid hho
  have Hall := Lib.hid hall
  clear hat hho hall
  go_enter Tryd.func43, Tryd.ntmps43
  go_wp2
  go_loopg [3] os.length (fun gk i wr => ∃ (k : Nat), gk = os.length - k ∧ k ≤ os.length ∧ i = .int .i64 k ∧ New w wr ∧ Hid (SpecInv os k))
  case atStart => exact ⟨0, by omega, Nat.zero_le _, rfl, New.refl _, Lib.hid rfl⟩
  case round =>
    obtain ⟨k, hgk, hk, rfl, hN, hI⟩ := hrel
    have Hgk := Lib.hid hgk
    clear hgk
    by_cases hlt : k < os.length
    · obtain ⟨o, ho⟩ := get_of hlt
      have hst := specInv_step hI.out ho
      obtain ⟨hpl, -⟩ : o.path.length ≤ 1048576 ∧ o.ids.length ≤ 1048576 := by
        have := Hall.out o (List.mem_of_getElem? ho)
        unfold ItemR.size at this; omega
      obtain ⟨bb, off, c', uv, e1, hbb, c0, c1, c2, -, r2⟩ := Hat.out wr.drew hN.drew k o ho
      simp only [Value.slice.injEq] at e1
      obtain ⟨rfl, -, rfl⟩ := e1
      have hiv := fun (W : World) (n : New wr.drew W) => specItem o uv W (r2.new n) hpl
      have hhm := fun (W : World) (n : New w W) => Hho.out W n o.path hpl
      have Hst := Lib.hid hst
      have Ho := Lib.hid ho
      unfold txt at c0 hiv hhm
      clear hst ho r2
      rcases hik : itemOk o with _ | _
      · rw [hik] at hiv
        have hf : specGo os none os = false := by rw [Hst.out, hik]; rfl
        have Hf := Lib.hid hf
        have Hiv := Lib.hid hiv
        clear hf hik hiv hhm
        go_wp2_with fail
        refine wp_region_held_drew (S := (fun w' => w'.cell? ⟨bb, off + k * 3, none⟩ = some (.string ⟨o.path.toArray⟩) ∧ w'.cell? ⟨bb, off + k * 3 + 1, none⟩ = some (.bool o.dir) ∧ w'.cell? ⟨bb, off + k * 3 + 2, none⟩ = some uv)) (by kernel_rfl) ?_ (fun hHeld => ?_)
        · exact ⟨c0, c1, c2⟩
        refine wpAnyH_take (i := 0) (v := ?_) (oi := ?_) ?hi_1 ?hs_1 ?hf_1 ?hr_1 ?hQ_1 ?hy_1 ?hS_1 ?h_1
        case hi_1 => (simp only [List.getElem?_toArray, List.getElem?_cons_zero] <;> rfl)
        case hs_1 => kernel_rfl
        case hf_1 => kernel_rfl
        case hr_1 => kernel_rfl
        case hQ_1 => exact fun _ _ _ h => h
        case hy_1 => (refine Or.inl ⟨by rfl, ?_⟩; intro w hSw; (try dsimp only at hSw); go_simp; try with_reducible rfl)
        case hS_1 => assumption
        try go_frame
        refine wpAnyH_take (i := 1) (v := ?_) (oi := ?_) ?hi_2 ?hs_2 ?hf_2 ?hr_2 ?hQ_2 ?hy_2 ?hS_2 ?h_2
        case hi_2 => (simp only [List.getElem?_toArray, List.getElem?_cons_zero, List.getElem?_cons_succ] <;> rfl)
        case hs_2 => kernel_rfl
        case hf_2 => kernel_rfl
        case hr_2 => kernel_rfl
        case hQ_2 => exact fun _ _ _ h => h
        case hy_2 => (refine Or.inl ⟨by rfl, ?_⟩; intro w hSw; (try dsimp only at hSw); go_simp; try with_reducible rfl)
        case hS_2 => assumption
        try go_frame
        refine wpAnyH_take (i := 2) (v := ?_) (oi := ?_) ?hi_3 ?hs_3 ?hf_3 ?hr_3 ?hQ_3 ?hy_3 ?hS_3 ?h_3
        case hi_3 => (simp only [List.getElem?_toArray, List.getElem?_cons_zero, List.getElem?_cons_succ] <;> rfl)
        case hs_3 => kernel_rfl
        case hf_3 => kernel_rfl
        case hr_3 => kernel_rfl
        case hQ_3 => exact fun _ _ _ h => h
        case hy_3 => (refine Or.inl ⟨by rfl, ?_⟩; intro w hSw; (try dsimp only at hSw); go_simp; try with_reducible rfl)
        case hS_3 => assumption
        try go_frame
        refine wpAnyH_take (i := 3) (v := ?_) (oi := ?_) ?hi_4 ?hs_4 ?hf_4 ?hr_4 ?hQ_4 ?hy_4 ?hS_4 ?h_4
        case hi_4 => (simp only [List.getElem?_toArray, List.getElem?_cons_zero, List.getElem?_cons_succ] <;> rfl)
        case hs_4 => kernel_rfl
        case hf_4 => kernel_rfl
        case hr_4 => kernel_rfl
        case hQ_4 => exact fun _ _ _ h => h
        case hy_4 => (refine Or.inl ⟨by rfl, ?_⟩; intro w hSw; (try dsimp only at hSw); go_simp; try with_reducible rfl)
        case hS_4 => assumption
        try go_frame
        refine wpAnyH_ready (rs := [4]) (by kernel_rfl) (by simp) ?_
        refine AllReadyH.cons (o := ?_) ?hi_5 (fun K hK => ?h_5) AllReadyH.nil
        case hi_5 => (simp only [List.getElem?_toArray, List.getElem?_cons_zero, List.getElem?_cons_succ] <;> rfl)
        go_simp
        (refine (Hiv.out _ (New.refl _)).mono ?_; rintro e w2 ⟨rfl, n2⟩; go_wp2_with fail)
        refine hK.out _ _ ?_ (fun hHeld => ?_)
        · exact ⟨n2.cell c0, n2.cell c1, n2.cell c2⟩
        clear hK K
        try go_frame
        refine wpAnyH_take (i := 5) (v := ?_) (oi := ?_) ?hi_6 ?hs_6 ?hf_6 ?hr_6 ?hQ_6 ?hy_6 ?hS_6 ?h_6
        case hi_6 => (simp only [List.getElem?_toArray, List.getElem?_cons_zero, List.getElem?_cons_succ] <;> rfl)
        case hs_6 => kernel_rfl
        case hf_6 => kernel_rfl
        case hr_6 => kernel_rfl
        case hQ_6 => exact fun _ _ _ h => h
        case hy_6 => (refine Or.inl ⟨by rfl, ?_⟩; intro w hSw; (try dsimp only at hSw); go_simp; try with_reducible rfl)
        case hS_6 => assumption
        try go_frame
        refine wpAnyH_take (i := 6) (v := ?_) (oi := ?_) ?hi_7 ?hs_7 ?hf_7 ?hr_7 ?hQ_7 ?hy_7 ?hS_7 ?h_7
        case hi_7 => (simp only [List.getElem?_toArray, List.getElem?_cons_zero, List.getElem?_cons_succ] <;> rfl)
        case hs_7 => kernel_rfl
        case hf_7 => kernel_rfl
        case hr_7 => kernel_rfl
        case hQ_7 => exact fun _ _ _ h => h
        case hy_7 => (refine Or.inl ⟨by rfl, ?_⟩; intro w hSw; (try dsimp only at hSw); go_simp; try with_reducible rfl)
        case hS_7 => assumption
        try go_frame
        refine wpAnyH_take (i := 7) (v := undef) (oi := ?_) ?hi_8 ?hs_8 ?hf_8 ?hr_8 ?hQ_8 ?hy_8 ?hS_8 ?h_8
        case hi_8 => (simp only [List.getElem?_toArray, List.getElem?_cons_zero, List.getElem?_cons_succ] <;> rfl)
        case hs_8 => kernel_rfl
        case hf_8 => kernel_rfl
        case hr_8 => kernel_rfl
        case hQ_8 => exact fun _ _ _ h => h
        case hy_8 => exact Or.inr ⟨by rfl, rfl⟩
        case hS_8 => assumption
        try go_frame
        refine wpAnyH_take (i := 8) (v := undef) (oi := ?_) ?hi_9 ?hs_9 ?hf_9 ?hr_9 ?hQ_9 ?hy_9 ?hS_9 ?h_9
        case hi_9 => (simp only [List.getElem?_toArray, List.getElem?_cons_zero, List.getElem?_cons_succ] <;> rfl)
        case hs_9 => kernel_rfl
        case hf_9 => kernel_rfl
        case hr_9 => kernel_rfl
        case hQ_9 => exact fun _ _ _ h => h
        case hy_9 => exact Or.inr ⟨by rfl, rfl⟩
        case hS_9 => assumption
        try go_frame
        refine wpAnyH_take (i := 9) (v := undef) (oi := ?_) ?hi_10 ?hs_10 ?hf_10 ?hr_10 ?hQ_10 ?hy_10 ?hS_10 ?h_10
        case hi_10 => (simp only [List.getElem?_toArray, List.getElem?_cons_zero, List.getElem?_cons_succ] <;> rfl)
        case hs_10 => kernel_rfl
        case hf_10 => kernel_rfl
        case hr_10 => kernel_rfl
        case hQ_10 => exact fun _ _ _ h => h
        case hy_10 => exact Or.inr ⟨by rfl, rfl⟩
        case hS_10 => assumption
        try go_frame
        refine wpAnyH_take (i := 10) (v := undef) (oi := ?_) ?hi_11 ?hs_11 ?hf_11 ?hr_11 ?hQ_11 ?hy_11 ?hS_11 ?h_11
        case hi_11 => (simp only [List.getElem?_toArray, List.getElem?_cons_zero, List.getElem?_cons_succ] <;> rfl)
        case hs_11 => kernel_rfl
        case hf_11 => kernel_rfl
        case hr_11 => kernel_rfl
        case hQ_11 => exact fun _ _ _ h => h
        case hy_11 => exact Or.inr ⟨by rfl, rfl⟩
        case hS_11 => assumption
        try go_frame
        refine wpAnyH_take (i := 11) (v := undef) (oi := ?_) ?hi_12 ?hs_12 ?hf_12 ?hr_12 ?hQ_12 ?hy_12 ?hS_12 ?h_12
        case hi_12 => (simp only [List.getElem?_toArray, List.getElem?_cons_zero, List.getElem?_cons_succ] <;> rfl)
        case hs_12 => kernel_rfl
        case hf_12 => kernel_rfl
        case hr_12 => kernel_rfl
        case hQ_12 => exact fun _ _ _ h => h
        case hy_12 => exact Or.inr ⟨by rfl, rfl⟩
        case hS_12 => assumption
        try go_frame
        refine wpAnyH_take (i := 12) (v := undef) (oi := ?_) ?hi_13 ?hs_13 ?hf_13 ?hr_13 ?hQ_13 ?hy_13 ?hS_13 ?h_13
        case hi_13 => (simp only [List.getElem?_toArray, List.getElem?_cons_zero, List.getElem?_cons_succ] <;> rfl)
        case hs_13 => kernel_rfl
        case hf_13 => kernel_rfl
        case hr_13 => kernel_rfl
        case hQ_13 => exact fun _ _ _ h => h
        case hy_13 => exact Or.inr ⟨by rfl, rfl⟩
        case hS_13 => assumption
        try go_frame
        refine wpAnyH_take (i := 13) (v := undef) (oi := ?_) ?hi_14 ?hs_14 ?hf_14 ?hr_14 ?hQ_14 ?hy_14 ?hS_14 ?h_14
        case hi_14 => (simp only [List.getElem?_toArray, List.getElem?_cons_zero, List.getElem?_cons_succ] <;> rfl)
        case hs_14 => kernel_rfl
        case hf_14 => kernel_rfl
        case hr_14 => kernel_rfl
        case hQ_14 => exact fun _ _ _ h => h
        case hy_14 => exact Or.inr ⟨by rfl, rfl⟩
        case hS_14 => assumption
        try go_frame
        refine wpAnyH_take (i := 14) (v := undef) (oi := ?_) ?hi_15 ?hs_15 ?hf_15 ?hr_15 ?hQ_15 ?hy_15 ?hS_15 ?h_15
        case hi_15 => (simp only [List.getElem?_toArray, List.getElem?_cons_zero, List.getElem?_cons_succ] <;> rfl)
        case hs_15 => kernel_rfl
        case hf_15 => kernel_rfl
        case hr_15 => kernel_rfl
        case hQ_15 => exact fun _ _ _ h => h
        case hy_15 => exact Or.inr ⟨by rfl, rfl⟩
        case hS_15 => assumption
        try go_frame
        refine wpAnyH_take (i := 15) (v := undef) (oi := ?_) ?hi_16 ?hs_16 ?hf_16 ?hr_16 ?hQ_16 ?hy_16 ?hS_16 ?h_16
        case hi_16 => (simp only [List.getElem?_toArray, List.getElem?_cons_zero, List.getElem?_cons_succ] <;> rfl)
        case hs_16 => kernel_rfl
        case hf_16 => kernel_rfl
        case hr_16 => kernel_rfl
        case hQ_16 => exact fun _ _ _ h => h
        case hy_16 => exact Or.inr ⟨by rfl, rfl⟩
        case hS_16 => assumption
        try go_frame
        refine wpAnyH_take (i := 16) (v := undef) (oi := ?_) ?hi_17 ?hs_17 ?hf_17 ?hr_17 ?hQ_17 ?hy_17 ?hS_17 ?h_17
        case hi_17 => (simp only [List.getElem?_toArray, List.getElem?_cons_zero, List.getElem?_cons_succ] <;> rfl)
        case hs_17 => kernel_rfl
        case hf_17 => kernel_rfl
        case hr_17 => kernel_rfl
        case hQ_17 => exact fun _ _ _ h => h
        case hy_17 => exact Or.inr ⟨by rfl, rfl⟩
        case hS_17 => assumption
        try go_frame
        refine wpAnyH_take (i := 17) (v := undef) (oi := ?_) ?hi_18 ?hs_18 ?hf_18 ?hr_18 ?hQ_18 ?hy_18 ?hS_18 ?h_18
        case hi_18 => (simp only [List.getElem?_toArray, List.getElem?_cons_zero, List.getElem?_cons_succ] <;> rfl)
        case hs_18 => kernel_rfl
        case hf_18 => kernel_rfl
        case hr_18 => kernel_rfl
        case hQ_18 => exact fun _ _ _ h => h
        case hy_18 => exact Or.inr ⟨by rfl, rfl⟩
        case hS_18 => assumption
        try go_frame
        refine wpAnyH_take (i := 18) (v := undef) (oi := ?_) ?hi_19 ?hs_19 ?hf_19 ?hr_19 ?hQ_19 ?hy_19 ?hS_19 ?h_19
        case hi_19 => (simp only [List.getElem?_toArray, List.getElem?_cons_zero, List.getElem?_cons_succ] <;> rfl)
        case hs_19 => kernel_rfl
        case hf_19 => kernel_rfl
        case hr_19 => kernel_rfl
        case hQ_19 => exact fun _ _ _ h => h
        case hy_19 => exact Or.inr ⟨by rfl, rfl⟩
        case hS_19 => assumption
        try go_frame
        refine wpAnyH_take (i := 19) (v := undef) (oi := ?_) ?hi_20 ?hs_20 ?hf_20 ?hr_20 ?hQ_20 ?hy_20 ?hS_20 ?h_20
        case hi_20 => (simp only [List.getElem?_toArray, List.getElem?_cons_zero, List.getElem?_cons_succ] <;> rfl)
        case hs_20 => kernel_rfl
        case hf_20 => kernel_rfl
        case hr_20 => kernel_rfl
        case hQ_20 => exact fun _ _ _ h => h
        case hy_20 => exact Or.inr ⟨by rfl, rfl⟩
        case hS_20 => assumption
        try go_frame
        refine wpAnyH_take (i := 20) (v := undef) (oi := ?_) ?hi_21 ?hs_21 ?hf_21 ?hr_21 ?hQ_21 ?hy_21 ?hS_21 ?h_21
        case hi_21 => (simp only [List.getElem?_toArray, List.getElem?_cons_zero, List.getElem?_cons_succ] <;> rfl)
        case hs_21 => kernel_rfl
        case hf_21 => kernel_rfl
        case hr_21 => kernel_rfl
        case hQ_21 => exact fun _ _ _ h => h
        case hy_21 => exact Or.inr ⟨by rfl, rfl⟩
        case hS_21 => assumption
        try go_frame
        refine wpAnyH_take (i := 21) (v := undef) (oi := ?_) ?hi_22 ?hs_22 ?hf_22 ?hr_22 ?hQ_22 ?hy_22 ?hS_22 ?h_22
        case hi_22 => (simp only [List.getElem?_toArray, List.getElem?_cons_zero, List.getElem?_cons_succ] <;> rfl)
        case hs_22 => kernel_rfl
        case hf_22 => kernel_rfl
        case hr_22 => kernel_rfl
        case hQ_22 => exact fun _ _ _ h => h
        case hy_22 => exact Or.inr ⟨by rfl, rfl⟩
        case hS_22 => assumption
        try go_frame
        refine wpAnyH_take (i := 22) (v := undef) (oi := ?_) ?hi_23 ?hs_23 ?hf_23 ?hr_23 ?hQ_23 ?hy_23 ?hS_23 ?h_23
        case hi_23 => (simp only [List.getElem?_toArray, List.getElem?_cons_zero, List.getElem?_cons_succ] <;> rfl)
        case hs_23 => kernel_rfl
        case hf_23 => kernel_rfl
        case hr_23 => kernel_rfl
        case hQ_23 => exact fun _ _ _ h => h
        case hy_23 => exact Or.inr ⟨by rfl, rfl⟩
        case hS_23 => assumption
        try go_frame
        refine wpAnyH_take (i := 23) (v := ?_) (oi := ?_) ?hi_24 ?hs_24 ?hf_24 ?hr_24 ?hQ_24 ?hy_24 ?hS_24 ?h_24
        case hi_24 => (simp only [List.getElem?_toArray, List.getElem?_cons_zero, List.getElem?_cons_succ] <;> rfl)
        case hs_24 => kernel_rfl
        case hf_24 => kernel_rfl
        case hr_24 => kernel_rfl
        case hQ_24 => exact fun _ _ _ h => h
        case hy_24 => (refine Or.inl ⟨by rfl, ?_⟩; intro w hSw; (try dsimp only at hSw); go_simp; try with_reducible rfl)
        case hS_24 => assumption
        try go_frame
        refine wpAnyH_take (i := 24) (v := ?_) (oi := ?_) ?hi_25 ?hs_25 ?hf_25 ?hr_25 ?hQ_25 ?hy_25 ?hS_25 ?h_25
        case hi_25 => (simp only [List.getElem?_toArray, List.getElem?_cons_zero, List.getElem?_cons_succ] <;> rfl)
        case hs_25 => kernel_rfl
        case hf_25 => kernel_rfl
        case hr_25 => kernel_rfl
        case hQ_25 => exact fun _ _ _ h => h
        case hy_25 => (refine Or.inl ⟨by rfl, ?_⟩; intro w hSw; (try dsimp only at hSw); go_simp; try with_reducible rfl)
        case hS_25 => assumption
        try go_frame
        refine wpAnyH_take (i := 25) (v := undef) (oi := ?_) ?hi_26 ?hs_26 ?hf_26 ?hr_26 ?hQ_26 ?hy_26 ?hS_26 ?h_26
        case hi_26 => (simp only [List.getElem?_toArray, List.getElem?_cons_zero, List.getElem?_cons_succ] <;> rfl)
        case hs_26 => kernel_rfl
        case hf_26 => kernel_rfl
        case hr_26 => kernel_rfl
        case hQ_26 => exact fun _ _ _ h => h
        case hy_26 => exact Or.inr ⟨by rfl, rfl⟩
        case hS_26 => assumption
        try go_frame
        refine wpAnyH_take (i := 26) (v := undef) (oi := ?_) ?hi_27 ?hs_27 ?hf_27 ?hr_27 ?hQ_27 ?hy_27 ?hS_27 ?h_27
        case hi_27 => (simp only [List.getElem?_toArray, List.getElem?_cons_zero, List.getElem?_cons_succ] <;> rfl)
        case hs_27 => kernel_rfl
        case hf_27 => kernel_rfl
        case hr_27 => kernel_rfl
        case hQ_27 => exact fun _ _ _ h => h
        case hy_27 => exact Or.inr ⟨by rfl, rfl⟩
        case hS_27 => assumption
        try go_frame
        refine wpAnyH_take (i := 27) (v := undef) (oi := ?_) ?hi_28 ?hs_28 ?hf_28 ?hr_28 ?hQ_28 ?hy_28 ?hS_28 ?h_28
        case hi_28 => (simp only [List.getElem?_toArray, List.getElem?_cons_zero, List.getElem?_cons_succ] <;> rfl)
        case hs_28 => kernel_rfl
        case hf_28 => kernel_rfl
        case hr_28 => kernel_rfl
        case hQ_28 => exact fun _ _ _ h => h
        case hy_28 => exact Or.inr ⟨by rfl, rfl⟩
        case hS_28 => assumption
        try go_frame
        refine wpAnyH_take (i := 28) (v := undef) (oi := ?_) ?hi_29 ?hs_29 ?hf_29 ?hr_29 ?hQ_29 ?hy_29 ?hS_29 ?h_29
        case hi_29 => (simp only [List.getElem?_toArray, List.getElem?_cons_zero, List.getElem?_cons_succ] <;> rfl)
        case hs_29 => kernel_rfl
        case hf_29 => kernel_rfl
        case hr_29 => kernel_rfl
        case hQ_29 => exact fun _ _ _ h => h
        case hy_29 => exact Or.inr ⟨by rfl, rfl⟩
        case hS_29 => assumption
        try go_frame
        refine wpAnyH_take (i := 29) (v := undef) (oi := ?_) ?hi_30 ?hs_30 ?hf_30 ?hr_30 ?hQ_30 ?hy_30 ?hS_30 ?h_30
        case hi_30 => (simp only [List.getElem?_toArray, List.getElem?_cons_zero, List.getElem?_cons_succ] <;> rfl)
        case hs_30 => kernel_rfl
        case hf_30 => kernel_rfl
        case hr_30 => kernel_rfl
        case hQ_30 => exact fun _ _ _ h => h
        case hy_30 => exact Or.inr ⟨by rfl, rfl⟩
        case hS_30 => assumption
        try go_frame
        refine wpAnyH_take (i := 30) (v := undef) (oi := ?_) ?hi_31 ?hs_31 ?hf_31 ?hr_31 ?hQ_31 ?hy_31 ?hS_31 ?h_31
        case hi_31 => (simp only [List.getElem?_toArray, List.getElem?_cons_zero, List.getElem?_cons_succ] <;> rfl)
        case hs_31 => kernel_rfl
        case hf_31 => kernel_rfl
        case hr_31 => kernel_rfl
        case hQ_31 => exact fun _ _ _ h => h
        case hy_31 => exact Or.inr ⟨by rfl, rfl⟩
        case hS_31 => assumption
        try go_frame
        refine wpAnyH_ready (rs := [31]) (by kernel_rfl) (by simp) ?_
        refine AllReadyH.cons (o := ?_) ?hi_32 (fun K hK => ?h_32) AllReadyH.nil
        case hi_32 => (simp only [List.getElem?_toArray, List.getElem?_cons_zero, List.getElem?_cons_succ] <;> rfl)
        go_simp
        refine hK.out _ _ ?_ (fun hHeld => ?_)
        · exact ⟨n2.cell c0, n2.cell c1, n2.cell c2⟩
        clear hK K
        try go_frame
        refine wpAnyH_take (i := 32) (v := undef) (oi := ?_) ?hi_33 ?hs_33 ?hf_33 ?hr_33 ?hQ_33 ?hy_33 ?hS_33 ?h_33
        case hi_33 => (simp only [List.getElem?_toArray, List.getElem?_cons_zero, List.getElem?_cons_succ] <;> rfl)
        case hs_33 => kernel_rfl
        case hf_33 => kernel_rfl
        case hr_33 => kernel_rfl
        case hQ_33 => exact fun _ _ _ h => h
        case hy_33 => exact Or.inr ⟨by rfl, rfl⟩
        case hS_33 => assumption
        try go_frame
        refine wpAnyH_take (i := 33) (v := ?_) (oi := ?_) ?hi_34 ?hs_34 ?hf_34 ?hr_34 ?hQ_34 ?hy_34 ?hS_34 ?h_34
        case hi_34 => (simp only [List.getElem?_toArray, List.getElem?_cons_zero, List.getElem?_cons_succ] <;> rfl)
        case hs_34 => kernel_rfl
        case hf_34 => kernel_rfl
        case hr_34 => kernel_rfl
        case hQ_34 => exact fun _ _ _ h => h
        case hy_34 => (refine Or.inl ⟨by rfl, ?_⟩; intro w hSw; (try dsimp only at hSw); go_simp; try with_reducible rfl)
        case hS_34 => assumption
        try go_frame
        refine wpAnyH_done (by kernel_rfl) ?_ _
        go_wp2_with fail
        go_ret
        exact ⟨by rw [specInv_bad Hf.out]; rfl, hN.drew.trans n2⟩
      · rw [hik] at hiv
        rw [hik, Bool.true_and] at Hst
        have Hiv := Lib.hid hiv
        clear hik hiv
        rcases k with _ | j
        · rw [show prevOk (prevAt os 0) o.path = true from rfl, Bool.true_and] at Hst
          simp only [Nat.zero_mul, Nat.add_zero] at c0 c1 c2
          rcases hh : homeS os o.path with _ | _
          · rw [hh] at hhm
            have Hhm := Lib.hid hhm
            have hf : specGo os none os = false := by rw [Hst.out, hh]; rfl
            have Hf := Lib.hid hf
            clear hf hh hhm
            go_wp2_with fail
            refine wp_region_held_drew (S := (fun w' => w'.cell? ⟨bb, off, none⟩ = some (.string ⟨o.path.toArray⟩) ∧ w'.cell? ⟨bb, off + 1, none⟩ = some (.bool o.dir) ∧ w'.cell? ⟨bb, off + 2, none⟩ = some uv)) (by kernel_rfl) ?_ (fun hHeld => ?_)
            · exact ⟨c0, c1, c2⟩
            refine wpAnyH_take (i := 0) (v := ?_) (oi := ?_) ?hi_35 ?hs_35 ?hf_35 ?hr_35 ?hQ_35 ?hy_35 ?hS_35 ?h_35
            case hi_35 => (simp only [List.getElem?_toArray, List.getElem?_cons_zero] <;> rfl)
            case hs_35 => kernel_rfl
            case hf_35 => kernel_rfl
            case hr_35 => kernel_rfl
            case hQ_35 => exact fun _ _ _ h => h
            case hy_35 => (refine Or.inl ⟨by rfl, ?_⟩; intro w hSw; (try dsimp only at hSw); go_simp; try with_reducible rfl)
            case hS_35 => assumption
            try go_frame
            refine wpAnyH_take (i := 1) (v := ?_) (oi := ?_) ?hi_36 ?hs_36 ?hf_36 ?hr_36 ?hQ_36 ?hy_36 ?hS_36 ?h_36
            case hi_36 => (simp only [List.getElem?_toArray, List.getElem?_cons_zero, List.getElem?_cons_succ] <;> rfl)
            case hs_36 => kernel_rfl
            case hf_36 => kernel_rfl
            case hr_36 => kernel_rfl
            case hQ_36 => exact fun _ _ _ h => h
            case hy_36 => (refine Or.inl ⟨by rfl, ?_⟩; intro w hSw; (try dsimp only at hSw); go_simp; try with_reducible rfl)
            case hS_36 => assumption
            try go_frame
            refine wpAnyH_take (i := 2) (v := ?_) (oi := ?_) ?hi_37 ?hs_37 ?hf_37 ?hr_37 ?hQ_37 ?hy_37 ?hS_37 ?h_37
            case hi_37 => (simp only [List.getElem?_toArray, List.getElem?_cons_zero, List.getElem?_cons_succ] <;> rfl)
            case hs_37 => kernel_rfl
            case hf_37 => kernel_rfl
            case hr_37 => kernel_rfl
            case hQ_37 => exact fun _ _ _ h => h
            case hy_37 => (refine Or.inl ⟨by rfl, ?_⟩; intro w hSw; (try dsimp only at hSw); go_simp; try with_reducible rfl)
            case hS_37 => assumption
            try go_frame
            refine wpAnyH_take (i := 3) (v := ?_) (oi := ?_) ?hi_38 ?hs_38 ?hf_38 ?hr_38 ?hQ_38 ?hy_38 ?hS_38 ?h_38
            case hi_38 => (simp only [List.getElem?_toArray, List.getElem?_cons_zero, List.getElem?_cons_succ] <;> rfl)
            case hs_38 => kernel_rfl
            case hf_38 => kernel_rfl
            case hr_38 => kernel_rfl
            case hQ_38 => exact fun _ _ _ h => h
            case hy_38 => (refine Or.inl ⟨by rfl, ?_⟩; intro w hSw; (try dsimp only at hSw); go_simp; try with_reducible rfl)
            case hS_38 => assumption
            try go_frame
            refine wpAnyH_ready (rs := [4]) (by kernel_rfl) (by simp) ?_
            refine AllReadyH.cons (o := ?_) ?hi_39 (fun K hK => ?h_39) AllReadyH.nil
            case hi_39 => (simp only [List.getElem?_toArray, List.getElem?_cons_zero, List.getElem?_cons_succ] <;> rfl)
            go_simp
            (refine (Hiv.out _ (New.refl _)).mono ?_; rintro e w2 ⟨rfl, n2⟩; go_wp2_with fail)
            refine hK.out _ _ ?_ (fun hHeld => ?_)
            · exact ⟨n2.cell c0, n2.cell c1, n2.cell c2⟩
            clear hK K
            try go_frame
            refine wpAnyH_take (i := 5) (v := ?_) (oi := ?_) ?hi_40 ?hs_40 ?hf_40 ?hr_40 ?hQ_40 ?hy_40 ?hS_40 ?h_40
            case hi_40 => (simp only [List.getElem?_toArray, List.getElem?_cons_zero, List.getElem?_cons_succ] <;> rfl)
            case hs_40 => kernel_rfl
            case hf_40 => kernel_rfl
            case hr_40 => kernel_rfl
            case hQ_40 => exact fun _ _ _ h => h
            case hy_40 => (refine Or.inl ⟨by rfl, ?_⟩; intro w hSw; (try dsimp only at hSw); go_simp; try with_reducible rfl)
            case hS_40 => assumption
            try go_frame
            refine wpAnyH_take (i := 6) (v := ?_) (oi := ?_) ?hi_41 ?hs_41 ?hf_41 ?hr_41 ?hQ_41 ?hy_41 ?hS_41 ?h_41
            case hi_41 => (simp only [List.getElem?_toArray, List.getElem?_cons_zero, List.getElem?_cons_succ] <;> rfl)
            case hs_41 => kernel_rfl
            case hf_41 => kernel_rfl
            case hr_41 => kernel_rfl
            case hQ_41 => exact fun _ _ _ h => h
            case hy_41 => (refine Or.inl ⟨by rfl, ?_⟩; intro w hSw; (try dsimp only at hSw); go_simp; try with_reducible rfl)
            case hS_41 => assumption
            try go_frame
            refine wpAnyH_take (i := 7) (v := ?_) (oi := ?_) ?hi_42 ?hs_42 ?hf_42 ?hr_42 ?hQ_42 ?hy_42 ?hS_42 ?h_42
            case hi_42 => (simp only [List.getElem?_toArray, List.getElem?_cons_zero, List.getElem?_cons_succ] <;> rfl)
            case hs_42 => kernel_rfl
            case hf_42 => kernel_rfl
            case hr_42 => kernel_rfl
            case hQ_42 => exact fun _ _ _ h => h
            case hy_42 => (refine Or.inl ⟨by rfl, ?_⟩; intro w hSw; (try dsimp only at hSw); go_simp; try with_reducible rfl)
            case hS_42 => assumption
            try go_frame
            refine wpAnyH_take (i := 8) (v := ?_) (oi := ?_) ?hi_43 ?hs_43 ?hf_43 ?hr_43 ?hQ_43 ?hy_43 ?hS_43 ?h_43
            case hi_43 => (simp only [List.getElem?_toArray, List.getElem?_cons_zero, List.getElem?_cons_succ] <;> rfl)
            case hs_43 => kernel_rfl
            case hf_43 => kernel_rfl
            case hr_43 => kernel_rfl
            case hQ_43 => exact fun _ _ _ h => h
            case hy_43 => (refine Or.inl ⟨by rfl, ?_⟩; intro w hSw; (try dsimp only at hSw); go_simp; try with_reducible rfl)
            case hS_43 => assumption
            try go_frame
            refine wpAnyH_take (i := 9) (v := ?_) (oi := ?_) ?hi_44 ?hs_44 ?hf_44 ?hr_44 ?hQ_44 ?hy_44 ?hS_44 ?h_44
            case hi_44 => (simp only [List.getElem?_toArray, List.getElem?_cons_zero, List.getElem?_cons_succ] <;> rfl)
            case hs_44 => kernel_rfl
            case hf_44 => kernel_rfl
            case hr_44 => kernel_rfl
            case hQ_44 => exact fun _ _ _ h => h
            case hy_44 => (refine Or.inl ⟨by rfl, ?_⟩; intro w hSw; (try dsimp only at hSw); go_simp; try with_reducible rfl)
            case hS_44 => assumption
            try go_frame
            refine wpAnyH_take (i := 10) (v := undef) (oi := ?_) ?hi_45 ?hs_45 ?hf_45 ?hr_45 ?hQ_45 ?hy_45 ?hS_45 ?h_45
            case hi_45 => (simp only [List.getElem?_toArray, List.getElem?_cons_zero, List.getElem?_cons_succ] <;> rfl)
            case hs_45 => kernel_rfl
            case hf_45 => kernel_rfl
            case hr_45 => kernel_rfl
            case hQ_45 => exact fun _ _ _ h => h
            case hy_45 => exact Or.inr ⟨by rfl, rfl⟩
            case hS_45 => assumption
            try go_frame
            refine wpAnyH_take (i := 11) (v := undef) (oi := ?_) ?hi_46 ?hs_46 ?hf_46 ?hr_46 ?hQ_46 ?hy_46 ?hS_46 ?h_46
            case hi_46 => (simp only [List.getElem?_toArray, List.getElem?_cons_zero, List.getElem?_cons_succ] <;> rfl)
            case hs_46 => kernel_rfl
            case hf_46 => kernel_rfl
            case hr_46 => kernel_rfl
            case hQ_46 => exact fun _ _ _ h => h
            case hy_46 => exact Or.inr ⟨by rfl, rfl⟩
            case hS_46 => assumption
            try go_frame
            refine wpAnyH_take (i := 12) (v := undef) (oi := ?_) ?hi_47 ?hs_47 ?hf_47 ?hr_47 ?hQ_47 ?hy_47 ?hS_47 ?h_47
            case hi_47 => (simp only [List.getElem?_toArray, List.getElem?_cons_zero, List.getElem?_cons_succ] <;> rfl)
            case hs_47 => kernel_rfl
            case hf_47 => kernel_rfl
            case hr_47 => kernel_rfl
            case hQ_47 => exact fun _ _ _ h => h
            case hy_47 => exact Or.inr ⟨by rfl, rfl⟩
            case hS_47 => assumption
            try go_frame
            refine wpAnyH_take (i := 13) (v := undef) (oi := ?_) ?hi_48 ?hs_48 ?hf_48 ?hr_48 ?hQ_48 ?hy_48 ?hS_48 ?h_48
            case hi_48 => (simp only [List.getElem?_toArray, List.getElem?_cons_zero, List.getElem?_cons_succ] <;> rfl)
            case hs_48 => kernel_rfl
            case hf_48 => kernel_rfl
            case hr_48 => kernel_rfl
            case hQ_48 => exact fun _ _ _ h => h
            case hy_48 => exact Or.inr ⟨by rfl, rfl⟩
            case hS_48 => assumption
            try go_frame
            refine wpAnyH_take (i := 14) (v := undef) (oi := ?_) ?hi_49 ?hs_49 ?hf_49 ?hr_49 ?hQ_49 ?hy_49 ?hS_49 ?h_49
            case hi_49 => (simp only [List.getElem?_toArray, List.getElem?_cons_zero, List.getElem?_cons_succ] <;> rfl)
            case hs_49 => kernel_rfl
            case hf_49 => kernel_rfl
            case hr_49 => kernel_rfl
            case hQ_49 => exact fun _ _ _ h => h
            case hy_49 => exact Or.inr ⟨by rfl, rfl⟩
            case hS_49 => assumption
            try go_frame
            refine wpAnyH_take (i := 15) (v := undef) (oi := ?_) ?hi_50 ?hs_50 ?hf_50 ?hr_50 ?hQ_50 ?hy_50 ?hS_50 ?h_50
            case hi_50 => (simp only [List.getElem?_toArray, List.getElem?_cons_zero, List.getElem?_cons_succ] <;> rfl)
            case hs_50 => kernel_rfl
            case hf_50 => kernel_rfl
            case hr_50 => kernel_rfl
            case hQ_50 => exact fun _ _ _ h => h
            case hy_50 => exact Or.inr ⟨by rfl, rfl⟩
            case hS_50 => assumption
            try go_frame
            refine wpAnyH_take (i := 16) (v := undef) (oi := ?_) ?hi_51 ?hs_51 ?hf_51 ?hr_51 ?hQ_51 ?hy_51 ?hS_51 ?h_51
            case hi_51 => (simp only [List.getElem?_toArray, List.getElem?_cons_zero, List.getElem?_cons_succ] <;> rfl)
            case hs_51 => kernel_rfl
            case hf_51 => kernel_rfl
            case hr_51 => kernel_rfl
            case hQ_51 => exact fun _ _ _ h => h
            case hy_51 => exact Or.inr ⟨by rfl, rfl⟩
            case hS_51 => assumption
            try go_frame
            refine wpAnyH_take (i := 17) (v := undef) (oi := ?_) ?hi_52 ?hs_52 ?hf_52 ?hr_52 ?hQ_52 ?hy_52 ?hS_52 ?h_52
            case hi_52 => (simp only [List.getElem?_toArray, List.getElem?_cons_zero, List.getElem?_cons_succ] <;> rfl)
            case hs_52 => kernel_rfl
            case hf_52 => kernel_rfl
            case hr_52 => kernel_rfl
            case hQ_52 => exact fun _ _ _ h => h
            case hy_52 => exact Or.inr ⟨by rfl, rfl⟩
            case hS_52 => assumption
            try go_frame
            refine wpAnyH_take (i := 18) (v := undef) (oi := ?_) ?hi_53 ?hs_53 ?hf_53 ?hr_53 ?hQ_53 ?hy_53 ?hS_53 ?h_53
            case hi_53 => (simp only [List.getElem?_toArray, List.getElem?_cons_zero, List.getElem?_cons_succ] <;> rfl)
            case hs_53 => kernel_rfl
            case hf_53 => kernel_rfl
            case hr_53 => kernel_rfl
            case hQ_53 => exact fun _ _ _ h => h
            case hy_53 => exact Or.inr ⟨by rfl, rfl⟩
            case hS_53 => assumption
            try go_frame
            refine wpAnyH_take (i := 19) (v := undef) (oi := ?_) ?hi_54 ?hs_54 ?hf_54 ?hr_54 ?hQ_54 ?hy_54 ?hS_54 ?h_54
            case hi_54 => (simp only [List.getElem?_toArray, List.getElem?_cons_zero, List.getElem?_cons_succ] <;> rfl)
            case hs_54 => kernel_rfl
            case hf_54 => kernel_rfl
            case hr_54 => kernel_rfl
            case hQ_54 => exact fun _ _ _ h => h
            case hy_54 => exact Or.inr ⟨by rfl, rfl⟩
            case hS_54 => assumption
            try go_frame
            refine wpAnyH_take (i := 20) (v := undef) (oi := ?_) ?hi_55 ?hs_55 ?hf_55 ?hr_55 ?hQ_55 ?hy_55 ?hS_55 ?h_55
            case hi_55 => (simp only [List.getElem?_toArray, List.getElem?_cons_zero, List.getElem?_cons_succ] <;> rfl)
            case hs_55 => kernel_rfl
            case hf_55 => kernel_rfl
            case hr_55 => kernel_rfl
            case hQ_55 => exact fun _ _ _ h => h
            case hy_55 => exact Or.inr ⟨by rfl, rfl⟩
            case hS_55 => assumption
            try go_frame
            refine wpAnyH_take (i := 21) (v := undef) (oi := ?_) ?hi_56 ?hs_56 ?hf_56 ?hr_56 ?hQ_56 ?hy_56 ?hS_56 ?h_56
            case hi_56 => (simp only [List.getElem?_toArray, List.getElem?_cons_zero, List.getElem?_cons_succ] <;> rfl)
            case hs_56 => kernel_rfl
            case hf_56 => kernel_rfl
            case hr_56 => kernel_rfl
            case hQ_56 => exact fun _ _ _ h => h
            case hy_56 => exact Or.inr ⟨by rfl, rfl⟩
            case hS_56 => assumption
            try go_frame
            refine wpAnyH_take (i := 22) (v := ?_) (oi := ?_) ?hi_57 ?hs_57 ?hf_57 ?hr_57 ?hQ_57 ?hy_57 ?hS_57 ?h_57
            case hi_57 => (simp only [List.getElem?_toArray, List.getElem?_cons_zero, List.getElem?_cons_succ] <;> rfl)
            case hs_57 => kernel_rfl
            case hf_57 => kernel_rfl
            case hr_57 => kernel_rfl
            case hQ_57 => exact fun _ _ _ h => h
            case hy_57 => (refine Or.inl ⟨by rfl, ?_⟩; intro w hSw; (try dsimp only at hSw); go_simp; try with_reducible rfl)
            case hS_57 => assumption
            try go_frame
            refine wpAnyH_take (i := 23) (v := ?_) (oi := ?_) ?hi_58 ?hs_58 ?hf_58 ?hr_58 ?hQ_58 ?hy_58 ?hS_58 ?h_58
            case hi_58 => (simp only [List.getElem?_toArray, List.getElem?_cons_zero, List.getElem?_cons_succ] <;> rfl)
            case hs_58 => kernel_rfl
            case hf_58 => kernel_rfl
            case hr_58 => kernel_rfl
            case hQ_58 => exact fun _ _ _ h => h
            case hy_58 => (refine Or.inl ⟨by rfl, ?_⟩; intro w hSw; (try dsimp only at hSw); go_simp; try with_reducible rfl)
            case hS_58 => assumption
            try go_frame
            refine wpAnyH_take (i := 24) (v := ?_) (oi := ?_) ?hi_59 ?hs_59 ?hf_59 ?hr_59 ?hQ_59 ?hy_59 ?hS_59 ?h_59
            case hi_59 => (simp only [List.getElem?_toArray, List.getElem?_cons_zero, List.getElem?_cons_succ] <;> rfl)
            case hs_59 => kernel_rfl
            case hf_59 => kernel_rfl
            case hr_59 => kernel_rfl
            case hQ_59 => exact fun _ _ _ h => h
            case hy_59 => (refine Or.inl ⟨by rfl, ?_⟩; intro w hSw; (try dsimp only at hSw); go_simp; try with_reducible rfl)
            case hS_59 => assumption
            try go_frame
            refine wpAnyH_take (i := 25) (v := ?_) (oi := ?_) ?hi_60 ?hs_60 ?hf_60 ?hr_60 ?hQ_60 ?hy_60 ?hS_60 ?h_60
            case hi_60 => (simp only [List.getElem?_toArray, List.getElem?_cons_zero, List.getElem?_cons_succ] <;> rfl)
            case hs_60 => kernel_rfl
            case hf_60 => kernel_rfl
            case hr_60 => kernel_rfl
            case hQ_60 => exact fun _ _ _ h => h
            case hy_60 => (refine Or.inl ⟨by rfl, ?_⟩; intro w hSw; (try dsimp only at hSw); go_simp; try with_reducible rfl)
            case hS_60 => assumption
            try go_frame
            refine wpAnyH_take (i := 26) (v := ?_) (oi := ?_) ?hi_61 ?hs_61 ?hf_61 ?hr_61 ?hQ_61 ?hy_61 ?hS_61 ?h_61
            case hi_61 => (simp only [List.getElem?_toArray, List.getElem?_cons_zero, List.getElem?_cons_succ] <;> rfl)
            case hs_61 => kernel_rfl
            case hf_61 => kernel_rfl
            case hr_61 => kernel_rfl
            case hQ_61 => exact fun _ _ _ h => h
            case hy_61 => (refine Or.inl ⟨by rfl, ?_⟩; intro w hSw; (try dsimp only at hSw); go_simp; try with_reducible rfl)
            case hS_61 => assumption
            try go_frame
            refine wpAnyH_take (i := 27) (v := ?_) (oi := ?_) ?hi_62 ?hs_62 ?hf_62 ?hr_62 ?hQ_62 ?hy_62 ?hS_62 ?h_62
            case hi_62 => (simp only [List.getElem?_toArray, List.getElem?_cons_zero, List.getElem?_cons_succ] <;> rfl)
            case hs_62 => kernel_rfl
            case hf_62 => kernel_rfl
            case hr_62 => kernel_rfl
            case hQ_62 => exact fun _ _ _ h => h
            case hy_62 => (refine Or.inl ⟨by rfl, ?_⟩; intro w hSw; (try dsimp only at hSw); go_simp; try with_reducible rfl)
            case hS_62 => assumption
            try go_frame
            refine wpAnyH_take (i := 28) (v := ?_) (oi := ?_) ?hi_63 ?hs_63 ?hf_63 ?hr_63 ?hQ_63 ?hy_63 ?hS_63 ?h_63
            case hi_63 => (simp only [List.getElem?_toArray, List.getElem?_cons_zero, List.getElem?_cons_succ] <;> rfl)
            case hs_63 => kernel_rfl
            case hf_63 => kernel_rfl
            case hr_63 => kernel_rfl
            case hQ_63 => exact fun _ _ _ h => h
            case hy_63 => (refine Or.inl ⟨by rfl, ?_⟩; intro w hSw; (try dsimp only at hSw); go_simp; try with_reducible rfl)
            case hS_63 => assumption
            try go_frame
            refine wpAnyH_take (i := 29) (v := ?_) (oi := ?_) ?hi_64 ?hs_64 ?hf_64 ?hr_64 ?hQ_64 ?hy_64 ?hS_64 ?h_64
            case hi_64 => (simp only [List.getElem?_toArray, List.getElem?_cons_zero, List.getElem?_cons_succ] <;> rfl)
            case hs_64 => kernel_rfl
            case hf_64 => kernel_rfl
            case hr_64 => kernel_rfl
            case hQ_64 => exact fun _ _ _ h => h
            case hy_64 => (refine Or.inl ⟨by rfl, ?_⟩; intro w hSw; (try dsimp only at hSw); go_simp; try with_reducible rfl)
            case hS_64 => assumption
            try go_frame
            refine wpAnyH_take (i := 30) (v := ?_) (oi := ?_) ?hi_65 ?hs_65 ?hf_65 ?hr_65 ?hQ_65 ?hy_65 ?hS_65 ?h_65
            case hi_65 => (simp only [List.getElem?_toArray, List.getElem?_cons_zero, List.getElem?_cons_succ] <;> rfl)
            case hs_65 => kernel_rfl
            case hf_65 => kernel_rfl
            case hr_65 => kernel_rfl
            case hQ_65 => exact fun _ _ _ h => h
            case hy_65 => (refine Or.inl ⟨by rfl, ?_⟩; intro w hSw; (try dsimp only at hSw); go_simp; try with_reducible rfl)
            case hS_65 => assumption
            try go_frame
            refine wpAnyH_ready (rs := [31]) (by kernel_rfl) (by simp) ?_
            refine AllReadyH.cons (o := ?_) ?hi_66 (fun K hK => ?h_66) AllReadyH.nil
            case hi_66 => (simp only [List.getElem?_toArray, List.getElem?_cons_zero, List.getElem?_cons_succ] <;> rfl)
            go_simp
            (refine (Hhm.out _ (hN.drew.trans n2)).mono ?_; rintro e w3 ⟨rfl, n3⟩; go_wp2_with fail)
            refine hK.out _ _ ?_ (fun hHeld => ?_)
            · exact ⟨n3.cell (n2.cell c0), n3.cell (n2.cell c1), n3.cell (n2.cell c2)⟩
            clear hK K
            try go_frame
            refine wpAnyH_take (i := 32) (v := ?_) (oi := ?_) ?hi_67 ?hs_67 ?hf_67 ?hr_67 ?hQ_67 ?hy_67 ?hS_67 ?h_67
            case hi_67 => (simp only [List.getElem?_toArray, List.getElem?_cons_zero, List.getElem?_cons_succ] <;> rfl)
            case hs_67 => kernel_rfl
            case hf_67 => kernel_rfl
            case hr_67 => kernel_rfl
            case hQ_67 => exact fun _ _ _ h => h
            case hy_67 => (refine Or.inl ⟨by rfl, ?_⟩; intro w hSw; (try dsimp only at hSw); go_simp; try with_reducible rfl)
            case hS_67 => assumption
            try go_frame
            refine wpAnyH_take (i := 33) (v := ?_) (oi := ?_) ?hi_68 ?hs_68 ?hf_68 ?hr_68 ?hQ_68 ?hy_68 ?hS_68 ?h_68
            case hi_68 => (simp only [List.getElem?_toArray, List.getElem?_cons_zero, List.getElem?_cons_succ] <;> rfl)
            case hs_68 => kernel_rfl
            case hf_68 => kernel_rfl
            case hr_68 => kernel_rfl
            case hQ_68 => exact fun _ _ _ h => h
            case hy_68 => (refine Or.inl ⟨by rfl, ?_⟩; intro w hSw; (try dsimp only at hSw); go_simp; try with_reducible rfl)
            case hS_68 => assumption
            try go_frame
            refine wpAnyH_done (by kernel_rfl) ?_ _
            go_wp2_with fail
            go_ret
            exact ⟨by rw [specInv_bad Hf.out]; rfl, (hN.drew.trans n2).trans n3⟩
          · rw [hh] at hhm
            have Hhm := Lib.hid hhm
            rw [hh, Bool.true_and] at Hst
            clear hh hhm
            go_wp2_with fail
            refine wp_region_held_drew (S := (fun w' => w'.cell? ⟨bb, off, none⟩ = some (.string ⟨o.path.toArray⟩) ∧ w'.cell? ⟨bb, off + 1, none⟩ = some (.bool o.dir) ∧ w'.cell? ⟨bb, off + 2, none⟩ = some uv)) (by kernel_rfl) ?_ (fun hHeld => ?_)
            · exact ⟨c0, c1, c2⟩
            refine wpAnyH_take (i := 0) (v := ?_) (oi := ?_) ?hi_69 ?hs_69 ?hf_69 ?hr_69 ?hQ_69 ?hy_69 ?hS_69 ?h_69
            case hi_69 => (simp only [List.getElem?_toArray, List.getElem?_cons_zero] <;> rfl)
            case hs_69 => kernel_rfl
            case hf_69 => kernel_rfl
            case hr_69 => kernel_rfl
            case hQ_69 => exact fun _ _ _ h => h
            case hy_69 => (refine Or.inl ⟨by rfl, ?_⟩; intro w hSw; (try dsimp only at hSw); go_simp; try with_reducible rfl)
            case hS_69 => assumption
            try go_frame
            refine wpAnyH_take (i := 1) (v := ?_) (oi := ?_) ?hi_70 ?hs_70 ?hf_70 ?hr_70 ?hQ_70 ?hy_70 ?hS_70 ?h_70
            case hi_70 => (simp only [List.getElem?_toArray, List.getElem?_cons_zero, List.getElem?_cons_succ] <;> rfl)
            case hs_70 => kernel_rfl
            case hf_70 => kernel_rfl
            case hr_70 => kernel_rfl
            case hQ_70 => exact fun _ _ _ h => h
            case hy_70 => (refine Or.inl ⟨by rfl, ?_⟩; intro w hSw; (try dsimp only at hSw); go_simp; try with_reducible rfl)
            case hS_70 => assumption
            try go_frame
            refine wpAnyH_take (i := 2) (v := ?_) (oi := ?_) ?hi_71 ?hs_71 ?hf_71 ?hr_71 ?hQ_71 ?hy_71 ?hS_71 ?h_71
            case hi_71 => (simp only [List.getElem?_toArray, List.getElem?_cons_zero, List.getElem?_cons_succ] <;> rfl)
            case hs_71 => kernel_rfl
            case hf_71 => kernel_rfl
            case hr_71 => kernel_rfl
            case hQ_71 => exact fun _ _ _ h => h
            case hy_71 => (refine Or.inl ⟨by rfl, ?_⟩; intro w hSw; (try dsimp only at hSw); go_simp; try with_reducible rfl)
            case hS_71 => assumption
            try go_frame
            refine wpAnyH_take (i := 3) (v := ?_) (oi := ?_) ?hi_72 ?hs_72 ?hf_72 ?hr_72 ?hQ_72 ?hy_72 ?hS_72 ?h_72
            case hi_72 => (simp only [List.getElem?_toArray, List.getElem?_cons_zero, List.getElem?_cons_succ] <;> rfl)
            case hs_72 => kernel_rfl
            case hf_72 => kernel_rfl
            case hr_72 => kernel_rfl
            case hQ_72 => exact fun _ _ _ h => h
            case hy_72 => (refine Or.inl ⟨by rfl, ?_⟩; intro w hSw; (try dsimp only at hSw); go_simp; try with_reducible rfl)
            case hS_72 => assumption
            try go_frame
            refine wpAnyH_ready (rs := [4]) (by kernel_rfl) (by simp) ?_
            refine AllReadyH.cons (o := ?_) ?hi_73 (fun K hK => ?h_73) AllReadyH.nil
            case hi_73 => (simp only [List.getElem?_toArray, List.getElem?_cons_zero, List.getElem?_cons_succ] <;> rfl)
            go_simp
            (refine (Hiv.out _ (New.refl _)).mono ?_; rintro e w2 ⟨rfl, n2⟩; go_wp2_with fail)
            refine hK.out _ _ ?_ (fun hHeld => ?_)
            · exact ⟨n2.cell c0, n2.cell c1, n2.cell c2⟩
            clear hK K
            try go_frame
            refine wpAnyH_take (i := 5) (v := ?_) (oi := ?_) ?hi_74 ?hs_74 ?hf_74 ?hr_74 ?hQ_74 ?hy_74 ?hS_74 ?h_74
            case hi_74 => (simp only [List.getElem?_toArray, List.getElem?_cons_zero, List.getElem?_cons_succ] <;> rfl)
            case hs_74 => kernel_rfl
            case hf_74 => kernel_rfl
            case hr_74 => kernel_rfl
            case hQ_74 => exact fun _ _ _ h => h
            case hy_74 => (refine Or.inl ⟨by rfl, ?_⟩; intro w hSw; (try dsimp only at hSw); go_simp; try with_reducible rfl)
            case hS_74 => assumption
            try go_frame
            refine wpAnyH_take (i := 6) (v := ?_) (oi := ?_) ?hi_75 ?hs_75 ?hf_75 ?hr_75 ?hQ_75 ?hy_75 ?hS_75 ?h_75
            case hi_75 => (simp only [List.getElem?_toArray, List.getElem?_cons_zero, List.getElem?_cons_succ] <;> rfl)
            case hs_75 => kernel_rfl
            case hf_75 => kernel_rfl
            case hr_75 => kernel_rfl
            case hQ_75 => exact fun _ _ _ h => h
            case hy_75 => (refine Or.inl ⟨by rfl, ?_⟩; intro w hSw; (try dsimp only at hSw); go_simp; try with_reducible rfl)
            case hS_75 => assumption
            try go_frame
            refine wpAnyH_take (i := 7) (v := ?_) (oi := ?_) ?hi_76 ?hs_76 ?hf_76 ?hr_76 ?hQ_76 ?hy_76 ?hS_76 ?h_76
            case hi_76 => (simp only [List.getElem?_toArray, List.getElem?_cons_zero, List.getElem?_cons_succ] <;> rfl)
            case hs_76 => kernel_rfl
            case hf_76 => kernel_rfl
            case hr_76 => kernel_rfl
            case hQ_76 => exact fun _ _ _ h => h
            case hy_76 => (refine Or.inl ⟨by rfl, ?_⟩; intro w hSw; (try dsimp only at hSw); go_simp; try with_reducible rfl)
            case hS_76 => assumption
            try go_frame
            refine wpAnyH_take (i := 8) (v := ?_) (oi := ?_) ?hi_77 ?hs_77 ?hf_77 ?hr_77 ?hQ_77 ?hy_77 ?hS_77 ?h_77
            case hi_77 => (simp only [List.getElem?_toArray, List.getElem?_cons_zero, List.getElem?_cons_succ] <;> rfl)
            case hs_77 => kernel_rfl
            case hf_77 => kernel_rfl
            case hr_77 => kernel_rfl
            case hQ_77 => exact fun _ _ _ h => h
            case hy_77 => (refine Or.inl ⟨by rfl, ?_⟩; intro w hSw; (try dsimp only at hSw); go_simp; try with_reducible rfl)
            case hS_77 => assumption
            try go_frame
            refine wpAnyH_take (i := 9) (v := ?_) (oi := ?_) ?hi_78 ?hs_78 ?hf_78 ?hr_78 ?hQ_78 ?hy_78 ?hS_78 ?h_78
            case hi_78 => (simp only [List.getElem?_toArray, List.getElem?_cons_zero, List.getElem?_cons_succ] <;> rfl)
            case hs_78 => kernel_rfl
            case hf_78 => kernel_rfl
            case hr_78 => kernel_rfl
            case hQ_78 => exact fun _ _ _ h => h
            case hy_78 => (refine Or.inl ⟨by rfl, ?_⟩; intro w hSw; (try dsimp only at hSw); go_simp; try with_reducible rfl)
            case hS_78 => assumption
            try go_frame
            refine wpAnyH_take (i := 10) (v := undef) (oi := ?_) ?hi_79 ?hs_79 ?hf_79 ?hr_79 ?hQ_79 ?hy_79 ?hS_79 ?h_79
            case hi_79 => (simp only [List.getElem?_toArray, List.getElem?_cons_zero, List.getElem?_cons_succ] <;> rfl)
            case hs_79 => kernel_rfl
            case hf_79 => kernel_rfl
            case hr_79 => kernel_rfl
            case hQ_79 => exact fun _ _ _ h => h
            case hy_79 => exact Or.inr ⟨by rfl, rfl⟩
            case hS_79 => assumption
            try go_frame
            refine wpAnyH_take (i := 11) (v := undef) (oi := ?_) ?hi_80 ?hs_80 ?hf_80 ?hr_80 ?hQ_80 ?hy_80 ?hS_80 ?h_80
            case hi_80 => (simp only [List.getElem?_toArray, List.getElem?_cons_zero, List.getElem?_cons_succ] <;> rfl)
            case hs_80 => kernel_rfl
            case hf_80 => kernel_rfl
            case hr_80 => kernel_rfl
            case hQ_80 => exact fun _ _ _ h => h
            case hy_80 => exact Or.inr ⟨by rfl, rfl⟩
            case hS_80 => assumption
            try go_frame
            refine wpAnyH_take (i := 12) (v := undef) (oi := ?_) ?hi_81 ?hs_81 ?hf_81 ?hr_81 ?hQ_81 ?hy_81 ?hS_81 ?h_81
            case hi_81 => (simp only [List.getElem?_toArray, List.getElem?_cons_zero, List.getElem?_cons_succ] <;> rfl)
            case hs_81 => kernel_rfl
            case hf_81 => kernel_rfl
            case hr_81 => kernel_rfl
            case hQ_81 => exact fun _ _ _ h => h
            case hy_81 => exact Or.inr ⟨by rfl, rfl⟩
            case hS_81 => assumption
            try go_frame
            refine wpAnyH_take (i := 13) (v := undef) (oi := ?_) ?hi_82 ?hs_82 ?hf_82 ?hr_82 ?hQ_82 ?hy_82 ?hS_82 ?h_82
            case hi_82 => (simp only [List.getElem?_toArray, List.getElem?_cons_zero, List.getElem?_cons_succ] <;> rfl)
            case hs_82 => kernel_rfl
            case hf_82 => kernel_rfl
            case hr_82 => kernel_rfl
            case hQ_82 => exact fun _ _ _ h => h
            case hy_82 => exact Or.inr ⟨by rfl, rfl⟩
            case hS_82 => assumption
            try go_frame
            refine wpAnyH_take (i := 14) (v := undef) (oi := ?_) ?hi_83 ?hs_83 ?hf_83 ?hr_83 ?hQ_83 ?hy_83 ?hS_83 ?h_83
            case hi_83 => (simp only [List.getElem?_toArray, List.getElem?_cons_zero, List.getElem?_cons_succ] <;> rfl)
            case hs_83 => kernel_rfl
            case hf_83 => kernel_rfl
            case hr_83 => kernel_rfl
            case hQ_83 => exact fun _ _ _ h => h
            case hy_83 => exact Or.inr ⟨by rfl, rfl⟩
            case hS_83 => assumption
            try go_frame
            refine wpAnyH_take (i := 15) (v := undef) (oi := ?_) ?hi_84 ?hs_84 ?hf_84 ?hr_84 ?hQ_84 ?hy_84 ?hS_84 ?h_84
            case hi_84 => (simp only [List.getElem?_toArray, List.getElem?_cons_zero, List.getElem?_cons_succ] <;> rfl)
            case hs_84 => kernel_rfl
            case hf_84 => kernel_rfl
            case hr_84 => kernel_rfl
            case hQ_84 => exact fun _ _ _ h => h
            case hy_84 => exact Or.inr ⟨by rfl, rfl⟩
            case hS_84 => assumption
            try go_frame
            refine wpAnyH_take (i := 16) (v := undef) (oi := ?_) ?hi_85 ?hs_85 ?hf_85 ?hr_85 ?hQ_85 ?hy_85 ?hS_85 ?h_85
            case hi_85 => (simp only [List.getElem?_toArray, List.getElem?_cons_zero, List.getElem?_cons_succ] <;> rfl)
            case hs_85 => kernel_rfl
            case hf_85 => kernel_rfl
            case hr_85 => kernel_rfl
            case hQ_85 => exact fun _ _ _ h => h
            case hy_85 => exact Or.inr ⟨by rfl, rfl⟩
            case hS_85 => assumption
            try go_frame
            refine wpAnyH_take (i := 17) (v := undef) (oi := ?_) ?hi_86 ?hs_86 ?hf_86 ?hr_86 ?hQ_86 ?hy_86 ?hS_86 ?h_86
            case hi_86 => (simp only [List.getElem?_toArray, List.getElem?_cons_zero, List.getElem?_cons_succ] <;> rfl)
            case hs_86 => kernel_rfl
            case hf_86 => kernel_rfl
            case hr_86 => kernel_rfl
            case hQ_86 => exact fun _ _ _ h => h
            case hy_86 => exact Or.inr ⟨by rfl, rfl⟩
            case hS_86 => assumption
            try go_frame
            refine wpAnyH_take (i := 18) (v := undef) (oi := ?_) ?hi_87 ?hs_87 ?hf_87 ?hr_87 ?hQ_87 ?hy_87 ?hS_87 ?h_87
            case hi_87 => (simp only [List.getElem?_toArray, List.getElem?_cons_zero, List.getElem?_cons_succ] <;> rfl)
            case hs_87 => kernel_rfl
            case hf_87 => kernel_rfl
            case hr_87 => kernel_rfl
            case hQ_87 => exact fun _ _ _ h => h
            case hy_87 => exact Or.inr ⟨by rfl, rfl⟩
            case hS_87 => assumption
            try go_frame
            refine wpAnyH_take (i := 19) (v := undef) (oi := ?_) ?hi_88 ?hs_88 ?hf_88 ?hr_88 ?hQ_88 ?hy_88 ?hS_88 ?h_88
            case hi_88 => (simp only [List.getElem?_toArray, List.getElem?_cons_zero, List.getElem?_cons_succ] <;> rfl)
            case hs_88 => kernel_rfl
            case hf_88 => kernel_rfl
            case hr_88 => kernel_rfl
            case hQ_88 => exact fun _ _ _ h => h
            case hy_88 => exact Or.inr ⟨by rfl, rfl⟩
            case hS_88 => assumption
            try go_frame
            refine wpAnyH_take (i := 20) (v := undef) (oi := ?_) ?hi_89 ?hs_89 ?hf_89 ?hr_89 ?hQ_89 ?hy_89 ?hS_89 ?h_89
            case hi_89 => (simp only [List.getElem?_toArray, List.getElem?_cons_zero, List.getElem?_cons_succ] <;> rfl)
            case hs_89 => kernel_rfl
            case hf_89 => kernel_rfl
            case hr_89 => kernel_rfl
            case hQ_89 => exact fun _ _ _ h => h
            case hy_89 => exact Or.inr ⟨by rfl, rfl⟩
            case hS_89 => assumption
            try go_frame
            refine wpAnyH_take (i := 21) (v := undef) (oi := ?_) ?hi_90 ?hs_90 ?hf_90 ?hr_90 ?hQ_90 ?hy_90 ?hS_90 ?h_90
            case hi_90 => (simp only [List.getElem?_toArray, List.getElem?_cons_zero, List.getElem?_cons_succ] <;> rfl)
            case hs_90 => kernel_rfl
            case hf_90 => kernel_rfl
            case hr_90 => kernel_rfl
            case hQ_90 => exact fun _ _ _ h => h
            case hy_90 => exact Or.inr ⟨by rfl, rfl⟩
            case hS_90 => assumption
            try go_frame
            refine wpAnyH_take (i := 22) (v := ?_) (oi := ?_) ?hi_91 ?hs_91 ?hf_91 ?hr_91 ?hQ_91 ?hy_91 ?hS_91 ?h_91
            case hi_91 => (simp only [List.getElem?_toArray, List.getElem?_cons_zero, List.getElem?_cons_succ] <;> rfl)
            case hs_91 => kernel_rfl
            case hf_91 => kernel_rfl
            case hr_91 => kernel_rfl
            case hQ_91 => exact fun _ _ _ h => h
            case hy_91 => (refine Or.inl ⟨by rfl, ?_⟩; intro w hSw; (try dsimp only at hSw); go_simp; try with_reducible rfl)
            case hS_91 => assumption
            try go_frame
            refine wpAnyH_take (i := 23) (v := ?_) (oi := ?_) ?hi_92 ?hs_92 ?hf_92 ?hr_92 ?hQ_92 ?hy_92 ?hS_92 ?h_92
            case hi_92 => (simp only [List.getElem?_toArray, List.getElem?_cons_zero, List.getElem?_cons_succ] <;> rfl)
            case hs_92 => kernel_rfl
            case hf_92 => kernel_rfl
            case hr_92 => kernel_rfl
            case hQ_92 => exact fun _ _ _ h => h
            case hy_92 => (refine Or.inl ⟨by rfl, ?_⟩; intro w hSw; (try dsimp only at hSw); go_simp; try with_reducible rfl)
            case hS_92 => assumption
            try go_frame
            refine wpAnyH_take (i := 24) (v := ?_) (oi := ?_) ?hi_93 ?hs_93 ?hf_93 ?hr_93 ?hQ_93 ?hy_93 ?hS_93 ?h_93
            case hi_93 => (simp only [List.getElem?_toArray, List.getElem?_cons_zero, List.getElem?_cons_succ] <;> rfl)
            case hs_93 => kernel_rfl
            case hf_93 => kernel_rfl
            case hr_93 => kernel_rfl
            case hQ_93 => exact fun _ _ _ h => h
            case hy_93 => (refine Or.inl ⟨by rfl, ?_⟩; intro w hSw; (try dsimp only at hSw); go_simp; try with_reducible rfl)
            case hS_93 => assumption
            try go_frame
            refine wpAnyH_take (i := 25) (v := ?_) (oi := ?_) ?hi_94 ?hs_94 ?hf_94 ?hr_94 ?hQ_94 ?hy_94 ?hS_94 ?h_94
            case hi_94 => (simp only [List.getElem?_toArray, List.getElem?_cons_zero, List.getElem?_cons_succ] <;> rfl)
            case hs_94 => kernel_rfl
            case hf_94 => kernel_rfl
            case hr_94 => kernel_rfl
            case hQ_94 => exact fun _ _ _ h => h
            case hy_94 => (refine Or.inl ⟨by rfl, ?_⟩; intro w hSw; (try dsimp only at hSw); go_simp; try with_reducible rfl)
            case hS_94 => assumption
            try go_frame
            refine wpAnyH_take (i := 26) (v := ?_) (oi := ?_) ?hi_95 ?hs_95 ?hf_95 ?hr_95 ?hQ_95 ?hy_95 ?hS_95 ?h_95
            case hi_95 => (simp only [List.getElem?_toArray, List.getElem?_cons_zero, List.getElem?_cons_succ] <;> rfl)
            case hs_95 => kernel_rfl
            case hf_95 => kernel_rfl
            case hr_95 => kernel_rfl
            case hQ_95 => exact fun _ _ _ h => h
            case hy_95 => (refine Or.inl ⟨by rfl, ?_⟩; intro w hSw; (try dsimp only at hSw); go_simp; try with_reducible rfl)
            case hS_95 => assumption
            try go_frame
            refine wpAnyH_take (i := 27) (v := ?_) (oi := ?_) ?hi_96 ?hs_96 ?hf_96 ?hr_96 ?hQ_96 ?hy_96 ?hS_96 ?h_96
            case hi_96 => (simp only [List.getElem?_toArray, List.getElem?_cons_zero, List.getElem?_cons_succ] <;> rfl)
            case hs_96 => kernel_rfl
            case hf_96 => kernel_rfl
            case hr_96 => kernel_rfl
            case hQ_96 => exact fun _ _ _ h => h
            case hy_96 => (refine Or.inl ⟨by rfl, ?_⟩; intro w hSw; (try dsimp only at hSw); go_simp; try with_reducible rfl)
            case hS_96 => assumption
            try go_frame
            refine wpAnyH_take (i := 28) (v := ?_) (oi := ?_) ?hi_97 ?hs_97 ?hf_97 ?hr_97 ?hQ_97 ?hy_97 ?hS_97 ?h_97
            case hi_97 => (simp only [List.getElem?_toArray, List.getElem?_cons_zero, List.getElem?_cons_succ] <;> rfl)
            case hs_97 => kernel_rfl
            case hf_97 => kernel_rfl
            case hr_97 => kernel_rfl
            case hQ_97 => exact fun _ _ _ h => h
            case hy_97 => (refine Or.inl ⟨by rfl, ?_⟩; intro w hSw; (try dsimp only at hSw); go_simp; try with_reducible rfl)
            case hS_97 => assumption
            try go_frame
            refine wpAnyH_take (i := 29) (v := ?_) (oi := ?_) ?hi_98 ?hs_98 ?hf_98 ?hr_98 ?hQ_98 ?hy_98 ?hS_98 ?h_98
            case hi_98 => (simp only [List.getElem?_toArray, List.getElem?_cons_zero, List.getElem?_cons_succ] <;> rfl)
            case hs_98 => kernel_rfl
            case hf_98 => kernel_rfl
            case hr_98 => kernel_rfl
            case hQ_98 => exact fun _ _ _ h => h
            case hy_98 => (refine Or.inl ⟨by rfl, ?_⟩; intro w hSw; (try dsimp only at hSw); go_simp; try with_reducible rfl)
            case hS_98 => assumption
            try go_frame
            refine wpAnyH_take (i := 30) (v := ?_) (oi := ?_) ?hi_99 ?hs_99 ?hf_99 ?hr_99 ?hQ_99 ?hy_99 ?hS_99 ?h_99
            case hi_99 => (simp only [List.getElem?_toArray, List.getElem?_cons_zero, List.getElem?_cons_succ] <;> rfl)
            case hs_99 => kernel_rfl
            case hf_99 => kernel_rfl
            case hr_99 => kernel_rfl
            case hQ_99 => exact fun _ _ _ h => h
            case hy_99 => (refine Or.inl ⟨by rfl, ?_⟩; intro w hSw; (try dsimp only at hSw); go_simp; try with_reducible rfl)
            case hS_99 => assumption
            try go_frame
            refine wpAnyH_ready (rs := [31]) (by kernel_rfl) (by simp) ?_
            refine AllReadyH.cons (o := ?_) ?hi_100 (fun K hK => ?h_100) AllReadyH.nil
            case hi_100 => (simp only [List.getElem?_toArray, List.getElem?_cons_zero, List.getElem?_cons_succ] <;> rfl)
            go_simp
            (refine (Hhm.out _ (hN.drew.trans n2)).mono ?_; rintro e w3 ⟨rfl, n3⟩; go_wp2_with fail)
            refine hK.out _ _ ?_ (fun hHeld => ?_)
            · exact ⟨n3.cell (n2.cell c0), n3.cell (n2.cell c1), n3.cell (n2.cell c2)⟩
            clear hK K
            try go_frame
            refine wpAnyH_take (i := 32) (v := ?_) (oi := ?_) ?hi_101 ?hs_101 ?hf_101 ?hr_101 ?hQ_101 ?hy_101 ?hS_101 ?h_101
            case hi_101 => (simp only [List.getElem?_toArray, List.getElem?_cons_zero, List.getElem?_cons_succ] <;> rfl)
            case hs_101 => kernel_rfl
            case hf_101 => kernel_rfl
            case hr_101 => kernel_rfl
            case hQ_101 => exact fun _ _ _ h => h
            case hy_101 => (refine Or.inl ⟨by rfl, ?_⟩; intro w hSw; (try dsimp only at hSw); go_simp; try with_reducible rfl)
            case hS_101 => assumption
            try go_frame
            refine wpAnyH_take (i := 33) (v := ?_) (oi := ?_) ?hi_102 ?hs_102 ?hf_102 ?hr_102 ?hQ_102 ?hy_102 ?hS_102 ?h_102
            case hi_102 => (simp only [List.getElem?_toArray, List.getElem?_cons_zero, List.getElem?_cons_succ] <;> rfl)
            case hs_102 => kernel_rfl
            case hf_102 => kernel_rfl
            case hr_102 => kernel_rfl
            case hQ_102 => exact fun _ _ _ h => h
            case hy_102 => (refine Or.inl ⟨by rfl, ?_⟩; intro w hSw; (try dsimp only at hSw); go_simp; try with_reducible rfl)
            case hS_102 => assumption
            try go_frame
            refine wpAnyH_done (by kernel_rfl) ?_ _
            go_wp2_with fail
            go_roundg (os.length - (0 + 1))
            case measure => rw [Hgk.out]; omega
            case rel => exact ⟨0 + 1, rfl, by omega, by go_num, (hN.drew.trans n2).trans n3, Hst⟩
        · obtain ⟨q, hq⟩ := get_of (show j < os.length by omega)
          obtain ⟨bb', off', c'', uv', e2, -, d0, -⟩ := Hat.out wr.drew hN.drew j q hq
          simp only [Value.slice.injEq, Option.some.injEq, Addr.mk.injEq] at e2
          obtain ⟨⟨rfl, rfl, -⟩, -, rfl⟩ := e2
          unfold txt at d0
          have hprev : prevOk (prevAt os (j + 1)) o.path = sLt q.path o.path := by simp only [prevAt, hq, Option.map_some]; rfl
          rw [hprev] at Hst
          have hsub : ((j + 1 : Nat) : Int) - 1 = (j : Int) := by omega
          have hjp : ((j + 1 : Nat) : Int) > 0 := by omega
          have hjl : j < os.length := by omega
          have hj0 : (0 : Int) ≤ (j : Int) + 1 := by omega
          have hj1 : (0 : Int) < (j : Int) + 1 := by omega
          have hj2 : (j : Int) + 1 - 1 = (j : Int) := by omega
          have hj3 : IntKind.i64.wrap (j : Int) = (j : Int) := IntWalk.i64_in _ (by omega)
          clear hprev hq
          have hl1 := less_is o.path q.path
          have hl2 := less_is q.path o.path
          rcases hs : sLt q.path o.path with _ | _
          · rw [hs] at hl2
            have hf : specGo os none os = false := by rw [Hst.out, hs]; rfl
            have Hf := Lib.hid hf
            have hge : sLt o.path q.path = true ∨ q.path = o.path := by
              rcases h : sLt o.path q.path with _ | _
              · exact .inr (sLt_total hs h)
              · exact .inl rfl
            clear hf hs hhm
            rcases hge with hge | hge
            · rw [hge] at hl1
              go_wp2_with fail
              refine wp_region_held_drew (S := (fun w' => w'.cell? ⟨bb, off + (j + 1) * 3, none⟩ = some (.string ⟨o.path.toArray⟩) ∧ w'.cell? ⟨bb, off + (j + 1) * 3 + 1, none⟩ = some (.bool o.dir) ∧ w'.cell? ⟨bb, off + (j + 1) * 3 + 2, none⟩ = some uv ∧ w'.cell? ⟨bb, off + j * 3, none⟩ = some (.string ⟨q.path.toArray⟩))) (by kernel_rfl) ?_ (fun hHeld => ?_)
              · exact ⟨c0, c1, c2, d0⟩
              refine wpAnyH_take (i := 0) (v := ?_) (oi := ?_) ?hi_103 ?hs_103 ?hf_103 ?hr_103 ?hQ_103 ?hy_103 ?hS_103 ?h_103
              case hi_103 => (simp only [List.getElem?_toArray, List.getElem?_cons_zero] <;> rfl)
              case hs_103 => kernel_rfl
              case hf_103 => kernel_rfl
              case hr_103 => kernel_rfl
              case hQ_103 => exact fun _ _ _ h => h
              case hy_103 => (refine Or.inl ⟨by rfl, ?_⟩; intro w hSw; (try dsimp only at hSw); go_simp; try with_reducible rfl)
              case hS_103 => assumption
              try go_frame
              refine wpAnyH_take (i := 1) (v := ?_) (oi := ?_) ?hi_104 ?hs_104 ?hf_104 ?hr_104 ?hQ_104 ?hy_104 ?hS_104 ?h_104
              case hi_104 => (simp only [List.getElem?_toArray, List.getElem?_cons_zero, List.getElem?_cons_succ] <;> rfl)
              case hs_104 => kernel_rfl
              case hf_104 => kernel_rfl
              case hr_104 => kernel_rfl
              case hQ_104 => exact fun _ _ _ h => h
              case hy_104 => (refine Or.inl ⟨by rfl, ?_⟩; intro w hSw; (try dsimp only at hSw); go_simp; try with_reducible rfl)
              case hS_104 => assumption
              try go_frame
              refine wpAnyH_take (i := 2) (v := ?_) (oi := ?_) ?hi_105 ?hs_105 ?hf_105 ?hr_105 ?hQ_105 ?hy_105 ?hS_105 ?h_105
              case hi_105 => (simp only [List.getElem?_toArray, List.getElem?_cons_zero, List.getElem?_cons_succ] <;> rfl)
              case hs_105 => kernel_rfl
              case hf_105 => kernel_rfl
              case hr_105 => kernel_rfl
              case hQ_105 => exact fun _ _ _ h => h
              case hy_105 => (refine Or.inl ⟨by rfl, ?_⟩; intro w hSw; (try dsimp only at hSw); go_simp; try with_reducible rfl)
              case hS_105 => assumption
              try go_frame
              refine wpAnyH_take (i := 3) (v := ?_) (oi := ?_) ?hi_106 ?hs_106 ?hf_106 ?hr_106 ?hQ_106 ?hy_106 ?hS_106 ?h_106
              case hi_106 => (simp only [List.getElem?_toArray, List.getElem?_cons_zero, List.getElem?_cons_succ] <;> rfl)
              case hs_106 => kernel_rfl
              case hf_106 => kernel_rfl
              case hr_106 => kernel_rfl
              case hQ_106 => exact fun _ _ _ h => h
              case hy_106 => (refine Or.inl ⟨by rfl, ?_⟩; intro w hSw; (try dsimp only at hSw); go_simp; try with_reducible rfl)
              case hS_106 => assumption
              try go_frame
              refine wpAnyH_ready (rs := [4]) (by kernel_rfl) (by simp) ?_
              refine AllReadyH.cons (o := ?_) ?hi_107 (fun K hK => ?h_107) AllReadyH.nil
              case hi_107 => (simp only [List.getElem?_toArray, List.getElem?_cons_zero, List.getElem?_cons_succ] <;> rfl)
              go_simp
              (refine (Hiv.out _ (New.refl _)).mono ?_; rintro e w2 ⟨rfl, n2⟩; go_wp2_with fail)
              refine hK.out _ _ ?_ (fun hHeld => ?_)
              · exact ⟨n2.cell c0, n2.cell c1, n2.cell c2, n2.cell d0⟩
              clear hK K
              try go_frame
              refine wpAnyH_take (i := 5) (v := ?_) (oi := ?_) ?hi_108 ?hs_108 ?hf_108 ?hr_108 ?hQ_108 ?hy_108 ?hS_108 ?h_108
              case hi_108 => (simp only [List.getElem?_toArray, List.getElem?_cons_zero, List.getElem?_cons_succ] <;> rfl)
              case hs_108 => kernel_rfl
              case hf_108 => kernel_rfl
              case hr_108 => kernel_rfl
              case hQ_108 => exact fun _ _ _ h => h
              case hy_108 => (refine Or.inl ⟨by rfl, ?_⟩; intro w hSw; (try dsimp only at hSw); go_simp; try with_reducible rfl)
              case hS_108 => assumption
              try go_frame
              refine wpAnyH_take (i := 6) (v := ?_) (oi := ?_) ?hi_109 ?hs_109 ?hf_109 ?hr_109 ?hQ_109 ?hy_109 ?hS_109 ?h_109
              case hi_109 => (simp only [List.getElem?_toArray, List.getElem?_cons_zero, List.getElem?_cons_succ] <;> rfl)
              case hs_109 => kernel_rfl
              case hf_109 => kernel_rfl
              case hr_109 => kernel_rfl
              case hQ_109 => exact fun _ _ _ h => h
              case hy_109 => (refine Or.inl ⟨by rfl, ?_⟩; intro w hSw; (try dsimp only at hSw); go_simp; try with_reducible rfl)
              case hS_109 => assumption
              try go_frame
              refine wpAnyH_take (i := 7) (v := ?_) (oi := ?_) ?hi_110 ?hs_110 ?hf_110 ?hr_110 ?hQ_110 ?hy_110 ?hS_110 ?h_110
              case hi_110 => (simp only [List.getElem?_toArray, List.getElem?_cons_zero, List.getElem?_cons_succ] <;> rfl)
              case hs_110 => kernel_rfl
              case hf_110 => kernel_rfl
              case hr_110 => kernel_rfl
              case hQ_110 => exact fun _ _ _ h => h
              case hy_110 => (refine Or.inl ⟨by rfl, ?_⟩; intro w hSw; (try dsimp only at hSw); go_simp; try with_reducible rfl)
              case hS_110 => assumption
              try go_frame
              refine wpAnyH_take (i := 8) (v := ?_) (oi := ?_) ?hi_111 ?hs_111 ?hf_111 ?hr_111 ?hQ_111 ?hy_111 ?hS_111 ?h_111
              case hi_111 => (simp only [List.getElem?_toArray, List.getElem?_cons_zero, List.getElem?_cons_succ] <;> rfl)
              case hs_111 => kernel_rfl
              case hf_111 => kernel_rfl
              case hr_111 => kernel_rfl
              case hQ_111 => exact fun _ _ _ h => h
              case hy_111 => (refine Or.inl ⟨by rfl, ?_⟩; intro w hSw; (try dsimp only at hSw); go_simp; try with_reducible rfl)
              case hS_111 => assumption
              try go_frame
              refine wpAnyH_take (i := 9) (v := ?_) (oi := ?_) ?hi_112 ?hs_112 ?hf_112 ?hr_112 ?hQ_112 ?hy_112 ?hS_112 ?h_112
              case hi_112 => (simp only [List.getElem?_toArray, List.getElem?_cons_zero, List.getElem?_cons_succ] <;> rfl)
              case hs_112 => kernel_rfl
              case hf_112 => kernel_rfl
              case hr_112 => kernel_rfl
              case hQ_112 => exact fun _ _ _ h => h
              case hy_112 => (refine Or.inl ⟨by rfl, ?_⟩; intro w hSw; (try dsimp only at hSw); go_simp; try with_reducible rfl)
              case hS_112 => assumption
              try go_frame
              refine wpAnyH_take (i := 10) (v := ?_) (oi := ?_) ?hi_113 ?hs_113 ?hf_113 ?hr_113 ?hQ_113 ?hy_113 ?hS_113 ?h_113
              case hi_113 => (simp only [List.getElem?_toArray, List.getElem?_cons_zero, List.getElem?_cons_succ] <;> rfl)
              case hs_113 => kernel_rfl
              case hf_113 => kernel_rfl
              case hr_113 => kernel_rfl
              case hQ_113 => exact fun _ _ _ h => h
              case hy_113 => (refine Or.inl ⟨by rfl, ?_⟩; intro w hSw; (try dsimp only at hSw); go_simp; try with_reducible rfl)
              case hS_113 => assumption
              try go_frame
              refine wpAnyH_take (i := 11) (v := ?_) (oi := ?_) ?hi_114 ?hs_114 ?hf_114 ?hr_114 ?hQ_114 ?hy_114 ?hS_114 ?h_114
              case hi_114 => (simp only [List.getElem?_toArray, List.getElem?_cons_zero, List.getElem?_cons_succ] <;> rfl)
              case hs_114 => kernel_rfl
              case hf_114 => kernel_rfl
              case hr_114 => kernel_rfl
              case hQ_114 => exact fun _ _ _ h => h
              case hy_114 => (refine Or.inl ⟨by rfl, ?_⟩; intro w hSw; (try dsimp only at hSw); go_simp; try with_reducible rfl)
              case hS_114 => assumption
              try go_frame
              refine wpAnyH_take (i := 12) (v := ?_) (oi := ?_) ?hi_115 ?hs_115 ?hf_115 ?hr_115 ?hQ_115 ?hy_115 ?hS_115 ?h_115
              case hi_115 => (simp only [List.getElem?_toArray, List.getElem?_cons_zero, List.getElem?_cons_succ] <;> rfl)
              case hs_115 => kernel_rfl
              case hf_115 => kernel_rfl
              case hr_115 => kernel_rfl
              case hQ_115 => exact fun _ _ _ h => h
              case hy_115 => (refine Or.inl ⟨by rfl, ?_⟩; intro w hSw; (try dsimp only at hSw); go_simp; try with_reducible rfl)
              case hS_115 => assumption
              try go_frame
              refine wpAnyH_take (i := 13) (v := ?_) (oi := ?_) ?hi_116 ?hs_116 ?hf_116 ?hr_116 ?hQ_116 ?hy_116 ?hS_116 ?h_116
              case hi_116 => (simp only [List.getElem?_toArray, List.getElem?_cons_zero, List.getElem?_cons_succ] <;> rfl)
              case hs_116 => kernel_rfl
              case hf_116 => kernel_rfl
              case hr_116 => kernel_rfl
              case hQ_116 => exact fun _ _ _ h => h
              case hy_116 => (refine Or.inl ⟨by rfl, ?_⟩; intro w hSw; (try dsimp only at hSw); go_simp; try with_reducible rfl)
              case hS_116 => assumption
              try go_frame
              refine wpAnyH_take (i := 14) (v := ?_) (oi := ?_) ?hi_117 ?hs_117 ?hf_117 ?hr_117 ?hQ_117 ?hy_117 ?hS_117 ?h_117
              case hi_117 => (simp only [List.getElem?_toArray, List.getElem?_cons_zero, List.getElem?_cons_succ] <;> rfl)
              case hs_117 => kernel_rfl
              case hf_117 => kernel_rfl
              case hr_117 => kernel_rfl
              case hQ_117 => exact fun _ _ _ h => h
              case hy_117 => (refine Or.inl ⟨by rfl, ?_⟩; intro w hSw; (try dsimp only at hSw); go_simp; try with_reducible rfl)
              case hS_117 => assumption
              try go_frame
              refine wpAnyH_take (i := 15) (v := ?_) (oi := ?_) ?hi_118 ?hs_118 ?hf_118 ?hr_118 ?hQ_118 ?hy_118 ?hS_118 ?h_118
              case hi_118 => (simp only [List.getElem?_toArray, List.getElem?_cons_zero, List.getElem?_cons_succ] <;> rfl)
              case hs_118 => kernel_rfl
              case hf_118 => kernel_rfl
              case hr_118 => kernel_rfl
              case hQ_118 => exact fun _ _ _ h => h
              case hy_118 => (refine Or.inl ⟨by rfl, ?_⟩; intro w hSw; (try dsimp only at hSw); go_simp; try with_reducible rfl)
              case hS_118 => assumption
              try go_frame
              refine wpAnyH_take (i := 16) (v := ?_) (oi := ?_) ?hi_119 ?hs_119 ?hf_119 ?hr_119 ?hQ_119 ?hy_119 ?hS_119 ?h_119
              case hi_119 => (simp only [List.getElem?_toArray, List.getElem?_cons_zero, List.getElem?_cons_succ] <;> rfl)
              case hs_119 => kernel_rfl
              case hf_119 => kernel_rfl
              case hr_119 => kernel_rfl
              case hQ_119 => exact fun _ _ _ h => h
              case hy_119 => (refine Or.inl ⟨by rfl, ?_⟩; intro w hSw; (try dsimp only at hSw); go_simp; try with_reducible rfl)
              case hS_119 => assumption
              try go_frame
              refine wpAnyH_take (i := 17) (v := ?_) (oi := ?_) ?hi_120 ?hs_120 ?hf_120 ?hr_120 ?hQ_120 ?hy_120 ?hS_120 ?h_120
              case hi_120 => (simp only [List.getElem?_toArray, List.getElem?_cons_zero, List.getElem?_cons_succ] <;> rfl)
              case hs_120 => kernel_rfl
              case hf_120 => kernel_rfl
              case hr_120 => kernel_rfl
              case hQ_120 => exact fun _ _ _ h => h
              case hy_120 => (refine Or.inl ⟨by rfl, ?_⟩; intro w hSw; (try dsimp only at hSw); go_simp; try with_reducible rfl)
              case hS_120 => assumption
              try go_frame
              refine wpAnyH_take (i := 18) (v := ?_) (oi := ?_) ?hi_121 ?hs_121 ?hf_121 ?hr_121 ?hQ_121 ?hy_121 ?hS_121 ?h_121
              case hi_121 => (simp only [List.getElem?_toArray, List.getElem?_cons_zero, List.getElem?_cons_succ] <;> rfl)
              case hs_121 => kernel_rfl
              case hf_121 => kernel_rfl
              case hr_121 => kernel_rfl
              case hQ_121 => exact fun _ _ _ h => h
              case hy_121 => (refine Or.inl ⟨by rfl, ?_⟩; intro w hSw; (try dsimp only at hSw); go_simp; try with_reducible rfl)
              case hS_121 => assumption
              try go_frame
              refine wpAnyH_take (i := 19) (v := ?_) (oi := ?_) ?hi_122 ?hs_122 ?hf_122 ?hr_122 ?hQ_122 ?hy_122 ?hS_122 ?h_122
              case hi_122 => (simp only [List.getElem?_toArray, List.getElem?_cons_zero, List.getElem?_cons_succ] <;> rfl)
              case hs_122 => kernel_rfl
              case hf_122 => kernel_rfl
              case hr_122 => kernel_rfl
              case hQ_122 => exact fun _ _ _ h => h
              case hy_122 => (refine Or.inl ⟨by rfl, ?_⟩; intro w hSw; (try dsimp only at hSw); go_simp; try with_reducible rfl)
              case hS_122 => assumption
              try go_frame
              refine wpAnyH_take (i := 20) (v := ?_) (oi := ?_) ?hi_123 ?hs_123 ?hf_123 ?hr_123 ?hQ_123 ?hy_123 ?hS_123 ?h_123
              case hi_123 => (simp only [List.getElem?_toArray, List.getElem?_cons_zero, List.getElem?_cons_succ] <;> rfl)
              case hs_123 => kernel_rfl
              case hf_123 => kernel_rfl
              case hr_123 => kernel_rfl
              case hQ_123 => exact fun _ _ _ h => h
              case hy_123 => (refine Or.inl ⟨by rfl, ?_⟩; intro w hSw; (try dsimp only at hSw); go_simp; try with_reducible rfl)
              case hS_123 => assumption
              try go_frame
              refine wpAnyH_take (i := 21) (v := ?_) (oi := ?_) ?hi_124 ?hs_124 ?hf_124 ?hr_124 ?hQ_124 ?hy_124 ?hS_124 ?h_124
              case hi_124 => (simp only [List.getElem?_toArray, List.getElem?_cons_zero, List.getElem?_cons_succ] <;> rfl)
              case hs_124 => kernel_rfl
              case hf_124 => kernel_rfl
              case hr_124 => kernel_rfl
              case hQ_124 => exact fun _ _ _ h => h
              case hy_124 => (refine Or.inl ⟨by rfl, ?_⟩; intro w hSw; (try dsimp only at hSw); go_simp; try with_reducible rfl)
              case hS_124 => assumption
              try go_frame
              refine wpAnyH_take (i := 22) (v := ?_) (oi := ?_) ?hi_125 ?hs_125 ?hf_125 ?hr_125 ?hQ_125 ?hy_125 ?hS_125 ?h_125
              case hi_125 => (simp only [List.getElem?_toArray, List.getElem?_cons_zero, List.getElem?_cons_succ] <;> rfl)
              case hs_125 => kernel_rfl
              case hf_125 => kernel_rfl
              case hr_125 => kernel_rfl
              case hQ_125 => exact fun _ _ _ h => h
              case hy_125 => (refine Or.inl ⟨by rfl, ?_⟩; intro w hSw; (try dsimp only at hSw); go_simp; try with_reducible rfl)
              case hS_125 => assumption
              try go_frame
              refine wpAnyH_take (i := 23) (v := ?_) (oi := ?_) ?hi_126 ?hs_126 ?hf_126 ?hr_126 ?hQ_126 ?hy_126 ?hS_126 ?h_126
              case hi_126 => (simp only [List.getElem?_toArray, List.getElem?_cons_zero, List.getElem?_cons_succ] <;> rfl)
              case hs_126 => kernel_rfl
              case hf_126 => kernel_rfl
              case hr_126 => kernel_rfl
              case hQ_126 => exact fun _ _ _ h => h
              case hy_126 => (refine Or.inl ⟨by rfl, ?_⟩; intro w hSw; (try dsimp only at hSw); go_simp; try with_reducible rfl)
              case hS_126 => assumption
              try go_frame
              refine wpAnyH_take (i := 24) (v := ?_) (oi := ?_) ?hi_127 ?hs_127 ?hf_127 ?hr_127 ?hQ_127 ?hy_127 ?hS_127 ?h_127
              case hi_127 => (simp only [List.getElem?_toArray, List.getElem?_cons_zero, List.getElem?_cons_succ] <;> rfl)
              case hs_127 => kernel_rfl
              case hf_127 => kernel_rfl
              case hr_127 => kernel_rfl
              case hQ_127 => exact fun _ _ _ h => h
              case hy_127 => (refine Or.inl ⟨by rfl, ?_⟩; intro w hSw; (try dsimp only at hSw); go_simp; try with_reducible rfl)
              case hS_127 => assumption
              try go_frame
              refine wpAnyH_take (i := 25) (v := undef) (oi := ?_) ?hi_128 ?hs_128 ?hf_128 ?hr_128 ?hQ_128 ?hy_128 ?hS_128 ?h_128
              case hi_128 => (simp only [List.getElem?_toArray, List.getElem?_cons_zero, List.getElem?_cons_succ] <;> rfl)
              case hs_128 => kernel_rfl
              case hf_128 => kernel_rfl
              case hr_128 => kernel_rfl
              case hQ_128 => exact fun _ _ _ h => h
              case hy_128 => exact Or.inr ⟨by rfl, rfl⟩
              case hS_128 => assumption
              try go_frame
              refine wpAnyH_take (i := 26) (v := undef) (oi := ?_) ?hi_129 ?hs_129 ?hf_129 ?hr_129 ?hQ_129 ?hy_129 ?hS_129 ?h_129
              case hi_129 => (simp only [List.getElem?_toArray, List.getElem?_cons_zero, List.getElem?_cons_succ] <;> rfl)
              case hs_129 => kernel_rfl
              case hf_129 => kernel_rfl
              case hr_129 => kernel_rfl
              case hQ_129 => exact fun _ _ _ h => h
              case hy_129 => exact Or.inr ⟨by rfl, rfl⟩
              case hS_129 => assumption
              try go_frame
              refine wpAnyH_take (i := 27) (v := undef) (oi := ?_) ?hi_130 ?hs_130 ?hf_130 ?hr_130 ?hQ_130 ?hy_130 ?hS_130 ?h_130
              case hi_130 => (simp only [List.getElem?_toArray, List.getElem?_cons_zero, List.getElem?_cons_succ] <;> rfl)
              case hs_130 => kernel_rfl
              case hf_130 => kernel_rfl
              case hr_130 => kernel_rfl
              case hQ_130 => exact fun _ _ _ h => h
              case hy_130 => exact Or.inr ⟨by rfl, rfl⟩
              case hS_130 => assumption
              try go_frame
              refine wpAnyH_take (i := 28) (v := undef) (oi := ?_) ?hi_131 ?hs_131 ?hf_131 ?hr_131 ?hQ_131 ?hy_131 ?hS_131 ?h_131
              case hi_131 => (simp only [List.getElem?_toArray, List.getElem?_cons_zero, List.getElem?_cons_succ] <;> rfl)
              case hs_131 => kernel_rfl
              case hf_131 => kernel_rfl
              case hr_131 => kernel_rfl
              case hQ_131 => exact fun _ _ _ h => h
              case hy_131 => exact Or.inr ⟨by rfl, rfl⟩
              case hS_131 => assumption
              try go_frame
              refine wpAnyH_take (i := 29) (v := undef) (oi := ?_) ?hi_132 ?hs_132 ?hf_132 ?hr_132 ?hQ_132 ?hy_132 ?hS_132 ?h_132
              case hi_132 => (simp only [List.getElem?_toArray, List.getElem?_cons_zero, List.getElem?_cons_succ] <;> rfl)
              case hs_132 => kernel_rfl
              case hf_132 => kernel_rfl
              case hr_132 => kernel_rfl
              case hQ_132 => exact fun _ _ _ h => h
              case hy_132 => exact Or.inr ⟨by rfl, rfl⟩
              case hS_132 => assumption
              try go_frame
              refine wpAnyH_take (i := 30) (v := undef) (oi := ?_) ?hi_133 ?hs_133 ?hf_133 ?hr_133 ?hQ_133 ?hy_133 ?hS_133 ?h_133
              case hi_133 => (simp only [List.getElem?_toArray, List.getElem?_cons_zero, List.getElem?_cons_succ] <;> rfl)
              case hs_133 => kernel_rfl
              case hf_133 => kernel_rfl
              case hr_133 => kernel_rfl
              case hQ_133 => exact fun _ _ _ h => h
              case hy_133 => exact Or.inr ⟨by rfl, rfl⟩
              case hS_133 => assumption
              try go_frame
              refine wpAnyH_ready (rs := [31]) (by kernel_rfl) (by simp) ?_
              refine AllReadyH.cons (o := ?_) ?hi_134 (fun K hK => ?h_134) AllReadyH.nil
              case hi_134 => (simp only [List.getElem?_toArray, List.getElem?_cons_zero, List.getElem?_cons_succ] <;> rfl)
              go_simp
              refine hK.out _ _ ?_ (fun hHeld => ?_)
              · exact ⟨n2.cell c0, n2.cell c1, n2.cell c2, n2.cell d0⟩
              clear hK K
              try go_frame
              refine wpAnyH_take (i := 32) (v := undef) (oi := ?_) ?hi_135 ?hs_135 ?hf_135 ?hr_135 ?hQ_135 ?hy_135 ?hS_135 ?h_135
              case hi_135 => (simp only [List.getElem?_toArray, List.getElem?_cons_zero, List.getElem?_cons_succ] <;> rfl)
              case hs_135 => kernel_rfl
              case hf_135 => kernel_rfl
              case hr_135 => kernel_rfl
              case hQ_135 => exact fun _ _ _ h => h
              case hy_135 => exact Or.inr ⟨by rfl, rfl⟩
              case hS_135 => assumption
              try go_frame
              refine wpAnyH_take (i := 33) (v := ?_) (oi := ?_) ?hi_136 ?hs_136 ?hf_136 ?hr_136 ?hQ_136 ?hy_136 ?hS_136 ?h_136
              case hi_136 => (simp only [List.getElem?_toArray, List.getElem?_cons_zero, List.getElem?_cons_succ] <;> rfl)
              case hs_136 => kernel_rfl
              case hf_136 => kernel_rfl
              case hr_136 => kernel_rfl
              case hQ_136 => exact fun _ _ _ h => h
              case hy_136 => (refine Or.inl ⟨by rfl, ?_⟩; intro w hSw; (try dsimp only at hSw); go_simp; try with_reducible rfl)
              case hS_136 => assumption
              try go_frame
              refine wpAnyH_done (by kernel_rfl) ?_ _
              go_wp2_with fail
              go_ret
              exact ⟨by rw [specInv_bad Hf.out]; rfl, hN.drew.trans n2⟩
            · have heq : (q.path == o.path) = true := by simp [hge]
              clear hge hl1
              go_wp2_with fail
              refine wp_region_held_drew (S := (fun w' => w'.cell? ⟨bb, off + (j + 1) * 3, none⟩ = some (.string ⟨o.path.toArray⟩) ∧ w'.cell? ⟨bb, off + (j + 1) * 3 + 1, none⟩ = some (.bool o.dir) ∧ w'.cell? ⟨bb, off + (j + 1) * 3 + 2, none⟩ = some uv ∧ w'.cell? ⟨bb, off + j * 3, none⟩ = some (.string ⟨q.path.toArray⟩))) (by kernel_rfl) ?_ (fun hHeld => ?_)
              · exact ⟨c0, c1, c2, d0⟩
              refine wpAnyH_take (i := 0) (v := ?_) (oi := ?_) ?hi_137 ?hs_137 ?hf_137 ?hr_137 ?hQ_137 ?hy_137 ?hS_137 ?h_137
              case hi_137 => (simp only [List.getElem?_toArray, List.getElem?_cons_zero] <;> rfl)
              case hs_137 => kernel_rfl
              case hf_137 => kernel_rfl
              case hr_137 => kernel_rfl
              case hQ_137 => exact fun _ _ _ h => h
              case hy_137 => (refine Or.inl ⟨by rfl, ?_⟩; intro w hSw; (try dsimp only at hSw); go_simp; try with_reducible rfl)
              case hS_137 => assumption
              try go_frame
              refine wpAnyH_take (i := 1) (v := ?_) (oi := ?_) ?hi_138 ?hs_138 ?hf_138 ?hr_138 ?hQ_138 ?hy_138 ?hS_138 ?h_138
              case hi_138 => (simp only [List.getElem?_toArray, List.getElem?_cons_zero, List.getElem?_cons_succ] <;> rfl)
              case hs_138 => kernel_rfl
              case hf_138 => kernel_rfl
              case hr_138 => kernel_rfl
              case hQ_138 => exact fun _ _ _ h => h
              case hy_138 => (refine Or.inl ⟨by rfl, ?_⟩; intro w hSw; (try dsimp only at hSw); go_simp; try with_reducible rfl)
              case hS_138 => assumption
              try go_frame
              refine wpAnyH_take (i := 2) (v := ?_) (oi := ?_) ?hi_139 ?hs_139 ?hf_139 ?hr_139 ?hQ_139 ?hy_139 ?hS_139 ?h_139
              case hi_139 => (simp only [List.getElem?_toArray, List.getElem?_cons_zero, List.getElem?_cons_succ] <;> rfl)
              case hs_139 => kernel_rfl
              case hf_139 => kernel_rfl
              case hr_139 => kernel_rfl
              case hQ_139 => exact fun _ _ _ h => h
              case hy_139 => (refine Or.inl ⟨by rfl, ?_⟩; intro w hSw; (try dsimp only at hSw); go_simp; try with_reducible rfl)
              case hS_139 => assumption
              try go_frame
              refine wpAnyH_take (i := 3) (v := ?_) (oi := ?_) ?hi_140 ?hs_140 ?hf_140 ?hr_140 ?hQ_140 ?hy_140 ?hS_140 ?h_140
              case hi_140 => (simp only [List.getElem?_toArray, List.getElem?_cons_zero, List.getElem?_cons_succ] <;> rfl)
              case hs_140 => kernel_rfl
              case hf_140 => kernel_rfl
              case hr_140 => kernel_rfl
              case hQ_140 => exact fun _ _ _ h => h
              case hy_140 => (refine Or.inl ⟨by rfl, ?_⟩; intro w hSw; (try dsimp only at hSw); go_simp; try with_reducible rfl)
              case hS_140 => assumption
              try go_frame
              refine wpAnyH_ready (rs := [4]) (by kernel_rfl) (by simp) ?_
              refine AllReadyH.cons (o := ?_) ?hi_141 (fun K hK => ?h_141) AllReadyH.nil
              case hi_141 => (simp only [List.getElem?_toArray, List.getElem?_cons_zero, List.getElem?_cons_succ] <;> rfl)
              go_simp
              (refine (Hiv.out _ (New.refl _)).mono ?_; rintro e w2 ⟨rfl, n2⟩; go_wp2_with fail)
              refine hK.out _ _ ?_ (fun hHeld => ?_)
              · exact ⟨n2.cell c0, n2.cell c1, n2.cell c2, n2.cell d0⟩
              clear hK K
              try go_frame
              refine wpAnyH_take (i := 5) (v := ?_) (oi := ?_) ?hi_142 ?hs_142 ?hf_142 ?hr_142 ?hQ_142 ?hy_142 ?hS_142 ?h_142
              case hi_142 => (simp only [List.getElem?_toArray, List.getElem?_cons_zero, List.getElem?_cons_succ] <;> rfl)
              case hs_142 => kernel_rfl
              case hf_142 => kernel_rfl
              case hr_142 => kernel_rfl
              case hQ_142 => exact fun _ _ _ h => h
              case hy_142 => (refine Or.inl ⟨by rfl, ?_⟩; intro w hSw; (try dsimp only at hSw); go_simp; try with_reducible rfl)
              case hS_142 => assumption
              try go_frame
              refine wpAnyH_take (i := 6) (v := ?_) (oi := ?_) ?hi_143 ?hs_143 ?hf_143 ?hr_143 ?hQ_143 ?hy_143 ?hS_143 ?h_143
              case hi_143 => (simp only [List.getElem?_toArray, List.getElem?_cons_zero, List.getElem?_cons_succ] <;> rfl)
              case hs_143 => kernel_rfl
              case hf_143 => kernel_rfl
              case hr_143 => kernel_rfl
              case hQ_143 => exact fun _ _ _ h => h
              case hy_143 => (refine Or.inl ⟨by rfl, ?_⟩; intro w hSw; (try dsimp only at hSw); go_simp; try with_reducible rfl)
              case hS_143 => assumption
              try go_frame
              refine wpAnyH_take (i := 7) (v := ?_) (oi := ?_) ?hi_144 ?hs_144 ?hf_144 ?hr_144 ?hQ_144 ?hy_144 ?hS_144 ?h_144
              case hi_144 => (simp only [List.getElem?_toArray, List.getElem?_cons_zero, List.getElem?_cons_succ] <;> rfl)
              case hs_144 => kernel_rfl
              case hf_144 => kernel_rfl
              case hr_144 => kernel_rfl
              case hQ_144 => exact fun _ _ _ h => h
              case hy_144 => (refine Or.inl ⟨by rfl, ?_⟩; intro w hSw; (try dsimp only at hSw); go_simp; try with_reducible rfl)
              case hS_144 => assumption
              try go_frame
              refine wpAnyH_take (i := 8) (v := ?_) (oi := ?_) ?hi_145 ?hs_145 ?hf_145 ?hr_145 ?hQ_145 ?hy_145 ?hS_145 ?h_145
              case hi_145 => (simp only [List.getElem?_toArray, List.getElem?_cons_zero, List.getElem?_cons_succ] <;> rfl)
              case hs_145 => kernel_rfl
              case hf_145 => kernel_rfl
              case hr_145 => kernel_rfl
              case hQ_145 => exact fun _ _ _ h => h
              case hy_145 => (refine Or.inl ⟨by rfl, ?_⟩; intro w hSw; (try dsimp only at hSw); go_simp; try with_reducible rfl)
              case hS_145 => assumption
              try go_frame
              refine wpAnyH_take (i := 9) (v := ?_) (oi := ?_) ?hi_146 ?hs_146 ?hf_146 ?hr_146 ?hQ_146 ?hy_146 ?hS_146 ?h_146
              case hi_146 => (simp only [List.getElem?_toArray, List.getElem?_cons_zero, List.getElem?_cons_succ] <;> rfl)
              case hs_146 => kernel_rfl
              case hf_146 => kernel_rfl
              case hr_146 => kernel_rfl
              case hQ_146 => exact fun _ _ _ h => h
              case hy_146 => (refine Or.inl ⟨by rfl, ?_⟩; intro w hSw; (try dsimp only at hSw); go_simp; try with_reducible rfl)
              case hS_146 => assumption
              try go_frame
              refine wpAnyH_take (i := 10) (v := ?_) (oi := ?_) ?hi_147 ?hs_147 ?hf_147 ?hr_147 ?hQ_147 ?hy_147 ?hS_147 ?h_147
              case hi_147 => (simp only [List.getElem?_toArray, List.getElem?_cons_zero, List.getElem?_cons_succ] <;> rfl)
              case hs_147 => kernel_rfl
              case hf_147 => kernel_rfl
              case hr_147 => kernel_rfl
              case hQ_147 => exact fun _ _ _ h => h
              case hy_147 => (refine Or.inl ⟨by rfl, ?_⟩; intro w hSw; (try dsimp only at hSw); go_simp; try with_reducible rfl)
              case hS_147 => assumption
              try go_frame
              refine wpAnyH_take (i := 11) (v := ?_) (oi := ?_) ?hi_148 ?hs_148 ?hf_148 ?hr_148 ?hQ_148 ?hy_148 ?hS_148 ?h_148
              case hi_148 => (simp only [List.getElem?_toArray, List.getElem?_cons_zero, List.getElem?_cons_succ] <;> rfl)
              case hs_148 => kernel_rfl
              case hf_148 => kernel_rfl
              case hr_148 => kernel_rfl
              case hQ_148 => exact fun _ _ _ h => h
              case hy_148 => (refine Or.inl ⟨by rfl, ?_⟩; intro w hSw; (try dsimp only at hSw); go_simp; try with_reducible rfl)
              case hS_148 => assumption
              try go_frame
              refine wpAnyH_take (i := 12) (v := ?_) (oi := ?_) ?hi_149 ?hs_149 ?hf_149 ?hr_149 ?hQ_149 ?hy_149 ?hS_149 ?h_149
              case hi_149 => (simp only [List.getElem?_toArray, List.getElem?_cons_zero, List.getElem?_cons_succ] <;> rfl)
              case hs_149 => kernel_rfl
              case hf_149 => kernel_rfl
              case hr_149 => kernel_rfl
              case hQ_149 => exact fun _ _ _ h => h
              case hy_149 => (refine Or.inl ⟨by rfl, ?_⟩; intro w hSw; (try dsimp only at hSw); go_simp; try with_reducible rfl)
              case hS_149 => assumption
              try go_frame
              refine wpAnyH_take (i := 13) (v := ?_) (oi := ?_) ?hi_150 ?hs_150 ?hf_150 ?hr_150 ?hQ_150 ?hy_150 ?hS_150 ?h_150
              case hi_150 => (simp only [List.getElem?_toArray, List.getElem?_cons_zero, List.getElem?_cons_succ] <;> rfl)
              case hs_150 => kernel_rfl
              case hf_150 => kernel_rfl
              case hr_150 => kernel_rfl
              case hQ_150 => exact fun _ _ _ h => h
              case hy_150 => (refine Or.inl ⟨by rfl, ?_⟩; intro w hSw; (try dsimp only at hSw); go_simp; try with_reducible rfl)
              case hS_150 => assumption
              try go_frame
              refine wpAnyH_take (i := 14) (v := ?_) (oi := ?_) ?hi_151 ?hs_151 ?hf_151 ?hr_151 ?hQ_151 ?hy_151 ?hS_151 ?h_151
              case hi_151 => (simp only [List.getElem?_toArray, List.getElem?_cons_zero, List.getElem?_cons_succ] <;> rfl)
              case hs_151 => kernel_rfl
              case hf_151 => kernel_rfl
              case hr_151 => kernel_rfl
              case hQ_151 => exact fun _ _ _ h => h
              case hy_151 => (refine Or.inl ⟨by rfl, ?_⟩; intro w hSw; (try dsimp only at hSw); go_simp; try with_reducible rfl)
              case hS_151 => assumption
              try go_frame
              refine wpAnyH_take (i := 15) (v := ?_) (oi := ?_) ?hi_152 ?hs_152 ?hf_152 ?hr_152 ?hQ_152 ?hy_152 ?hS_152 ?h_152
              case hi_152 => (simp only [List.getElem?_toArray, List.getElem?_cons_zero, List.getElem?_cons_succ] <;> rfl)
              case hs_152 => kernel_rfl
              case hf_152 => kernel_rfl
              case hr_152 => kernel_rfl
              case hQ_152 => exact fun _ _ _ h => h
              case hy_152 => (refine Or.inl ⟨by rfl, ?_⟩; intro w hSw; (try dsimp only at hSw); go_simp; try with_reducible rfl)
              case hS_152 => assumption
              try go_frame
              refine wpAnyH_take (i := 16) (v := ?_) (oi := ?_) ?hi_153 ?hs_153 ?hf_153 ?hr_153 ?hQ_153 ?hy_153 ?hS_153 ?h_153
              case hi_153 => (simp only [List.getElem?_toArray, List.getElem?_cons_zero, List.getElem?_cons_succ] <;> rfl)
              case hs_153 => kernel_rfl
              case hf_153 => kernel_rfl
              case hr_153 => kernel_rfl
              case hQ_153 => exact fun _ _ _ h => h
              case hy_153 => (refine Or.inl ⟨by rfl, ?_⟩; intro w hSw; (try dsimp only at hSw); go_simp; try with_reducible rfl)
              case hS_153 => assumption
              try go_frame
              refine wpAnyH_take (i := 17) (v := ?_) (oi := ?_) ?hi_154 ?hs_154 ?hf_154 ?hr_154 ?hQ_154 ?hy_154 ?hS_154 ?h_154
              case hi_154 => (simp only [List.getElem?_toArray, List.getElem?_cons_zero, List.getElem?_cons_succ] <;> rfl)
              case hs_154 => kernel_rfl
              case hf_154 => kernel_rfl
              case hr_154 => kernel_rfl
              case hQ_154 => exact fun _ _ _ h => h
              case hy_154 => (refine Or.inl ⟨by rfl, ?_⟩; intro w hSw; (try dsimp only at hSw); go_simp; try with_reducible rfl)
              case hS_154 => assumption
              try go_frame
              refine wpAnyH_take (i := 18) (v := ?_) (oi := ?_) ?hi_155 ?hs_155 ?hf_155 ?hr_155 ?hQ_155 ?hy_155 ?hS_155 ?h_155
              case hi_155 => (simp only [List.getElem?_toArray, List.getElem?_cons_zero, List.getElem?_cons_succ] <;> rfl)
              case hs_155 => kernel_rfl
              case hf_155 => kernel_rfl
              case hr_155 => kernel_rfl
              case hQ_155 => exact fun _ _ _ h => h
              case hy_155 => (refine Or.inl ⟨by rfl, ?_⟩; intro w hSw; (try dsimp only at hSw); go_simp; try with_reducible rfl)
              case hS_155 => assumption
              try go_frame
              refine wpAnyH_take (i := 19) (v := ?_) (oi := ?_) ?hi_156 ?hs_156 ?hf_156 ?hr_156 ?hQ_156 ?hy_156 ?hS_156 ?h_156
              case hi_156 => (simp only [List.getElem?_toArray, List.getElem?_cons_zero, List.getElem?_cons_succ] <;> rfl)
              case hs_156 => kernel_rfl
              case hf_156 => kernel_rfl
              case hr_156 => kernel_rfl
              case hQ_156 => exact fun _ _ _ h => h
              case hy_156 => (refine Or.inl ⟨by rfl, ?_⟩; intro w hSw; (try dsimp only at hSw); go_simp; try with_reducible rfl)
              case hS_156 => assumption
              try go_frame
              refine wpAnyH_take (i := 20) (v := ?_) (oi := ?_) ?hi_157 ?hs_157 ?hf_157 ?hr_157 ?hQ_157 ?hy_157 ?hS_157 ?h_157
              case hi_157 => (simp only [List.getElem?_toArray, List.getElem?_cons_zero, List.getElem?_cons_succ] <;> rfl)
              case hs_157 => kernel_rfl
              case hf_157 => kernel_rfl
              case hr_157 => kernel_rfl
              case hQ_157 => exact fun _ _ _ h => h
              case hy_157 => (refine Or.inl ⟨by rfl, ?_⟩; intro w hSw; (try dsimp only at hSw); go_simp; try with_reducible rfl)
              case hS_157 => assumption
              try go_frame
              refine wpAnyH_take (i := 21) (v := ?_) (oi := ?_) ?hi_158 ?hs_158 ?hf_158 ?hr_158 ?hQ_158 ?hy_158 ?hS_158 ?h_158
              case hi_158 => (simp only [List.getElem?_toArray, List.getElem?_cons_zero, List.getElem?_cons_succ] <;> rfl)
              case hs_158 => kernel_rfl
              case hf_158 => kernel_rfl
              case hr_158 => kernel_rfl
              case hQ_158 => exact fun _ _ _ h => h
              case hy_158 => (refine Or.inl ⟨by rfl, ?_⟩; intro w hSw; (try dsimp only at hSw); go_simp; try with_reducible rfl)
              case hS_158 => assumption
              try go_frame
              refine wpAnyH_take (i := 22) (v := ?_) (oi := ?_) ?hi_159 ?hs_159 ?hf_159 ?hr_159 ?hQ_159 ?hy_159 ?hS_159 ?h_159
              case hi_159 => (simp only [List.getElem?_toArray, List.getElem?_cons_zero, List.getElem?_cons_succ] <;> rfl)
              case hs_159 => kernel_rfl
              case hf_159 => kernel_rfl
              case hr_159 => kernel_rfl
              case hQ_159 => exact fun _ _ _ h => h
              case hy_159 => (refine Or.inl ⟨by rfl, ?_⟩; intro w hSw; (try dsimp only at hSw); go_simp; try with_reducible rfl)
              case hS_159 => assumption
              try go_frame
              refine wpAnyH_take (i := 23) (v := ?_) (oi := ?_) ?hi_160 ?hs_160 ?hf_160 ?hr_160 ?hQ_160 ?hy_160 ?hS_160 ?h_160
              case hi_160 => (simp only [List.getElem?_toArray, List.getElem?_cons_zero, List.getElem?_cons_succ] <;> rfl)
              case hs_160 => kernel_rfl
              case hf_160 => kernel_rfl
              case hr_160 => kernel_rfl
              case hQ_160 => exact fun _ _ _ h => h
              case hy_160 => (refine Or.inl ⟨by rfl, ?_⟩; intro w hSw; (try dsimp only at hSw); go_simp; try with_reducible rfl)
              case hS_160 => assumption
              try go_frame
              refine wpAnyH_take (i := 24) (v := ?_) (oi := ?_) ?hi_161 ?hs_161 ?hf_161 ?hr_161 ?hQ_161 ?hy_161 ?hS_161 ?h_161
              case hi_161 => (simp only [List.getElem?_toArray, List.getElem?_cons_zero, List.getElem?_cons_succ] <;> rfl)
              case hs_161 => kernel_rfl
              case hf_161 => kernel_rfl
              case hr_161 => kernel_rfl
              case hQ_161 => exact fun _ _ _ h => h
              case hy_161 => (refine Or.inl ⟨by rfl, ?_⟩; intro w hSw; (try dsimp only at hSw); go_simp; try with_reducible rfl)
              case hS_161 => assumption
              try go_frame
              refine wpAnyH_take (i := 25) (v := undef) (oi := ?_) ?hi_162 ?hs_162 ?hf_162 ?hr_162 ?hQ_162 ?hy_162 ?hS_162 ?h_162
              case hi_162 => (simp only [List.getElem?_toArray, List.getElem?_cons_zero, List.getElem?_cons_succ] <;> rfl)
              case hs_162 => kernel_rfl
              case hf_162 => kernel_rfl
              case hr_162 => kernel_rfl
              case hQ_162 => exact fun _ _ _ h => h
              case hy_162 => exact Or.inr ⟨by rfl, rfl⟩
              case hS_162 => assumption
              try go_frame
              refine wpAnyH_take (i := 26) (v := undef) (oi := ?_) ?hi_163 ?hs_163 ?hf_163 ?hr_163 ?hQ_163 ?hy_163 ?hS_163 ?h_163
              case hi_163 => (simp only [List.getElem?_toArray, List.getElem?_cons_zero, List.getElem?_cons_succ] <;> rfl)
              case hs_163 => kernel_rfl
              case hf_163 => kernel_rfl
              case hr_163 => kernel_rfl
              case hQ_163 => exact fun _ _ _ h => h
              case hy_163 => exact Or.inr ⟨by rfl, rfl⟩
              case hS_163 => assumption
              try go_frame
              refine wpAnyH_take (i := 27) (v := undef) (oi := ?_) ?hi_164 ?hs_164 ?hf_164 ?hr_164 ?hQ_164 ?hy_164 ?hS_164 ?h_164
              case hi_164 => (simp only [List.getElem?_toArray, List.getElem?_cons_zero, List.getElem?_cons_succ] <;> rfl)
              case hs_164 => kernel_rfl
              case hf_164 => kernel_rfl
              case hr_164 => kernel_rfl
              case hQ_164 => exact fun _ _ _ h => h
              case hy_164 => exact Or.inr ⟨by rfl, rfl⟩
              case hS_164 => assumption
              try go_frame
              refine wpAnyH_take (i := 28) (v := undef) (oi := ?_) ?hi_165 ?hs_165 ?hf_165 ?hr_165 ?hQ_165 ?hy_165 ?hS_165 ?h_165
              case hi_165 => (simp only [List.getElem?_toArray, List.getElem?_cons_zero, List.getElem?_cons_succ] <;> rfl)
              case hs_165 => kernel_rfl
              case hf_165 => kernel_rfl
              case hr_165 => kernel_rfl
              case hQ_165 => exact fun _ _ _ h => h
              case hy_165 => exact Or.inr ⟨by rfl, rfl⟩
              case hS_165 => assumption
              try go_frame
              refine wpAnyH_take (i := 29) (v := undef) (oi := ?_) ?hi_166 ?hs_166 ?hf_166 ?hr_166 ?hQ_166 ?hy_166 ?hS_166 ?h_166
              case hi_166 => (simp only [List.getElem?_toArray, List.getElem?_cons_zero, List.getElem?_cons_succ] <;> rfl)
              case hs_166 => kernel_rfl
              case hf_166 => kernel_rfl
              case hr_166 => kernel_rfl
              case hQ_166 => exact fun _ _ _ h => h
              case hy_166 => exact Or.inr ⟨by rfl, rfl⟩
              case hS_166 => assumption
              try go_frame
              refine wpAnyH_take (i := 30) (v := undef) (oi := ?_) ?hi_167 ?hs_167 ?hf_167 ?hr_167 ?hQ_167 ?hy_167 ?hS_167 ?h_167
              case hi_167 => (simp only [List.getElem?_toArray, List.getElem?_cons_zero, List.getElem?_cons_succ] <;> rfl)
              case hs_167 => kernel_rfl
              case hf_167 => kernel_rfl
              case hr_167 => kernel_rfl
              case hQ_167 => exact fun _ _ _ h => h
              case hy_167 => exact Or.inr ⟨by rfl, rfl⟩
              case hS_167 => assumption
              try go_frame
              refine wpAnyH_ready (rs := [31]) (by kernel_rfl) (by simp) ?_
              refine AllReadyH.cons (o := ?_) ?hi_168 (fun K hK => ?h_168) AllReadyH.nil
              case hi_168 => (simp only [List.getElem?_toArray, List.getElem?_cons_zero, List.getElem?_cons_succ] <;> rfl)
              go_simp
              refine hK.out _ _ ?_ (fun hHeld => ?_)
              · exact ⟨n2.cell c0, n2.cell c1, n2.cell c2, n2.cell d0⟩
              clear hK K
              try go_frame
              refine wpAnyH_take (i := 32) (v := undef) (oi := ?_) ?hi_169 ?hs_169 ?hf_169 ?hr_169 ?hQ_169 ?hy_169 ?hS_169 ?h_169
              case hi_169 => (simp only [List.getElem?_toArray, List.getElem?_cons_zero, List.getElem?_cons_succ] <;> rfl)
              case hs_169 => kernel_rfl
              case hf_169 => kernel_rfl
              case hr_169 => kernel_rfl
              case hQ_169 => exact fun _ _ _ h => h
              case hy_169 => exact Or.inr ⟨by rfl, rfl⟩
              case hS_169 => assumption
              try go_frame
              refine wpAnyH_take (i := 33) (v := ?_) (oi := ?_) ?hi_170 ?hs_170 ?hf_170 ?hr_170 ?hQ_170 ?hy_170 ?hS_170 ?h_170
              case hi_170 => (simp only [List.getElem?_toArray, List.getElem?_cons_zero, List.getElem?_cons_succ] <;> rfl)
              case hs_170 => kernel_rfl
              case hf_170 => kernel_rfl
              case hr_170 => kernel_rfl
              case hQ_170 => exact fun _ _ _ h => h
              case hy_170 => (refine Or.inl ⟨by rfl, ?_⟩; intro w hSw; (try dsimp only at hSw); go_simp; try with_reducible rfl)
              case hS_170 => assumption
              try go_frame
              refine wpAnyH_done (by kernel_rfl) ?_ _
              go_wp2_with fail
              go_ret
              exact ⟨by rw [specInv_bad Hf.out]; rfl, hN.drew.trans n2⟩
          · rw [hs] at hl2
            have hne : ¬ q.path = o.path := sLt_ne hs
            have hne2 : (q.path == o.path) = false := by simp [hne]
            have hnb : sLt o.path q.path = false := by
              rcases h : sLt o.path q.path with _ | _
              · rfl
              · have := sLt_trans h hs
                rw [sLt_irrefl] at this; cases this
            rw [hnb] at hl1
            rw [hs, Bool.true_and] at Hst
            clear hs hnb
            rcases hh : homeS os o.path with _ | _
            · rw [hh] at hhm
              have Hhm := Lib.hid hhm
              have hf : specGo os none os = false := by rw [Hst.out, hh]; rfl
              have Hf := Lib.hid hf
              clear hf hh hhm
              go_wp2_with fail
              refine wp_region_held_drew (S := (fun w' => w'.cell? ⟨bb, off + (j + 1) * 3, none⟩ = some (.string ⟨o.path.toArray⟩) ∧ w'.cell? ⟨bb, off + (j + 1) * 3 + 1, none⟩ = some (.bool o.dir) ∧ w'.cell? ⟨bb, off + (j + 1) * 3 + 2, none⟩ = some uv ∧ w'.cell? ⟨bb, off + j * 3, none⟩ = some (.string ⟨q.path.toArray⟩))) (by kernel_rfl) ?_ (fun hHeld => ?_)
              · exact ⟨c0, c1, c2, d0⟩
              refine wpAnyH_take (i := 0) (v := ?_) (oi := ?_) ?hi_171 ?hs_171 ?hf_171 ?hr_171 ?hQ_171 ?hy_171 ?hS_171 ?h_171
              case hi_171 => (simp only [List.getElem?_toArray, List.getElem?_cons_zero] <;> rfl)
              case hs_171 => kernel_rfl
              case hf_171 => kernel_rfl
              case hr_171 => kernel_rfl
              case hQ_171 => exact fun _ _ _ h => h
              case hy_171 => (refine Or.inl ⟨by rfl, ?_⟩; intro w hSw; (try dsimp only at hSw); go_simp; try with_reducible rfl)
              case hS_171 => assumption
              try go_frame
              refine wpAnyH_take (i := 1) (v := ?_) (oi := ?_) ?hi_172 ?hs_172 ?hf_172 ?hr_172 ?hQ_172 ?hy_172 ?hS_172 ?h_172
              case hi_172 => (simp only [List.getElem?_toArray, List.getElem?_cons_zero, List.getElem?_cons_succ] <;> rfl)
              case hs_172 => kernel_rfl
              case hf_172 => kernel_rfl
              case hr_172 => kernel_rfl
              case hQ_172 => exact fun _ _ _ h => h
              case hy_172 => (refine Or.inl ⟨by rfl, ?_⟩; intro w hSw; (try dsimp only at hSw); go_simp; try with_reducible rfl)
              case hS_172 => assumption
              try go_frame
              refine wpAnyH_take (i := 2) (v := ?_) (oi := ?_) ?hi_173 ?hs_173 ?hf_173 ?hr_173 ?hQ_173 ?hy_173 ?hS_173 ?h_173
              case hi_173 => (simp only [List.getElem?_toArray, List.getElem?_cons_zero, List.getElem?_cons_succ] <;> rfl)
              case hs_173 => kernel_rfl
              case hf_173 => kernel_rfl
              case hr_173 => kernel_rfl
              case hQ_173 => exact fun _ _ _ h => h
              case hy_173 => (refine Or.inl ⟨by rfl, ?_⟩; intro w hSw; (try dsimp only at hSw); go_simp; try with_reducible rfl)
              case hS_173 => assumption
              try go_frame
              refine wpAnyH_take (i := 3) (v := ?_) (oi := ?_) ?hi_174 ?hs_174 ?hf_174 ?hr_174 ?hQ_174 ?hy_174 ?hS_174 ?h_174
              case hi_174 => (simp only [List.getElem?_toArray, List.getElem?_cons_zero, List.getElem?_cons_succ] <;> rfl)
              case hs_174 => kernel_rfl
              case hf_174 => kernel_rfl
              case hr_174 => kernel_rfl
              case hQ_174 => exact fun _ _ _ h => h
              case hy_174 => (refine Or.inl ⟨by rfl, ?_⟩; intro w hSw; (try dsimp only at hSw); go_simp; try with_reducible rfl)
              case hS_174 => assumption
              try go_frame
              refine wpAnyH_ready (rs := [4]) (by kernel_rfl) (by simp) ?_
              refine AllReadyH.cons (o := ?_) ?hi_175 (fun K hK => ?h_175) AllReadyH.nil
              case hi_175 => (simp only [List.getElem?_toArray, List.getElem?_cons_zero, List.getElem?_cons_succ] <;> rfl)
              go_simp
              (refine (Hiv.out _ (New.refl _)).mono ?_; rintro e w2 ⟨rfl, n2⟩; go_wp2_with fail)
              refine hK.out _ _ ?_ (fun hHeld => ?_)
              · exact ⟨n2.cell c0, n2.cell c1, n2.cell c2, n2.cell d0⟩
              clear hK K
              try go_frame
              refine wpAnyH_take (i := 5) (v := ?_) (oi := ?_) ?hi_176 ?hs_176 ?hf_176 ?hr_176 ?hQ_176 ?hy_176 ?hS_176 ?h_176
              case hi_176 => (simp only [List.getElem?_toArray, List.getElem?_cons_zero, List.getElem?_cons_succ] <;> rfl)
              case hs_176 => kernel_rfl
              case hf_176 => kernel_rfl
              case hr_176 => kernel_rfl
              case hQ_176 => exact fun _ _ _ h => h
              case hy_176 => (refine Or.inl ⟨by rfl, ?_⟩; intro w hSw; (try dsimp only at hSw); go_simp; try with_reducible rfl)
              case hS_176 => assumption
              try go_frame
              refine wpAnyH_take (i := 6) (v := ?_) (oi := ?_) ?hi_177 ?hs_177 ?hf_177 ?hr_177 ?hQ_177 ?hy_177 ?hS_177 ?h_177
              case hi_177 => (simp only [List.getElem?_toArray, List.getElem?_cons_zero, List.getElem?_cons_succ] <;> rfl)
              case hs_177 => kernel_rfl
              case hf_177 => kernel_rfl
              case hr_177 => kernel_rfl
              case hQ_177 => exact fun _ _ _ h => h
              case hy_177 => (refine Or.inl ⟨by rfl, ?_⟩; intro w hSw; (try dsimp only at hSw); go_simp; try with_reducible rfl)
              case hS_177 => assumption
              try go_frame
              refine wpAnyH_take (i := 7) (v := ?_) (oi := ?_) ?hi_178 ?hs_178 ?hf_178 ?hr_178 ?hQ_178 ?hy_178 ?hS_178 ?h_178
              case hi_178 => (simp only [List.getElem?_toArray, List.getElem?_cons_zero, List.getElem?_cons_succ] <;> rfl)
              case hs_178 => kernel_rfl
              case hf_178 => kernel_rfl
              case hr_178 => kernel_rfl
              case hQ_178 => exact fun _ _ _ h => h
              case hy_178 => (refine Or.inl ⟨by rfl, ?_⟩; intro w hSw; (try dsimp only at hSw); go_simp; try with_reducible rfl)
              case hS_178 => assumption
              try go_frame
              refine wpAnyH_take (i := 8) (v := ?_) (oi := ?_) ?hi_179 ?hs_179 ?hf_179 ?hr_179 ?hQ_179 ?hy_179 ?hS_179 ?h_179
              case hi_179 => (simp only [List.getElem?_toArray, List.getElem?_cons_zero, List.getElem?_cons_succ] <;> rfl)
              case hs_179 => kernel_rfl
              case hf_179 => kernel_rfl
              case hr_179 => kernel_rfl
              case hQ_179 => exact fun _ _ _ h => h
              case hy_179 => (refine Or.inl ⟨by rfl, ?_⟩; intro w hSw; (try dsimp only at hSw); go_simp; try with_reducible rfl)
              case hS_179 => assumption
              try go_frame
              refine wpAnyH_take (i := 9) (v := ?_) (oi := ?_) ?hi_180 ?hs_180 ?hf_180 ?hr_180 ?hQ_180 ?hy_180 ?hS_180 ?h_180
              case hi_180 => (simp only [List.getElem?_toArray, List.getElem?_cons_zero, List.getElem?_cons_succ] <;> rfl)
              case hs_180 => kernel_rfl
              case hf_180 => kernel_rfl
              case hr_180 => kernel_rfl
              case hQ_180 => exact fun _ _ _ h => h
              case hy_180 => (refine Or.inl ⟨by rfl, ?_⟩; intro w hSw; (try dsimp only at hSw); go_simp; try with_reducible rfl)
              case hS_180 => assumption
              try go_frame
              refine wpAnyH_take (i := 10) (v := ?_) (oi := ?_) ?hi_181 ?hs_181 ?hf_181 ?hr_181 ?hQ_181 ?hy_181 ?hS_181 ?h_181
              case hi_181 => (simp only [List.getElem?_toArray, List.getElem?_cons_zero, List.getElem?_cons_succ] <;> rfl)
              case hs_181 => kernel_rfl
              case hf_181 => kernel_rfl
              case hr_181 => kernel_rfl
              case hQ_181 => exact fun _ _ _ h => h
              case hy_181 => (refine Or.inl ⟨by rfl, ?_⟩; intro w hSw; (try dsimp only at hSw); go_simp; try with_reducible rfl)
              case hS_181 => assumption
              try go_frame
              refine wpAnyH_take (i := 11) (v := ?_) (oi := ?_) ?hi_182 ?hs_182 ?hf_182 ?hr_182 ?hQ_182 ?hy_182 ?hS_182 ?h_182
              case hi_182 => (simp only [List.getElem?_toArray, List.getElem?_cons_zero, List.getElem?_cons_succ] <;> rfl)
              case hs_182 => kernel_rfl
              case hf_182 => kernel_rfl
              case hr_182 => kernel_rfl
              case hQ_182 => exact fun _ _ _ h => h
              case hy_182 => (refine Or.inl ⟨by rfl, ?_⟩; intro w hSw; (try dsimp only at hSw); go_simp; try with_reducible rfl)
              case hS_182 => assumption
              try go_frame
              refine wpAnyH_take (i := 12) (v := ?_) (oi := ?_) ?hi_183 ?hs_183 ?hf_183 ?hr_183 ?hQ_183 ?hy_183 ?hS_183 ?h_183
              case hi_183 => (simp only [List.getElem?_toArray, List.getElem?_cons_zero, List.getElem?_cons_succ] <;> rfl)
              case hs_183 => kernel_rfl
              case hf_183 => kernel_rfl
              case hr_183 => kernel_rfl
              case hQ_183 => exact fun _ _ _ h => h
              case hy_183 => (refine Or.inl ⟨by rfl, ?_⟩; intro w hSw; (try dsimp only at hSw); go_simp; try with_reducible rfl)
              case hS_183 => assumption
              try go_frame
              refine wpAnyH_take (i := 13) (v := ?_) (oi := ?_) ?hi_184 ?hs_184 ?hf_184 ?hr_184 ?hQ_184 ?hy_184 ?hS_184 ?h_184
              case hi_184 => (simp only [List.getElem?_toArray, List.getElem?_cons_zero, List.getElem?_cons_succ] <;> rfl)
              case hs_184 => kernel_rfl
              case hf_184 => kernel_rfl
              case hr_184 => kernel_rfl
              case hQ_184 => exact fun _ _ _ h => h
              case hy_184 => (refine Or.inl ⟨by rfl, ?_⟩; intro w hSw; (try dsimp only at hSw); go_simp; try with_reducible rfl)
              case hS_184 => assumption
              try go_frame
              refine wpAnyH_take (i := 14) (v := ?_) (oi := ?_) ?hi_185 ?hs_185 ?hf_185 ?hr_185 ?hQ_185 ?hy_185 ?hS_185 ?h_185
              case hi_185 => (simp only [List.getElem?_toArray, List.getElem?_cons_zero, List.getElem?_cons_succ] <;> rfl)
              case hs_185 => kernel_rfl
              case hf_185 => kernel_rfl
              case hr_185 => kernel_rfl
              case hQ_185 => exact fun _ _ _ h => h
              case hy_185 => (refine Or.inl ⟨by rfl, ?_⟩; intro w hSw; (try dsimp only at hSw); go_simp; try with_reducible rfl)
              case hS_185 => assumption
              try go_frame
              refine wpAnyH_take (i := 15) (v := ?_) (oi := ?_) ?hi_186 ?hs_186 ?hf_186 ?hr_186 ?hQ_186 ?hy_186 ?hS_186 ?h_186
              case hi_186 => (simp only [List.getElem?_toArray, List.getElem?_cons_zero, List.getElem?_cons_succ] <;> rfl)
              case hs_186 => kernel_rfl
              case hf_186 => kernel_rfl
              case hr_186 => kernel_rfl
              case hQ_186 => exact fun _ _ _ h => h
              case hy_186 => (refine Or.inl ⟨by rfl, ?_⟩; intro w hSw; (try dsimp only at hSw); go_simp; try with_reducible rfl)
              case hS_186 => assumption
              try go_frame
              refine wpAnyH_take (i := 16) (v := ?_) (oi := ?_) ?hi_187 ?hs_187 ?hf_187 ?hr_187 ?hQ_187 ?hy_187 ?hS_187 ?h_187
              case hi_187 => (simp only [List.getElem?_toArray, List.getElem?_cons_zero, List.getElem?_cons_succ] <;> rfl)
              case hs_187 => kernel_rfl
              case hf_187 => kernel_rfl
              case hr_187 => kernel_rfl
              case hQ_187 => exact fun _ _ _ h => h
              case hy_187 => (refine Or.inl ⟨by rfl, ?_⟩; intro w hSw; (try dsimp only at hSw); go_simp; try with_reducible rfl)
              case hS_187 => assumption
              try go_frame
              refine wpAnyH_take (i := 17) (v := ?_) (oi := ?_) ?hi_188 ?hs_188 ?hf_188 ?hr_188 ?hQ_188 ?hy_188 ?hS_188 ?h_188
              case hi_188 => (simp only [List.getElem?_toArray, List.getElem?_cons_zero, List.getElem?_cons_succ] <;> rfl)
              case hs_188 => kernel_rfl
              case hf_188 => kernel_rfl
              case hr_188 => kernel_rfl
              case hQ_188 => exact fun _ _ _ h => h
              case hy_188 => (refine Or.inl ⟨by rfl, ?_⟩; intro w hSw; (try dsimp only at hSw); go_simp; try with_reducible rfl)
              case hS_188 => assumption
              try go_frame
              refine wpAnyH_take (i := 18) (v := ?_) (oi := ?_) ?hi_189 ?hs_189 ?hf_189 ?hr_189 ?hQ_189 ?hy_189 ?hS_189 ?h_189
              case hi_189 => (simp only [List.getElem?_toArray, List.getElem?_cons_zero, List.getElem?_cons_succ] <;> rfl)
              case hs_189 => kernel_rfl
              case hf_189 => kernel_rfl
              case hr_189 => kernel_rfl
              case hQ_189 => exact fun _ _ _ h => h
              case hy_189 => (refine Or.inl ⟨by rfl, ?_⟩; intro w hSw; (try dsimp only at hSw); go_simp; try with_reducible rfl)
              case hS_189 => assumption
              try go_frame
              refine wpAnyH_take (i := 19) (v := ?_) (oi := ?_) ?hi_190 ?hs_190 ?hf_190 ?hr_190 ?hQ_190 ?hy_190 ?hS_190 ?h_190
              case hi_190 => (simp only [List.getElem?_toArray, List.getElem?_cons_zero, List.getElem?_cons_succ] <;> rfl)
              case hs_190 => kernel_rfl
              case hf_190 => kernel_rfl
              case hr_190 => kernel_rfl
              case hQ_190 => exact fun _ _ _ h => h
              case hy_190 => (refine Or.inl ⟨by rfl, ?_⟩; intro w hSw; (try dsimp only at hSw); go_simp; try with_reducible rfl)
              case hS_190 => assumption
              try go_frame
              refine wpAnyH_take (i := 20) (v := ?_) (oi := ?_) ?hi_191 ?hs_191 ?hf_191 ?hr_191 ?hQ_191 ?hy_191 ?hS_191 ?h_191
              case hi_191 => (simp only [List.getElem?_toArray, List.getElem?_cons_zero, List.getElem?_cons_succ] <;> rfl)
              case hs_191 => kernel_rfl
              case hf_191 => kernel_rfl
              case hr_191 => kernel_rfl
              case hQ_191 => exact fun _ _ _ h => h
              case hy_191 => (refine Or.inl ⟨by rfl, ?_⟩; intro w hSw; (try dsimp only at hSw); go_simp; try with_reducible rfl)
              case hS_191 => assumption
              try go_frame
              refine wpAnyH_take (i := 21) (v := ?_) (oi := ?_) ?hi_192 ?hs_192 ?hf_192 ?hr_192 ?hQ_192 ?hy_192 ?hS_192 ?h_192
              case hi_192 => (simp only [List.getElem?_toArray, List.getElem?_cons_zero, List.getElem?_cons_succ] <;> rfl)
              case hs_192 => kernel_rfl
              case hf_192 => kernel_rfl
              case hr_192 => kernel_rfl
              case hQ_192 => exact fun _ _ _ h => h
              case hy_192 => (refine Or.inl ⟨by rfl, ?_⟩; intro w hSw; (try dsimp only at hSw); go_simp; try with_reducible rfl)
              case hS_192 => assumption
              try go_frame
              refine wpAnyH_take (i := 22) (v := ?_) (oi := ?_) ?hi_193 ?hs_193 ?hf_193 ?hr_193 ?hQ_193 ?hy_193 ?hS_193 ?h_193
              case hi_193 => (simp only [List.getElem?_toArray, List.getElem?_cons_zero, List.getElem?_cons_succ] <;> rfl)
              case hs_193 => kernel_rfl
              case hf_193 => kernel_rfl
              case hr_193 => kernel_rfl
              case hQ_193 => exact fun _ _ _ h => h
              case hy_193 => (refine Or.inl ⟨by rfl, ?_⟩; intro w hSw; (try dsimp only at hSw); go_simp; try with_reducible rfl)
              case hS_193 => assumption
              try go_frame
              refine wpAnyH_take (i := 23) (v := ?_) (oi := ?_) ?hi_194 ?hs_194 ?hf_194 ?hr_194 ?hQ_194 ?hy_194 ?hS_194 ?h_194
              case hi_194 => (simp only [List.getElem?_toArray, List.getElem?_cons_zero, List.getElem?_cons_succ] <;> rfl)
              case hs_194 => kernel_rfl
              case hf_194 => kernel_rfl
              case hr_194 => kernel_rfl
              case hQ_194 => exact fun _ _ _ h => h
              case hy_194 => (refine Or.inl ⟨by rfl, ?_⟩; intro w hSw; (try dsimp only at hSw); go_simp; try with_reducible rfl)
              case hS_194 => assumption
              try go_frame
              refine wpAnyH_take (i := 24) (v := ?_) (oi := ?_) ?hi_195 ?hs_195 ?hf_195 ?hr_195 ?hQ_195 ?hy_195 ?hS_195 ?h_195
              case hi_195 => (simp only [List.getElem?_toArray, List.getElem?_cons_zero, List.getElem?_cons_succ] <;> rfl)
              case hs_195 => kernel_rfl
              case hf_195 => kernel_rfl
              case hr_195 => kernel_rfl
              case hQ_195 => exact fun _ _ _ h => h
              case hy_195 => (refine Or.inl ⟨by rfl, ?_⟩; intro w hSw; (try dsimp only at hSw); go_simp; try with_reducible rfl)
              case hS_195 => assumption
              try go_frame
              refine wpAnyH_take (i := 25) (v := ?_) (oi := ?_) ?hi_196 ?hs_196 ?hf_196 ?hr_196 ?hQ_196 ?hy_196 ?hS_196 ?h_196
              case hi_196 => (simp only [List.getElem?_toArray, List.getElem?_cons_zero, List.getElem?_cons_succ] <;> rfl)
              case hs_196 => kernel_rfl
              case hf_196 => kernel_rfl
              case hr_196 => kernel_rfl
              case hQ_196 => exact fun _ _ _ h => h
              case hy_196 => (refine Or.inl ⟨by rfl, ?_⟩; intro w hSw; (try dsimp only at hSw); go_simp; try with_reducible rfl)
              case hS_196 => assumption
              try go_frame
              refine wpAnyH_take (i := 26) (v := ?_) (oi := ?_) ?hi_197 ?hs_197 ?hf_197 ?hr_197 ?hQ_197 ?hy_197 ?hS_197 ?h_197
              case hi_197 => (simp only [List.getElem?_toArray, List.getElem?_cons_zero, List.getElem?_cons_succ] <;> rfl)
              case hs_197 => kernel_rfl
              case hf_197 => kernel_rfl
              case hr_197 => kernel_rfl
              case hQ_197 => exact fun _ _ _ h => h
              case hy_197 => (refine Or.inl ⟨by rfl, ?_⟩; intro w hSw; (try dsimp only at hSw); go_simp; try with_reducible rfl)
              case hS_197 => assumption
              try go_frame
              refine wpAnyH_take (i := 27) (v := ?_) (oi := ?_) ?hi_198 ?hs_198 ?hf_198 ?hr_198 ?hQ_198 ?hy_198 ?hS_198 ?h_198
              case hi_198 => (simp only [List.getElem?_toArray, List.getElem?_cons_zero, List.getElem?_cons_succ] <;> rfl)
              case hs_198 => kernel_rfl
              case hf_198 => kernel_rfl
              case hr_198 => kernel_rfl
              case hQ_198 => exact fun _ _ _ h => h
              case hy_198 => (refine Or.inl ⟨by rfl, ?_⟩; intro w hSw; (try dsimp only at hSw); go_simp; try with_reducible rfl)
              case hS_198 => assumption
              try go_frame
              refine wpAnyH_take (i := 28) (v := ?_) (oi := ?_) ?hi_199 ?hs_199 ?hf_199 ?hr_199 ?hQ_199 ?hy_199 ?hS_199 ?h_199
              case hi_199 => (simp only [List.getElem?_toArray, List.getElem?_cons_zero, List.getElem?_cons_succ] <;> rfl)
              case hs_199 => kernel_rfl
              case hf_199 => kernel_rfl
              case hr_199 => kernel_rfl
              case hQ_199 => exact fun _ _ _ h => h
              case hy_199 => (refine Or.inl ⟨by rfl, ?_⟩; intro w hSw; (try dsimp only at hSw); go_simp; try with_reducible rfl)
              case hS_199 => assumption
              try go_frame
              refine wpAnyH_take (i := 29) (v := ?_) (oi := ?_) ?hi_200 ?hs_200 ?hf_200 ?hr_200 ?hQ_200 ?hy_200 ?hS_200 ?h_200
              case hi_200 => (simp only [List.getElem?_toArray, List.getElem?_cons_zero, List.getElem?_cons_succ] <;> rfl)
              case hs_200 => kernel_rfl
              case hf_200 => kernel_rfl
              case hr_200 => kernel_rfl
              case hQ_200 => exact fun _ _ _ h => h
              case hy_200 => (refine Or.inl ⟨by rfl, ?_⟩; intro w hSw; (try dsimp only at hSw); go_simp; try with_reducible rfl)
              case hS_200 => assumption
              try go_frame
              refine wpAnyH_take (i := 30) (v := ?_) (oi := ?_) ?hi_201 ?hs_201 ?hf_201 ?hr_201 ?hQ_201 ?hy_201 ?hS_201 ?h_201
              case hi_201 => (simp only [List.getElem?_toArray, List.getElem?_cons_zero, List.getElem?_cons_succ] <;> rfl)
              case hs_201 => kernel_rfl
              case hf_201 => kernel_rfl
              case hr_201 => kernel_rfl
              case hQ_201 => exact fun _ _ _ h => h
              case hy_201 => (refine Or.inl ⟨by rfl, ?_⟩; intro w hSw; (try dsimp only at hSw); go_simp; try with_reducible rfl)
              case hS_201 => assumption
              try go_frame
              refine wpAnyH_ready (rs := [31]) (by kernel_rfl) (by simp) ?_
              refine AllReadyH.cons (o := ?_) ?hi_202 (fun K hK => ?h_202) AllReadyH.nil
              case hi_202 => (simp only [List.getElem?_toArray, List.getElem?_cons_zero, List.getElem?_cons_succ] <;> rfl)
              go_simp
              (refine (Hhm.out _ (hN.drew.trans n2)).mono ?_; rintro e w3 ⟨rfl, n3⟩; go_wp2_with fail)
              refine hK.out _ _ ?_ (fun hHeld => ?_)
              · exact ⟨n3.cell (n2.cell c0), n3.cell (n2.cell c1), n3.cell (n2.cell c2), n3.cell (n2.cell d0)⟩
              clear hK K
              try go_frame
              refine wpAnyH_take (i := 32) (v := ?_) (oi := ?_) ?hi_203 ?hs_203 ?hf_203 ?hr_203 ?hQ_203 ?hy_203 ?hS_203 ?h_203
              case hi_203 => (simp only [List.getElem?_toArray, List.getElem?_cons_zero, List.getElem?_cons_succ] <;> rfl)
              case hs_203 => kernel_rfl
              case hf_203 => kernel_rfl
              case hr_203 => kernel_rfl
              case hQ_203 => exact fun _ _ _ h => h
              case hy_203 => (refine Or.inl ⟨by rfl, ?_⟩; intro w hSw; (try dsimp only at hSw); go_simp; try with_reducible rfl)
              case hS_203 => assumption
              try go_frame
              refine wpAnyH_take (i := 33) (v := ?_) (oi := ?_) ?hi_204 ?hs_204 ?hf_204 ?hr_204 ?hQ_204 ?hy_204 ?hS_204 ?h_204
              case hi_204 => (simp only [List.getElem?_toArray, List.getElem?_cons_zero, List.getElem?_cons_succ] <;> rfl)
              case hs_204 => kernel_rfl
              case hf_204 => kernel_rfl
              case hr_204 => kernel_rfl
              case hQ_204 => exact fun _ _ _ h => h
              case hy_204 => (refine Or.inl ⟨by rfl, ?_⟩; intro w hSw; (try dsimp only at hSw); go_simp; try with_reducible rfl)
              case hS_204 => assumption
              try go_frame
              refine wpAnyH_done (by kernel_rfl) ?_ _
              go_wp2_with fail
              go_ret
              exact ⟨by rw [specInv_bad Hf.out]; rfl, (hN.drew.trans n2).trans n3⟩
            · rw [hh] at hhm
              have Hhm := Lib.hid hhm
              rw [hh, Bool.true_and] at Hst
              clear hh hhm
              go_wp2_with fail
              refine wp_region_held_drew (S := (fun w' => w'.cell? ⟨bb, off + (j + 1) * 3, none⟩ = some (.string ⟨o.path.toArray⟩) ∧ w'.cell? ⟨bb, off + (j + 1) * 3 + 1, none⟩ = some (.bool o.dir) ∧ w'.cell? ⟨bb, off + (j + 1) * 3 + 2, none⟩ = some uv ∧ w'.cell? ⟨bb, off + j * 3, none⟩ = some (.string ⟨q.path.toArray⟩))) (by kernel_rfl) ?_ (fun hHeld => ?_)
              · exact ⟨c0, c1, c2, d0⟩
              refine wpAnyH_take (i := 0) (v := ?_) (oi := ?_) ?hi_205 ?hs_205 ?hf_205 ?hr_205 ?hQ_205 ?hy_205 ?hS_205 ?h_205
              case hi_205 => (simp only [List.getElem?_toArray, List.getElem?_cons_zero] <;> rfl)
              case hs_205 => kernel_rfl
              case hf_205 => kernel_rfl
              case hr_205 => kernel_rfl
              case hQ_205 => exact fun _ _ _ h => h
              case hy_205 => (refine Or.inl ⟨by rfl, ?_⟩; intro w hSw; (try dsimp only at hSw); go_simp; try with_reducible rfl)
              case hS_205 => assumption
              try go_frame
              refine wpAnyH_take (i := 1) (v := ?_) (oi := ?_) ?hi_206 ?hs_206 ?hf_206 ?hr_206 ?hQ_206 ?hy_206 ?hS_206 ?h_206
              case hi_206 => (simp only [List.getElem?_toArray, List.getElem?_cons_zero, List.getElem?_cons_succ] <;> rfl)
              case hs_206 => kernel_rfl
              case hf_206 => kernel_rfl
              case hr_206 => kernel_rfl
              case hQ_206 => exact fun _ _ _ h => h
              case hy_206 => (refine Or.inl ⟨by rfl, ?_⟩; intro w hSw; (try dsimp only at hSw); go_simp; try with_reducible rfl)
              case hS_206 => assumption
              try go_frame
              refine wpAnyH_take (i := 2) (v := ?_) (oi := ?_) ?hi_207 ?hs_207 ?hf_207 ?hr_207 ?hQ_207 ?hy_207 ?hS_207 ?h_207
              case hi_207 => (simp only [List.getElem?_toArray, List.getElem?_cons_zero, List.getElem?_cons_succ] <;> rfl)
              case hs_207 => kernel_rfl
              case hf_207 => kernel_rfl
              case hr_207 => kernel_rfl
              case hQ_207 => exact fun _ _ _ h => h
              case hy_207 => (refine Or.inl ⟨by rfl, ?_⟩; intro w hSw; (try dsimp only at hSw); go_simp; try with_reducible rfl)
              case hS_207 => assumption
              try go_frame
              refine wpAnyH_take (i := 3) (v := ?_) (oi := ?_) ?hi_208 ?hs_208 ?hf_208 ?hr_208 ?hQ_208 ?hy_208 ?hS_208 ?h_208
              case hi_208 => (simp only [List.getElem?_toArray, List.getElem?_cons_zero, List.getElem?_cons_succ] <;> rfl)
              case hs_208 => kernel_rfl
              case hf_208 => kernel_rfl
              case hr_208 => kernel_rfl
              case hQ_208 => exact fun _ _ _ h => h
              case hy_208 => (refine Or.inl ⟨by rfl, ?_⟩; intro w hSw; (try dsimp only at hSw); go_simp; try with_reducible rfl)
              case hS_208 => assumption
              try go_frame
              refine wpAnyH_ready (rs := [4]) (by kernel_rfl) (by simp) ?_
              refine AllReadyH.cons (o := ?_) ?hi_209 (fun K hK => ?h_209) AllReadyH.nil
              case hi_209 => (simp only [List.getElem?_toArray, List.getElem?_cons_zero, List.getElem?_cons_succ] <;> rfl)
              go_simp
              (refine (Hiv.out _ (New.refl _)).mono ?_; rintro e w2 ⟨rfl, n2⟩; go_wp2_with fail)
              refine hK.out _ _ ?_ (fun hHeld => ?_)
              · exact ⟨n2.cell c0, n2.cell c1, n2.cell c2, n2.cell d0⟩
              clear hK K
              try go_frame
              refine wpAnyH_take (i := 5) (v := ?_) (oi := ?_) ?hi_210 ?hs_210 ?hf_210 ?hr_210 ?hQ_210 ?hy_210 ?hS_210 ?h_210
              case hi_210 => (simp only [List.getElem?_toArray, List.getElem?_cons_zero, List.getElem?_cons_succ] <;> rfl)
              case hs_210 => kernel_rfl
              case hf_210 => kernel_rfl
              case hr_210 => kernel_rfl
              case hQ_210 => exact fun _ _ _ h => h
              case hy_210 => (refine Or.inl ⟨by rfl, ?_⟩; intro w hSw; (try dsimp only at hSw); go_simp; try with_reducible rfl)
              case hS_210 => assumption
              try go_frame
              refine wpAnyH_take (i := 6) (v := ?_) (oi := ?_) ?hi_211 ?hs_211 ?hf_211 ?hr_211 ?hQ_211 ?hy_211 ?hS_211 ?h_211
              case hi_211 => (simp only [List.getElem?_toArray, List.getElem?_cons_zero, List.getElem?_cons_succ] <;> rfl)
              case hs_211 => kernel_rfl
              case hf_211 => kernel_rfl
              case hr_211 => kernel_rfl
              case hQ_211 => exact fun _ _ _ h => h
              case hy_211 => (refine Or.inl ⟨by rfl, ?_⟩; intro w hSw; (try dsimp only at hSw); go_simp; try with_reducible rfl)
              case hS_211 => assumption
              try go_frame
              refine wpAnyH_take (i := 7) (v := ?_) (oi := ?_) ?hi_212 ?hs_212 ?hf_212 ?hr_212 ?hQ_212 ?hy_212 ?hS_212 ?h_212
              case hi_212 => (simp only [List.getElem?_toArray, List.getElem?_cons_zero, List.getElem?_cons_succ] <;> rfl)
              case hs_212 => kernel_rfl
              case hf_212 => kernel_rfl
              case hr_212 => kernel_rfl
              case hQ_212 => exact fun _ _ _ h => h
              case hy_212 => (refine Or.inl ⟨by rfl, ?_⟩; intro w hSw; (try dsimp only at hSw); go_simp; try with_reducible rfl)
              case hS_212 => assumption
              try go_frame
              refine wpAnyH_take (i := 8) (v := ?_) (oi := ?_) ?hi_213 ?hs_213 ?hf_213 ?hr_213 ?hQ_213 ?hy_213 ?hS_213 ?h_213
              case hi_213 => (simp only [List.getElem?_toArray, List.getElem?_cons_zero, List.getElem?_cons_succ] <;> rfl)
              case hs_213 => kernel_rfl
              case hf_213 => kernel_rfl
              case hr_213 => kernel_rfl
              case hQ_213 => exact fun _ _ _ h => h
              case hy_213 => (refine Or.inl ⟨by rfl, ?_⟩; intro w hSw; (try dsimp only at hSw); go_simp; try with_reducible rfl)
              case hS_213 => assumption
              try go_frame
              refine wpAnyH_take (i := 9) (v := ?_) (oi := ?_) ?hi_214 ?hs_214 ?hf_214 ?hr_214 ?hQ_214 ?hy_214 ?hS_214 ?h_214
              case hi_214 => (simp only [List.getElem?_toArray, List.getElem?_cons_zero, List.getElem?_cons_succ] <;> rfl)
              case hs_214 => kernel_rfl
              case hf_214 => kernel_rfl
              case hr_214 => kernel_rfl
              case hQ_214 => exact fun _ _ _ h => h
              case hy_214 => (refine Or.inl ⟨by rfl, ?_⟩; intro w hSw; (try dsimp only at hSw); go_simp; try with_reducible rfl)
              case hS_214 => assumption
              try go_frame
              refine wpAnyH_take (i := 10) (v := ?_) (oi := ?_) ?hi_215 ?hs_215 ?hf_215 ?hr_215 ?hQ_215 ?hy_215 ?hS_215 ?h_215
              case hi_215 => (simp only [List.getElem?_toArray, List.getElem?_cons_zero, List.getElem?_cons_succ] <;> rfl)
              case hs_215 => kernel_rfl
              case hf_215 => kernel_rfl
              case hr_215 => kernel_rfl
              case hQ_215 => exact fun _ _ _ h => h
              case hy_215 => (refine Or.inl ⟨by rfl, ?_⟩; intro w hSw; (try dsimp only at hSw); go_simp; try with_reducible rfl)
              case hS_215 => assumption
              try go_frame
              refine wpAnyH_take (i := 11) (v := ?_) (oi := ?_) ?hi_216 ?hs_216 ?hf_216 ?hr_216 ?hQ_216 ?hy_216 ?hS_216 ?h_216
              case hi_216 => (simp only [List.getElem?_toArray, List.getElem?_cons_zero, List.getElem?_cons_succ] <;> rfl)
              case hs_216 => kernel_rfl
              case hf_216 => kernel_rfl
              case hr_216 => kernel_rfl
              case hQ_216 => exact fun _ _ _ h => h
              case hy_216 => (refine Or.inl ⟨by rfl, ?_⟩; intro w hSw; (try dsimp only at hSw); go_simp; try with_reducible rfl)
              case hS_216 => assumption
              try go_frame
              refine wpAnyH_take (i := 12) (v := ?_) (oi := ?_) ?hi_217 ?hs_217 ?hf_217 ?hr_217 ?hQ_217 ?hy_217 ?hS_217 ?h_217
              case hi_217 => (simp only [List.getElem?_toArray, List.getElem?_cons_zero, List.getElem?_cons_succ] <;> rfl)
              case hs_217 => kernel_rfl
              case hf_217 => kernel_rfl
              case hr_217 => kernel_rfl
              case hQ_217 => exact fun _ _ _ h => h
              case hy_217 => (refine Or.inl ⟨by rfl, ?_⟩; intro w hSw; (try dsimp only at hSw); go_simp; try with_reducible rfl)
              case hS_217 => assumption
              try go_frame
              refine wpAnyH_take (i := 13) (v := ?_) (oi := ?_) ?hi_218 ?hs_218 ?hf_218 ?hr_218 ?hQ_218 ?hy_218 ?hS_218 ?h_218
              case hi_218 => (simp only [List.getElem?_toArray, List.getElem?_cons_zero, List.getElem?_cons_succ] <;> rfl)
              case hs_218 => kernel_rfl
              case hf_218 => kernel_rfl
              case hr_218 => kernel_rfl
              case hQ_218 => exact fun _ _ _ h => h
              case hy_218 => (refine Or.inl ⟨by rfl, ?_⟩; intro w hSw; (try dsimp only at hSw); go_simp; try with_reducible rfl)
              case hS_218 => assumption
              try go_frame
              refine wpAnyH_take (i := 14) (v := ?_) (oi := ?_) ?hi_219 ?hs_219 ?hf_219 ?hr_219 ?hQ_219 ?hy_219 ?hS_219 ?h_219
              case hi_219 => (simp only [List.getElem?_toArray, List.getElem?_cons_zero, List.getElem?_cons_succ] <;> rfl)
              case hs_219 => kernel_rfl
              case hf_219 => kernel_rfl
              case hr_219 => kernel_rfl
              case hQ_219 => exact fun _ _ _ h => h
              case hy_219 => (refine Or.inl ⟨by rfl, ?_⟩; intro w hSw; (try dsimp only at hSw); go_simp; try with_reducible rfl)
              case hS_219 => assumption
              try go_frame
              refine wpAnyH_take (i := 15) (v := ?_) (oi := ?_) ?hi_220 ?hs_220 ?hf_220 ?hr_220 ?hQ_220 ?hy_220 ?hS_220 ?h_220
              case hi_220 => (simp only [List.getElem?_toArray, List.getElem?_cons_zero, List.getElem?_cons_succ] <;> rfl)
              case hs_220 => kernel_rfl
              case hf_220 => kernel_rfl
              case hr_220 => kernel_rfl
              case hQ_220 => exact fun _ _ _ h => h
              case hy_220 => (refine Or.inl ⟨by rfl, ?_⟩; intro w hSw; (try dsimp only at hSw); go_simp; try with_reducible rfl)
              case hS_220 => assumption
              try go_frame
              refine wpAnyH_take (i := 16) (v := ?_) (oi := ?_) ?hi_221 ?hs_221 ?hf_221 ?hr_221 ?hQ_221 ?hy_221 ?hS_221 ?h_221
              case hi_221 => (simp only [List.getElem?_toArray, List.getElem?_cons_zero, List.getElem?_cons_succ] <;> rfl)
              case hs_221 => kernel_rfl
              case hf_221 => kernel_rfl
              case hr_221 => kernel_rfl
              case hQ_221 => exact fun _ _ _ h => h
              case hy_221 => (refine Or.inl ⟨by rfl, ?_⟩; intro w hSw; (try dsimp only at hSw); go_simp; try with_reducible rfl)
              case hS_221 => assumption
              try go_frame
              refine wpAnyH_take (i := 17) (v := ?_) (oi := ?_) ?hi_222 ?hs_222 ?hf_222 ?hr_222 ?hQ_222 ?hy_222 ?hS_222 ?h_222
              case hi_222 => (simp only [List.getElem?_toArray, List.getElem?_cons_zero, List.getElem?_cons_succ] <;> rfl)
              case hs_222 => kernel_rfl
              case hf_222 => kernel_rfl
              case hr_222 => kernel_rfl
              case hQ_222 => exact fun _ _ _ h => h
              case hy_222 => (refine Or.inl ⟨by rfl, ?_⟩; intro w hSw; (try dsimp only at hSw); go_simp; try with_reducible rfl)
              case hS_222 => assumption
              try go_frame
              refine wpAnyH_take (i := 18) (v := ?_) (oi := ?_) ?hi_223 ?hs_223 ?hf_223 ?hr_223 ?hQ_223 ?hy_223 ?hS_223 ?h_223
              case hi_223 => (simp only [List.getElem?_toArray, List.getElem?_cons_zero, List.getElem?_cons_succ] <;> rfl)
              case hs_223 => kernel_rfl
              case hf_223 => kernel_rfl
              case hr_223 => kernel_rfl
              case hQ_223 => exact fun _ _ _ h => h
              case hy_223 => (refine Or.inl ⟨by rfl, ?_⟩; intro w hSw; (try dsimp only at hSw); go_simp; try with_reducible rfl)
              case hS_223 => assumption
              try go_frame
              refine wpAnyH_take (i := 19) (v := ?_) (oi := ?_) ?hi_224 ?hs_224 ?hf_224 ?hr_224 ?hQ_224 ?hy_224 ?hS_224 ?h_224
              case hi_224 => (simp only [List.getElem?_toArray, List.getElem?_cons_zero, List.getElem?_cons_succ] <;> rfl)
              case hs_224 => kernel_rfl
              case hf_224 => kernel_rfl
              case hr_224 => kernel_rfl
              case hQ_224 => exact fun _ _ _ h => h
              case hy_224 => (refine Or.inl ⟨by rfl, ?_⟩; intro w hSw; (try dsimp only at hSw); go_simp; try with_reducible rfl)
              case hS_224 => assumption
              try go_frame
              refine wpAnyH_take (i := 20) (v := ?_) (oi := ?_) ?hi_225 ?hs_225 ?hf_225 ?hr_225 ?hQ_225 ?hy_225 ?hS_225 ?h_225
              case hi_225 => (simp only [List.getElem?_toArray, List.getElem?_cons_zero, List.getElem?_cons_succ] <;> rfl)
              case hs_225 => kernel_rfl
              case hf_225 => kernel_rfl
              case hr_225 => kernel_rfl
              case hQ_225 => exact fun _ _ _ h => h
              case hy_225 => (refine Or.inl ⟨by rfl, ?_⟩; intro w hSw; (try dsimp only at hSw); go_simp; try with_reducible rfl)
              case hS_225 => assumption
              try go_frame
              refine wpAnyH_take (i := 21) (v := ?_) (oi := ?_) ?hi_226 ?hs_226 ?hf_226 ?hr_226 ?hQ_226 ?hy_226 ?hS_226 ?h_226
              case hi_226 => (simp only [List.getElem?_toArray, List.getElem?_cons_zero, List.getElem?_cons_succ] <;> rfl)
              case hs_226 => kernel_rfl
              case hf_226 => kernel_rfl
              case hr_226 => kernel_rfl
              case hQ_226 => exact fun _ _ _ h => h
              case hy_226 => (refine Or.inl ⟨by rfl, ?_⟩; intro w hSw; (try dsimp only at hSw); go_simp; try with_reducible rfl)
              case hS_226 => assumption
              try go_frame
              refine wpAnyH_take (i := 22) (v := ?_) (oi := ?_) ?hi_227 ?hs_227 ?hf_227 ?hr_227 ?hQ_227 ?hy_227 ?hS_227 ?h_227
              case hi_227 => (simp only [List.getElem?_toArray, List.getElem?_cons_zero, List.getElem?_cons_succ] <;> rfl)
              case hs_227 => kernel_rfl
              case hf_227 => kernel_rfl
              case hr_227 => kernel_rfl
              case hQ_227 => exact fun _ _ _ h => h
              case hy_227 => (refine Or.inl ⟨by rfl, ?_⟩; intro w hSw; (try dsimp only at hSw); go_simp; try with_reducible rfl)
              case hS_227 => assumption
              try go_frame
              refine wpAnyH_take (i := 23) (v := ?_) (oi := ?_) ?hi_228 ?hs_228 ?hf_228 ?hr_228 ?hQ_228 ?hy_228 ?hS_228 ?h_228
              case hi_228 => (simp only [List.getElem?_toArray, List.getElem?_cons_zero, List.getElem?_cons_succ] <;> rfl)
              case hs_228 => kernel_rfl
              case hf_228 => kernel_rfl
              case hr_228 => kernel_rfl
              case hQ_228 => exact fun _ _ _ h => h
              case hy_228 => (refine Or.inl ⟨by rfl, ?_⟩; intro w hSw; (try dsimp only at hSw); go_simp; try with_reducible rfl)
              case hS_228 => assumption
              try go_frame
              refine wpAnyH_take (i := 24) (v := ?_) (oi := ?_) ?hi_229 ?hs_229 ?hf_229 ?hr_229 ?hQ_229 ?hy_229 ?hS_229 ?h_229
              case hi_229 => (simp only [List.getElem?_toArray, List.getElem?_cons_zero, List.getElem?_cons_succ] <;> rfl)
              case hs_229 => kernel_rfl
              case hf_229 => kernel_rfl
              case hr_229 => kernel_rfl
              case hQ_229 => exact fun _ _ _ h => h
              case hy_229 => (refine Or.inl ⟨by rfl, ?_⟩; intro w hSw; (try dsimp only at hSw); go_simp; try with_reducible rfl)
              case hS_229 => assumption
              try go_frame
              refine wpAnyH_take (i := 25) (v := ?_) (oi := ?_) ?hi_230 ?hs_230 ?hf_230 ?hr_230 ?hQ_230 ?hy_230 ?hS_230 ?h_230
              case hi_230 => (simp only [List.getElem?_toArray, List.getElem?_cons_zero, List.getElem?_cons_succ] <;> rfl)
              case hs_230 => kernel_rfl
              case hf_230 => kernel_rfl
              case hr_230 => kernel_rfl
              case hQ_230 => exact fun _ _ _ h => h
              case hy_230 => (refine Or.inl ⟨by rfl, ?_⟩; intro w hSw; (try dsimp only at hSw); go_simp; try with_reducible rfl)
              case hS_230 => assumption
              try go_frame
              refine wpAnyH_take (i := 26) (v := ?_) (oi := ?_) ?hi_231 ?hs_231 ?hf_231 ?hr_231 ?hQ_231 ?hy_231 ?hS_231 ?h_231
              case hi_231 => (simp only [List.getElem?_toArray, List.getElem?_cons_zero, List.getElem?_cons_succ] <;> rfl)
              case hs_231 => kernel_rfl
              case hf_231 => kernel_rfl
              case hr_231 => kernel_rfl
              case hQ_231 => exact fun _ _ _ h => h
              case hy_231 => (refine Or.inl ⟨by rfl, ?_⟩; intro w hSw; (try dsimp only at hSw); go_simp; try with_reducible rfl)
              case hS_231 => assumption
              try go_frame
              refine wpAnyH_take (i := 27) (v := ?_) (oi := ?_) ?hi_232 ?hs_232 ?hf_232 ?hr_232 ?hQ_232 ?hy_232 ?hS_232 ?h_232
              case hi_232 => (simp only [List.getElem?_toArray, List.getElem?_cons_zero, List.getElem?_cons_succ] <;> rfl)
              case hs_232 => kernel_rfl
              case hf_232 => kernel_rfl
              case hr_232 => kernel_rfl
              case hQ_232 => exact fun _ _ _ h => h
              case hy_232 => (refine Or.inl ⟨by rfl, ?_⟩; intro w hSw; (try dsimp only at hSw); go_simp; try with_reducible rfl)
              case hS_232 => assumption
              try go_frame
              refine wpAnyH_take (i := 28) (v := ?_) (oi := ?_) ?hi_233 ?hs_233 ?hf_233 ?hr_233 ?hQ_233 ?hy_233 ?hS_233 ?h_233
              case hi_233 => (simp only [List.getElem?_toArray, List.getElem?_cons_zero, List.getElem?_cons_succ] <;> rfl)
              case hs_233 => kernel_rfl
              case hf_233 => kernel_rfl
              case hr_233 => kernel_rfl
              case hQ_233 => exact fun _ _ _ h => h
              case hy_233 => (refine Or.inl ⟨by rfl, ?_⟩; intro w hSw; (try dsimp only at hSw); go_simp; try with_reducible rfl)
              case hS_233 => assumption
              try go_frame
              refine wpAnyH_take (i := 29) (v := ?_) (oi := ?_) ?hi_234 ?hs_234 ?hf_234 ?hr_234 ?hQ_234 ?hy_234 ?hS_234 ?h_234
              case hi_234 => (simp only [List.getElem?_toArray, List.getElem?_cons_zero, List.getElem?_cons_succ] <;> rfl)
              case hs_234 => kernel_rfl
              case hf_234 => kernel_rfl
              case hr_234 => kernel_rfl
              case hQ_234 => exact fun _ _ _ h => h
              case hy_234 => (refine Or.inl ⟨by rfl, ?_⟩; intro w hSw; (try dsimp only at hSw); go_simp; try with_reducible rfl)
              case hS_234 => assumption
              try go_frame
              refine wpAnyH_take (i := 30) (v := ?_) (oi := ?_) ?hi_235 ?hs_235 ?hf_235 ?hr_235 ?hQ_235 ?hy_235 ?hS_235 ?h_235
              case hi_235 => (simp only [List.getElem?_toArray, List.getElem?_cons_zero, List.getElem?_cons_succ] <;> rfl)
              case hs_235 => kernel_rfl
              case hf_235 => kernel_rfl
              case hr_235 => kernel_rfl
              case hQ_235 => exact fun _ _ _ h => h
              case hy_235 => (refine Or.inl ⟨by rfl, ?_⟩; intro w hSw; (try dsimp only at hSw); go_simp; try with_reducible rfl)
              case hS_235 => assumption
              try go_frame
              refine wpAnyH_ready (rs := [31]) (by kernel_rfl) (by simp) ?_
              refine AllReadyH.cons (o := ?_) ?hi_236 (fun K hK => ?h_236) AllReadyH.nil
              case hi_236 => (simp only [List.getElem?_toArray, List.getElem?_cons_zero, List.getElem?_cons_succ] <;> rfl)
              go_simp
              (refine (Hhm.out _ (hN.drew.trans n2)).mono ?_; rintro e w3 ⟨rfl, n3⟩; go_wp2_with fail)
              refine hK.out _ _ ?_ (fun hHeld => ?_)
              · exact ⟨n3.cell (n2.cell c0), n3.cell (n2.cell c1), n3.cell (n2.cell c2), n3.cell (n2.cell d0)⟩
              clear hK K
              try go_frame
              refine wpAnyH_take (i := 32) (v := ?_) (oi := ?_) ?hi_237 ?hs_237 ?hf_237 ?hr_237 ?hQ_237 ?hy_237 ?hS_237 ?h_237
              case hi_237 => (simp only [List.getElem?_toArray, List.getElem?_cons_zero, List.getElem?_cons_succ] <;> rfl)
              case hs_237 => kernel_rfl
              case hf_237 => kernel_rfl
              case hr_237 => kernel_rfl
              case hQ_237 => exact fun _ _ _ h => h
              case hy_237 => (refine Or.inl ⟨by rfl, ?_⟩; intro w hSw; (try dsimp only at hSw); go_simp; try with_reducible rfl)
              case hS_237 => assumption
              try go_frame
              refine wpAnyH_take (i := 33) (v := ?_) (oi := ?_) ?hi_238 ?hs_238 ?hf_238 ?hr_238 ?hQ_238 ?hy_238 ?hS_238 ?h_238
              case hi_238 => (simp only [List.getElem?_toArray, List.getElem?_cons_zero, List.getElem?_cons_succ] <;> rfl)
              case hs_238 => kernel_rfl
              case hf_238 => kernel_rfl
              case hr_238 => kernel_rfl
              case hQ_238 => exact fun _ _ _ h => h
              case hy_238 => (refine Or.inl ⟨by rfl, ?_⟩; intro w hSw; (try dsimp only at hSw); go_simp; try with_reducible rfl)
              case hS_238 => assumption
              try go_frame
              refine wpAnyH_done (by kernel_rfl) ?_ _
              go_wp2_with fail
              go_roundg (os.length - ((j + 1) + 1))
              case measure => rw [Hgk.out]; omega
              case rel => exact ⟨(j + 1) + 1, rfl, by omega, by go_num, (hN.drew.trans n2).trans n3, Hst⟩
    · have hr := specInv_end hI.out hlt
      have Hr := Lib.hid hr
      clear hr hI
      go_wp2_with fail
      go_ret
      exact ⟨by rw [Hr.out]; rfl, hN⟩
end Go.Proofs.YtkffejommncinaaDoor
