/- Valid holds, the program's and the reference's; l31Has; sameHolds. -/
import Derived.Test.YtapobonfnjgnoaaHoldOrd
import Derived.Test.YtapobonfnjgnoaaTexts
import Derived.Deep.RegionWith
namespace Go.Proofs.Ytapobonfnjgnoaa
open Go.RowKit

def holdOk (o : HoldR) : Bool := wordOk o.snap && wordOk o.tag
def HSm (o : HoldR) : Prop := o.snap.length ≤ 1048576 ∧ o.tag.length ≤ 1048576
def okAt (p : Option HoldR) (x : HoldR) : Bool := holdOk x && (match p with | none => true | some y => hLt y x)
def okFrom : Option HoldR → List HoldR → Bool
  | _, [] => true
  | p, x :: r => okAt p x && okFrom (some x) r
def prevAt (os : List HoldR) (k : Nat) : Option HoldR := if k = 0 then none else os[k - 1]?
def holdsOk (os : List HoldR) : Bool := decide (os.length ≤ 8) && okFrom none os
theorem prevAt_succ {os : List HoldR} {k : Nat} {x : HoldR} (h : os[k]? = some x) : prevAt os (k + 1) = some x := by
  unfold prevAt
  rw [if_neg (by omega)]
  exact h
theorem holdAgg (o : HoldR) : (Value.agg #[txt o.snap, txt o.tag]) = .agg #[.string ⟨o.snap.toArray⟩, .string ⟨o.tag.toArray⟩] := rfl

set_option maxRecDepth 4000 in
set_option maxHeartbeats 1000000 in
theorem implHold (o : HoldR) (w : World) (hs : HSm o) :
    Calls Try.prog 37 #[.agg #[.string ⟨o.snap.toArray⟩, .string ⟨o.tag.toArray⟩]] w fun e w' => e = .returned (.bool (holdOk o)) ∧ New w w' := by
  obtain ⟨a, b⟩ := o
  obtain ⟨h1, h2⟩ := hs
  simp only at h1 h2 ⊢
  have ca := fun (W : World) => implPart ⟨a.toArray⟩ W (by show a.toArray.size ≤ _; simp; omega)
  have cb := fun (W : World) => implPart ⟨b.toArray⟩ W (by show b.toArray.size ≤ _; simp; omega)
  rw [show (⟨a.toArray⟩ : ByteArray).data.toList = a from rfl] at ca
  rw [show (⟨b.toArray⟩ : ByteArray).data.toList = b from rfl] at cb
  have Hn := Lib.hid ((New.refl w).alloc (.cells #[.string ⟨a.toArray⟩, .string ⟨b.toArray⟩] 25))
  unfold holdOk
  simp only
  rcases hx : wordOk a with _ | _
  · rw [hx] at ca
    have Ca := Lib.hid ca
    clear ca cb hx
    rw [Bool.false_and]
    go_enter Try.func37, Try.ntmps37
    go_wp2_with fail
    refine (Ca.out _).mono ?_
    rintro e w1 ⟨rfl, rfl⟩
    go_wp2_with fail
    go_ret
    exact ⟨rfl, Hn.out⟩
  · rw [hx] at ca
    have Ca := Lib.hid ca
    have Cb := Lib.hid cb
    clear ca cb hx
    rw [Bool.true_and]
    generalize wordOk b = z at *
    go_enter Try.func37, Try.ntmps37
    go_wp2_with fail
    refine (Ca.out _).mono ?_
    rintro e w1 ⟨rfl, rfl⟩
    go_wp2_with fail
    refine (Cb.out _).mono ?_
    rintro e w1 ⟨rfl, rfl⟩
    go_wp2_with fail
    go_ret
    exact ⟨rfl, Hn.out⟩
set_option maxRecDepth 4000 in
set_option maxHeartbeats 1000000 in
theorem specHold (o : HoldR) (w : World) (hs : HSm o) :
    Calls Try.prog 41 #[.agg #[.string ⟨o.snap.toArray⟩, .string ⟨o.tag.toArray⟩]] w fun e w' => e = .returned (.bool (holdOk o)) ∧ New w w' := by
  obtain ⟨a, b⟩ := o
  obtain ⟨h1, h2⟩ := hs
  simp only at h1 h2 ⊢
  have ca := fun (W : World) => specWord ⟨a.toArray⟩ W (by show a.toArray.size ≤ _; simp; omega)
  have cb := fun (W : World) => specWord ⟨b.toArray⟩ W (by show b.toArray.size ≤ _; simp; omega)
  rw [show (⟨a.toArray⟩ : ByteArray).data.toList = a from rfl] at ca
  rw [show (⟨b.toArray⟩ : ByteArray).data.toList = b from rfl] at cb
  have Hn := Lib.hid ((New.refl w).alloc (.cells #[.string ⟨a.toArray⟩, .string ⟨b.toArray⟩] 25))
  unfold holdOk
  simp only
  rcases hx : wordOk a with _ | _
  · rw [hx] at ca
    have Ca := Lib.hid ca
    clear ca cb hx
    rw [Bool.false_and]
    go_enter Try.func41, Try.ntmps41
    go_wp2_with fail
    refine (Ca.out _).mono ?_
    rintro e w1 ⟨rfl, rfl⟩
    go_wp2_with fail
    go_ret
    exact ⟨rfl, Hn.out⟩
  · rw [hx] at ca
    have Ca := Lib.hid ca
    have Cb := Lib.hid cb
    clear ca cb hx
    rw [Bool.true_and]
    generalize wordOk b = z at *
    go_enter Try.func41, Try.ntmps41
    go_wp2_with fail
    refine (Ca.out _).mono ?_
    rintro e w1 ⟨rfl, rfl⟩
    go_wp2_with fail
    refine (Cb.out _).mono ?_
    rintro e w1 ⟨rfl, rfl⟩
    go_wp2_with fail
    go_ret
    exact ⟨rfl, Hn.out⟩

set_option maxRecDepth 4000 in
set_option maxHeartbeats 2000000 in
theorem specHolds {S : Nat → Prop} (v : Value) (os : List HoldR) (w : World) (h : Holds S w v os) (hs : ∀ o ∈ os, HSm o) :
    Calls Try.prog 20 #[v] w fun e w' => e = .returned (.bool (holdsOk os)) ∧ New w w' := by
  have h0 := h
  obtain ⟨-, a, c, rfl, h1, h2, -⟩ := h
  unfold maxLen at h2
  have hat := fun (W : World) (n : New w W) (k : Nat) (o : HoldR) (ho : os[k]? = some o) => Holds.at (Recs.new h0 n) ho
  have Hat := Lib.hid hat
  have Hs := Lib.hid hs
  have Hspec := Lib.hid specHold
  have Hbef := Lib.hid specBefore
  clear hat hs
  go_enter Try.func20, Try.ntmps20
  go_wp2_with fail
  go_loopg [3] os.length (fun gk i wr => ∃ (k : Nat), gk = os.length - k ∧ k ≤ os.length ∧ i = .int .i64 k ∧ New w wr ∧ okFrom none os = okFrom (prevAt os k) (os.drop k))
  case atStart => exact ⟨0, by omega, by omega, rfl, New.refl _, rfl⟩
  case round =>
    obtain ⟨k, hgk, hk, rfl, hn, ha⟩ := hrel
    have Hgk := Lib.hid hgk
    have Ha := Lib.hid ha
    clear hgk ha
    by_cases hlt : k < os.length
    · obtain ⟨o, ho⟩ := get_of hlt
      obtain ⟨b, off, c', e1, hb, c0, c1, -, -⟩ := Hat.out wr hn k o ho
      simp only [Value.slice.injEq] at e1
      obtain ⟨rfl, -, rfl⟩ := e1
      have hcall := fun (W : World) => Hspec.out o W (Hs.out o (List.mem_of_getElem? ho))
      have hdrop := drop_of ho
      have hstep : okFrom none os = (okAt (prevAt os k) o && okFrom (some o) (os.drop (k + 1))) := by rw [Ha.out, hdrop]; rfl
      unfold txt at c0 c1
      have n1 : New w wr.drew := hn.drew
      have k0 : wr.drew.cell? ⟨b, off + k * 2, none⟩ = some (.string ⟨o.snap.toArray⟩) := c0
      have k1 : wr.drew.cell? ⟨b, off + k * 2 + 1, none⟩ = some (.string ⟨o.tag.toArray⟩) := c1
      have Hp := Lib.hid (prevAt_succ ho)
      rcases hok : holdOk o with _ | _
      · rw [hok] at hcall
        have Hcall := Lib.hid hcall
        have hr : holdsOk os = false := by unfold holdsOk; rw [hstep]; simp [okAt, hok]
        have Hr := Lib.hid hr
        clear hcall ho hdrop hok hstep hr
        go_wp2_with fail
        refine wp_region_held_drew (S := (fun w' => w'.cell? ⟨b, off + k * 2, none⟩ = some (.string ⟨o.snap.toArray⟩) ∧ w'.cell? ⟨b, off + k * 2 + 1, none⟩ = some (.string ⟨o.tag.toArray⟩))) (by kernel_rfl) ?_ (fun hHeld => ?_)
        · exact ⟨k0, k1⟩
        refine wpAnyH_take (i := 0) (v := ?_) (oi := ?_) ?hi_1 ?hs_1 ?hf_1 ?hr_1 ?hQ_1 ?hy_1 ?hS_1 ?h_1
        case hi_1 => (simp only [List.getElem?_toArray, List.getElem?_cons_zero] <;> rfl)
        case hs_1 => kernel_rfl
        case hf_1 => kernel_rfl
        case hr_1 => kernel_rfl
        case hQ_1 => exact fun _ _ _ h => h
        case hy_1 => (refine Or.inl ⟨by rfl, ?_⟩; intro w hSw; (try dsimp only at hSw); go_simp; try with_reducible rfl)
        case hS_1 => assumption
        try go_frame
        refine wpAnyH_take (i := 1) (v := ?_) (oi := ?_) ?hi_2 ?hs_2 ?hf_2 ?hr_2 ?hQ_2 ?hy_2 ?hS_2 ?h_2
        case hi_2 => (simp only [List.getElem?_toArray, List.getElem?_cons_zero, List.getElem?_cons_succ] <;> rfl)
        case hs_2 => kernel_rfl
        case hf_2 => kernel_rfl
        case hr_2 => kernel_rfl
        case hQ_2 => exact fun _ _ _ h => h
        case hy_2 => (refine Or.inl ⟨by rfl, ?_⟩; intro w hSw; (try dsimp only at hSw); go_simp; try with_reducible rfl)
        case hS_2 => assumption
        try go_frame
        refine wpAnyH_take (i := 2) (v := ?_) (oi := ?_) ?hi_3 ?hs_3 ?hf_3 ?hr_3 ?hQ_3 ?hy_3 ?hS_3 ?h_3
        case hi_3 => (simp only [List.getElem?_toArray, List.getElem?_cons_zero, List.getElem?_cons_succ] <;> rfl)
        case hs_3 => kernel_rfl
        case hf_3 => kernel_rfl
        case hr_3 => kernel_rfl
        case hQ_3 => exact fun _ _ _ h => h
        case hy_3 => (refine Or.inl ⟨by rfl, ?_⟩; intro w hSw; (try dsimp only at hSw); go_simp; try with_reducible rfl)
        case hS_3 => assumption
        try go_frame
        refine wpAnyH_take (i := 3) (v := ?_) (oi := ?_) ?hi_4 ?hs_4 ?hf_4 ?hr_4 ?hQ_4 ?hy_4 ?hS_4 ?h_4
        case hi_4 => (simp only [List.getElem?_toArray, List.getElem?_cons_zero, List.getElem?_cons_succ] <;> rfl)
        case hs_4 => kernel_rfl
        case hf_4 => kernel_rfl
        case hr_4 => kernel_rfl
        case hQ_4 => exact fun _ _ _ h => h
        case hy_4 => (refine Or.inl ⟨by rfl, ?_⟩; intro w hSw; (try dsimp only at hSw); go_simp; try with_reducible rfl)
        case hS_4 => assumption
        try go_frame
        refine wpAnyH_ready (rs := [4]) (by kernel_rfl) (by simp) ?_
        refine AllReadyH.cons (o := ?_) ?hi_5 (fun K hK => ?h_5) AllReadyH.nil
        case hi_5 => (simp only [List.getElem?_toArray, List.getElem?_cons_zero, List.getElem?_cons_succ] <;> rfl)
        go_simp
        (refine (Hcall.out _).mono ?_; rintro e w2 ⟨rfl, n2⟩; go_wp2_with fail)
        refine hK.out _ _ ?_ (fun hHeld => ?_)
        · exact ⟨n2.cell k0, n2.cell k1⟩
        clear hK K
        try go_frame
        refine wpAnyH_take (i := 5) (v := ?_) (oi := ?_) ?hi_6 ?hs_6 ?hf_6 ?hr_6 ?hQ_6 ?hy_6 ?hS_6 ?h_6
        case hi_6 => (simp only [List.getElem?_toArray, List.getElem?_cons_zero, List.getElem?_cons_succ] <;> rfl)
        case hs_6 => kernel_rfl
        case hf_6 => kernel_rfl
        case hr_6 => kernel_rfl
        case hQ_6 => exact fun _ _ _ h => h
        case hy_6 => (refine Or.inl ⟨by rfl, ?_⟩; intro w hSw; (try dsimp only at hSw); go_simp; try with_reducible rfl)
        case hS_6 => assumption
        try go_frame
        refine wpAnyH_take (i := 6) (v := ?_) (oi := ?_) ?hi_7 ?hs_7 ?hf_7 ?hr_7 ?hQ_7 ?hy_7 ?hS_7 ?h_7
        case hi_7 => (simp only [List.getElem?_toArray, List.getElem?_cons_zero, List.getElem?_cons_succ] <;> rfl)
        case hs_7 => kernel_rfl
        case hf_7 => kernel_rfl
        case hr_7 => kernel_rfl
        case hQ_7 => exact fun _ _ _ h => h
        case hy_7 => (refine Or.inl ⟨by rfl, ?_⟩; intro w hSw; (try dsimp only at hSw); go_simp; try with_reducible rfl)
        case hS_7 => assumption
        try go_frame
        refine wpAnyH_take (i := 7) (v := undef) (oi := ?_) ?hi_8 ?hs_8 ?hf_8 ?hr_8 ?hQ_8 ?hy_8 ?hS_8 ?h_8
        case hi_8 => (simp only [List.getElem?_toArray, List.getElem?_cons_zero, List.getElem?_cons_succ] <;> rfl)
        case hs_8 => kernel_rfl
        case hf_8 => kernel_rfl
        case hr_8 => kernel_rfl
        case hQ_8 => exact fun _ _ _ h => h
        case hy_8 => exact Or.inr ⟨by rfl, rfl⟩
        case hS_8 => assumption
        try go_frame
        refine wpAnyH_take (i := 8) (v := undef) (oi := ?_) ?hi_9 ?hs_9 ?hf_9 ?hr_9 ?hQ_9 ?hy_9 ?hS_9 ?h_9
        case hi_9 => (simp only [List.getElem?_toArray, List.getElem?_cons_zero, List.getElem?_cons_succ] <;> rfl)
        case hs_9 => kernel_rfl
        case hf_9 => kernel_rfl
        case hr_9 => kernel_rfl
        case hQ_9 => exact fun _ _ _ h => h
        case hy_9 => exact Or.inr ⟨by rfl, rfl⟩
        case hS_9 => assumption
        try go_frame
        refine wpAnyH_take (i := 9) (v := undef) (oi := ?_) ?hi_10 ?hs_10 ?hf_10 ?hr_10 ?hQ_10 ?hy_10 ?hS_10 ?h_10
        case hi_10 => (simp only [List.getElem?_toArray, List.getElem?_cons_zero, List.getElem?_cons_succ] <;> rfl)
        case hs_10 => kernel_rfl
        case hf_10 => kernel_rfl
        case hr_10 => kernel_rfl
        case hQ_10 => exact fun _ _ _ h => h
        case hy_10 => exact Or.inr ⟨by rfl, rfl⟩
        case hS_10 => assumption
        try go_frame
        refine wpAnyH_take (i := 10) (v := undef) (oi := ?_) ?hi_11 ?hs_11 ?hf_11 ?hr_11 ?hQ_11 ?hy_11 ?hS_11 ?h_11
        case hi_11 => (simp only [List.getElem?_toArray, List.getElem?_cons_zero, List.getElem?_cons_succ] <;> rfl)
        case hs_11 => kernel_rfl
        case hf_11 => kernel_rfl
        case hr_11 => kernel_rfl
        case hQ_11 => exact fun _ _ _ h => h
        case hy_11 => exact Or.inr ⟨by rfl, rfl⟩
        case hS_11 => assumption
        try go_frame
        refine wpAnyH_take (i := 11) (v := undef) (oi := ?_) ?hi_12 ?hs_12 ?hf_12 ?hr_12 ?hQ_12 ?hy_12 ?hS_12 ?h_12
        case hi_12 => (simp only [List.getElem?_toArray, List.getElem?_cons_zero, List.getElem?_cons_succ] <;> rfl)
        case hs_12 => kernel_rfl
        case hf_12 => kernel_rfl
        case hr_12 => kernel_rfl
        case hQ_12 => exact fun _ _ _ h => h
        case hy_12 => exact Or.inr ⟨by rfl, rfl⟩
        case hS_12 => assumption
        try go_frame
        refine wpAnyH_take (i := 12) (v := undef) (oi := ?_) ?hi_13 ?hs_13 ?hf_13 ?hr_13 ?hQ_13 ?hy_13 ?hS_13 ?h_13
        case hi_13 => (simp only [List.getElem?_toArray, List.getElem?_cons_zero, List.getElem?_cons_succ] <;> rfl)
        case hs_13 => kernel_rfl
        case hf_13 => kernel_rfl
        case hr_13 => kernel_rfl
        case hQ_13 => exact fun _ _ _ h => h
        case hy_13 => exact Or.inr ⟨by rfl, rfl⟩
        case hS_13 => assumption
        try go_frame
        refine wpAnyH_take (i := 13) (v := undef) (oi := ?_) ?hi_14 ?hs_14 ?hf_14 ?hr_14 ?hQ_14 ?hy_14 ?hS_14 ?h_14
        case hi_14 => (simp only [List.getElem?_toArray, List.getElem?_cons_zero, List.getElem?_cons_succ] <;> rfl)
        case hs_14 => kernel_rfl
        case hf_14 => kernel_rfl
        case hr_14 => kernel_rfl
        case hQ_14 => exact fun _ _ _ h => h
        case hy_14 => exact Or.inr ⟨by rfl, rfl⟩
        case hS_14 => assumption
        try go_frame
        refine wpAnyH_take (i := 14) (v := undef) (oi := ?_) ?hi_15 ?hs_15 ?hf_15 ?hr_15 ?hQ_15 ?hy_15 ?hS_15 ?h_15
        case hi_15 => (simp only [List.getElem?_toArray, List.getElem?_cons_zero, List.getElem?_cons_succ] <;> rfl)
        case hs_15 => kernel_rfl
        case hf_15 => kernel_rfl
        case hr_15 => kernel_rfl
        case hQ_15 => exact fun _ _ _ h => h
        case hy_15 => exact Or.inr ⟨by rfl, rfl⟩
        case hS_15 => assumption
        try go_frame
        refine wpAnyH_take (i := 15) (v := undef) (oi := ?_) ?hi_16 ?hs_16 ?hf_16 ?hr_16 ?hQ_16 ?hy_16 ?hS_16 ?h_16
        case hi_16 => (simp only [List.getElem?_toArray, List.getElem?_cons_zero, List.getElem?_cons_succ] <;> rfl)
        case hs_16 => kernel_rfl
        case hf_16 => kernel_rfl
        case hr_16 => kernel_rfl
        case hQ_16 => exact fun _ _ _ h => h
        case hy_16 => exact Or.inr ⟨by rfl, rfl⟩
        case hS_16 => assumption
        try go_frame
        refine wpAnyH_take (i := 16) (v := undef) (oi := ?_) ?hi_17 ?hs_17 ?hf_17 ?hr_17 ?hQ_17 ?hy_17 ?hS_17 ?h_17
        case hi_17 => (simp only [List.getElem?_toArray, List.getElem?_cons_zero, List.getElem?_cons_succ] <;> rfl)
        case hs_17 => kernel_rfl
        case hf_17 => kernel_rfl
        case hr_17 => kernel_rfl
        case hQ_17 => exact fun _ _ _ h => h
        case hy_17 => exact Or.inr ⟨by rfl, rfl⟩
        case hS_17 => assumption
        try go_frame
        refine wpAnyH_take (i := 17) (v := undef) (oi := ?_) ?hi_18 ?hs_18 ?hf_18 ?hr_18 ?hQ_18 ?hy_18 ?hS_18 ?h_18
        case hi_18 => (simp only [List.getElem?_toArray, List.getElem?_cons_zero, List.getElem?_cons_succ] <;> rfl)
        case hs_18 => kernel_rfl
        case hf_18 => kernel_rfl
        case hr_18 => kernel_rfl
        case hQ_18 => exact fun _ _ _ h => h
        case hy_18 => exact Or.inr ⟨by rfl, rfl⟩
        case hS_18 => assumption
        try go_frame
        refine wpAnyH_take (i := 18) (v := undef) (oi := ?_) ?hi_19 ?hs_19 ?hf_19 ?hr_19 ?hQ_19 ?hy_19 ?hS_19 ?h_19
        case hi_19 => (simp only [List.getElem?_toArray, List.getElem?_cons_zero, List.getElem?_cons_succ] <;> rfl)
        case hs_19 => kernel_rfl
        case hf_19 => kernel_rfl
        case hr_19 => kernel_rfl
        case hQ_19 => exact fun _ _ _ h => h
        case hy_19 => exact Or.inr ⟨by rfl, rfl⟩
        case hS_19 => assumption
        try go_frame
        refine wpAnyH_ready (rs := [19]) (by kernel_rfl) (by simp) ?_
        refine AllReadyH.cons (o := ?_) ?hi_20 (fun K hK => ?h_20) AllReadyH.nil
        case hi_20 => (simp only [List.getElem?_toArray, List.getElem?_cons_zero, List.getElem?_cons_succ] <;> rfl)
        go_simp
        refine hK.out _ _ ?_ (fun hHeld => ?_)
        · exact ⟨n2.cell k0, n2.cell k1⟩
        clear hK K
        try go_frame
        refine wpAnyH_take (i := 20) (v := undef) (oi := ?_) ?hi_21 ?hs_21 ?hf_21 ?hr_21 ?hQ_21 ?hy_21 ?hS_21 ?h_21
        case hi_21 => (simp only [List.getElem?_toArray, List.getElem?_cons_zero, List.getElem?_cons_succ] <;> rfl)
        case hs_21 => kernel_rfl
        case hf_21 => kernel_rfl
        case hr_21 => kernel_rfl
        case hQ_21 => exact fun _ _ _ h => h
        case hy_21 => exact Or.inr ⟨by rfl, rfl⟩
        case hS_21 => assumption
        try go_frame
        refine wpAnyH_take (i := 21) (v := undef) (oi := ?_) ?hi_22 ?hs_22 ?hf_22 ?hr_22 ?hQ_22 ?hy_22 ?hS_22 ?h_22
        case hi_22 => (simp only [List.getElem?_toArray, List.getElem?_cons_zero, List.getElem?_cons_succ] <;> rfl)
        case hs_22 => kernel_rfl
        case hf_22 => kernel_rfl
        case hr_22 => kernel_rfl
        case hQ_22 => exact fun _ _ _ h => h
        case hy_22 => exact Or.inr ⟨by rfl, rfl⟩
        case hS_22 => assumption
        try go_frame
        refine wpAnyH_take (i := 22) (v := ?_) (oi := ?_) ?hi_23 ?hs_23 ?hf_23 ?hr_23 ?hQ_23 ?hy_23 ?hS_23 ?h_23
        case hi_23 => (simp only [List.getElem?_toArray, List.getElem?_cons_zero, List.getElem?_cons_succ] <;> rfl)
        case hs_23 => kernel_rfl
        case hf_23 => kernel_rfl
        case hr_23 => kernel_rfl
        case hQ_23 => exact fun _ _ _ h => h
        case hy_23 => (refine Or.inl ⟨by rfl, ?_⟩; intro w hSw; (try dsimp only at hSw); go_simp; try with_reducible rfl)
        case hS_23 => assumption
        try go_frame
        refine wpAnyH_done (by kernel_rfl) ?_ _
        go_wp2_with fail
        go_ret
        exact ⟨ret_bool Hr.out.symm, n1.trans n2⟩
      · rw [hok] at hcall
        have Hcall := Lib.hid hcall
        by_cases hk0 : k = 0
        · have hr : okFrom none os = okFrom (prevAt os (k + 1)) (os.drop (k + 1)) := by
            rw [Hp.out, hstep]
            simp [okAt, hok, prevAt, hk0]
          have Hr := Lib.hid hr
          have hkd : decide ((0 : Int) < (k : Int)) = false := by simp; omega
          have hkd2 : ¬ (0 < k) := by omega
          have Hk0 := Lib.hid hk0
          clear hk0
          clear hcall ho hdrop hok hstep hr
          go_wp2_with fail
          refine wp_region_held_drew (S := (fun w' => w'.cell? ⟨b, off + k * 2, none⟩ = some (.string ⟨o.snap.toArray⟩) ∧ w'.cell? ⟨b, off + k * 2 + 1, none⟩ = some (.string ⟨o.tag.toArray⟩))) (by kernel_rfl) ?_ (fun hHeld => ?_)
          · exact ⟨k0, k1⟩
          refine wpAnyH_take (i := 0) (v := ?_) (oi := ?_) ?hi_24 ?hs_24 ?hf_24 ?hr_24 ?hQ_24 ?hy_24 ?hS_24 ?h_24
          case hi_24 => (simp only [List.getElem?_toArray, List.getElem?_cons_zero] <;> rfl)
          case hs_24 => kernel_rfl
          case hf_24 => kernel_rfl
          case hr_24 => kernel_rfl
          case hQ_24 => exact fun _ _ _ h => h
          case hy_24 => (refine Or.inl ⟨by rfl, ?_⟩; intro w hSw; (try dsimp only at hSw); go_simp; try with_reducible rfl)
          case hS_24 => assumption
          try go_frame
          refine wpAnyH_take (i := 1) (v := ?_) (oi := ?_) ?hi_25 ?hs_25 ?hf_25 ?hr_25 ?hQ_25 ?hy_25 ?hS_25 ?h_25
          case hi_25 => (simp only [List.getElem?_toArray, List.getElem?_cons_zero, List.getElem?_cons_succ] <;> rfl)
          case hs_25 => kernel_rfl
          case hf_25 => kernel_rfl
          case hr_25 => kernel_rfl
          case hQ_25 => exact fun _ _ _ h => h
          case hy_25 => (refine Or.inl ⟨by rfl, ?_⟩; intro w hSw; (try dsimp only at hSw); go_simp; try with_reducible rfl)
          case hS_25 => assumption
          try go_frame
          refine wpAnyH_take (i := 2) (v := ?_) (oi := ?_) ?hi_26 ?hs_26 ?hf_26 ?hr_26 ?hQ_26 ?hy_26 ?hS_26 ?h_26
          case hi_26 => (simp only [List.getElem?_toArray, List.getElem?_cons_zero, List.getElem?_cons_succ] <;> rfl)
          case hs_26 => kernel_rfl
          case hf_26 => kernel_rfl
          case hr_26 => kernel_rfl
          case hQ_26 => exact fun _ _ _ h => h
          case hy_26 => (refine Or.inl ⟨by rfl, ?_⟩; intro w hSw; (try dsimp only at hSw); go_simp; try with_reducible rfl)
          case hS_26 => assumption
          try go_frame
          refine wpAnyH_take (i := 3) (v := ?_) (oi := ?_) ?hi_27 ?hs_27 ?hf_27 ?hr_27 ?hQ_27 ?hy_27 ?hS_27 ?h_27
          case hi_27 => (simp only [List.getElem?_toArray, List.getElem?_cons_zero, List.getElem?_cons_succ] <;> rfl)
          case hs_27 => kernel_rfl
          case hf_27 => kernel_rfl
          case hr_27 => kernel_rfl
          case hQ_27 => exact fun _ _ _ h => h
          case hy_27 => (refine Or.inl ⟨by rfl, ?_⟩; intro w hSw; (try dsimp only at hSw); go_simp; try with_reducible rfl)
          case hS_27 => assumption
          try go_frame
          refine wpAnyH_ready (rs := [4]) (by kernel_rfl) (by simp) ?_
          refine AllReadyH.cons (o := ?_) ?hi_28 (fun K hK => ?h_28) AllReadyH.nil
          case hi_28 => (simp only [List.getElem?_toArray, List.getElem?_cons_zero, List.getElem?_cons_succ] <;> rfl)
          go_simp
          (refine (Hcall.out _).mono ?_; rintro e w2 ⟨rfl, n2⟩; go_wp2_with fail)
          refine hK.out _ _ ?_ (fun hHeld => ?_)
          · exact ⟨n2.cell k0, n2.cell k1⟩
          clear hK K
          try go_frame
          refine wpAnyH_take (i := 5) (v := ?_) (oi := ?_) ?hi_29 ?hs_29 ?hf_29 ?hr_29 ?hQ_29 ?hy_29 ?hS_29 ?h_29
          case hi_29 => (simp only [List.getElem?_toArray, List.getElem?_cons_zero, List.getElem?_cons_succ] <;> rfl)
          case hs_29 => kernel_rfl
          case hf_29 => kernel_rfl
          case hr_29 => kernel_rfl
          case hQ_29 => exact fun _ _ _ h => h
          case hy_29 => (refine Or.inl ⟨by rfl, ?_⟩; intro w hSw; (try dsimp only at hSw); go_simp; try with_reducible rfl)
          case hS_29 => assumption
          try go_frame
          refine wpAnyH_take (i := 6) (v := ?_) (oi := ?_) ?hi_30 ?hs_30 ?hf_30 ?hr_30 ?hQ_30 ?hy_30 ?hS_30 ?h_30
          case hi_30 => (simp only [List.getElem?_toArray, List.getElem?_cons_zero, List.getElem?_cons_succ] <;> rfl)
          case hs_30 => kernel_rfl
          case hf_30 => kernel_rfl
          case hr_30 => kernel_rfl
          case hQ_30 => exact fun _ _ _ h => h
          case hy_30 => (refine Or.inl ⟨by rfl, ?_⟩; intro w hSw; (try dsimp only at hSw); go_simp; try with_reducible rfl)
          case hS_30 => assumption
          try go_frame
          refine wpAnyH_take (i := 7) (v := ?_) (oi := ?_) ?hi_31 ?hs_31 ?hf_31 ?hr_31 ?hQ_31 ?hy_31 ?hS_31 ?h_31
          case hi_31 => (simp only [List.getElem?_toArray, List.getElem?_cons_zero, List.getElem?_cons_succ] <;> rfl)
          case hs_31 => kernel_rfl
          case hf_31 => kernel_rfl
          case hr_31 => kernel_rfl
          case hQ_31 => exact fun _ _ _ h => h
          case hy_31 => (refine Or.inl ⟨by rfl, ?_⟩; intro w hSw; (try dsimp only at hSw); go_simp; try with_reducible rfl)
          case hS_31 => assumption
          try go_frame
          refine wpAnyH_take (i := 8) (v := ?_) (oi := ?_) ?hi_32 ?hs_32 ?hf_32 ?hr_32 ?hQ_32 ?hy_32 ?hS_32 ?h_32
          case hi_32 => (simp only [List.getElem?_toArray, List.getElem?_cons_zero, List.getElem?_cons_succ] <;> rfl)
          case hs_32 => kernel_rfl
          case hf_32 => kernel_rfl
          case hr_32 => kernel_rfl
          case hQ_32 => exact fun _ _ _ h => h
          case hy_32 => (refine Or.inl ⟨by rfl, ?_⟩; intro w hSw; (try dsimp only at hSw); go_simp; try with_reducible rfl)
          case hS_32 => assumption
          try go_frame
          refine wpAnyH_take (i := 9) (v := ?_) (oi := ?_) ?hi_33 ?hs_33 ?hf_33 ?hr_33 ?hQ_33 ?hy_33 ?hS_33 ?h_33
          case hi_33 => (simp only [List.getElem?_toArray, List.getElem?_cons_zero, List.getElem?_cons_succ] <;> rfl)
          case hs_33 => kernel_rfl
          case hf_33 => kernel_rfl
          case hr_33 => kernel_rfl
          case hQ_33 => exact fun _ _ _ h => h
          case hy_33 => (refine Or.inl ⟨by rfl, ?_⟩; intro w hSw; (try dsimp only at hSw); go_simp; try with_reducible rfl)
          case hS_33 => assumption
          try go_frame
          refine wpAnyH_take (i := 10) (v := undef) (oi := ?_) ?hi_34 ?hs_34 ?hf_34 ?hr_34 ?hQ_34 ?hy_34 ?hS_34 ?h_34
          case hi_34 => (simp only [List.getElem?_toArray, List.getElem?_cons_zero, List.getElem?_cons_succ] <;> rfl)
          case hs_34 => kernel_rfl
          case hf_34 => kernel_rfl
          case hr_34 => kernel_rfl
          case hQ_34 => exact fun _ _ _ h => h
          case hy_34 => exact Or.inr ⟨by rfl, rfl⟩
          case hS_34 => assumption
          try go_frame
          refine wpAnyH_take (i := 11) (v := undef) (oi := ?_) ?hi_35 ?hs_35 ?hf_35 ?hr_35 ?hQ_35 ?hy_35 ?hS_35 ?h_35
          case hi_35 => (simp only [List.getElem?_toArray, List.getElem?_cons_zero, List.getElem?_cons_succ] <;> rfl)
          case hs_35 => kernel_rfl
          case hf_35 => kernel_rfl
          case hr_35 => kernel_rfl
          case hQ_35 => exact fun _ _ _ h => h
          case hy_35 => exact Or.inr ⟨by rfl, rfl⟩
          case hS_35 => assumption
          try go_frame
          refine wpAnyH_take (i := 12) (v := undef) (oi := ?_) ?hi_36 ?hs_36 ?hf_36 ?hr_36 ?hQ_36 ?hy_36 ?hS_36 ?h_36
          case hi_36 => (simp only [List.getElem?_toArray, List.getElem?_cons_zero, List.getElem?_cons_succ] <;> rfl)
          case hs_36 => kernel_rfl
          case hf_36 => kernel_rfl
          case hr_36 => kernel_rfl
          case hQ_36 => exact fun _ _ _ h => h
          case hy_36 => exact Or.inr ⟨by rfl, rfl⟩
          case hS_36 => assumption
          try go_frame
          refine wpAnyH_take (i := 13) (v := undef) (oi := ?_) ?hi_37 ?hs_37 ?hf_37 ?hr_37 ?hQ_37 ?hy_37 ?hS_37 ?h_37
          case hi_37 => (simp only [List.getElem?_toArray, List.getElem?_cons_zero, List.getElem?_cons_succ] <;> rfl)
          case hs_37 => kernel_rfl
          case hf_37 => kernel_rfl
          case hr_37 => kernel_rfl
          case hQ_37 => exact fun _ _ _ h => h
          case hy_37 => exact Or.inr ⟨by rfl, rfl⟩
          case hS_37 => assumption
          try go_frame
          refine wpAnyH_take (i := 14) (v := undef) (oi := ?_) ?hi_38 ?hs_38 ?hf_38 ?hr_38 ?hQ_38 ?hy_38 ?hS_38 ?h_38
          case hi_38 => (simp only [List.getElem?_toArray, List.getElem?_cons_zero, List.getElem?_cons_succ] <;> rfl)
          case hs_38 => kernel_rfl
          case hf_38 => kernel_rfl
          case hr_38 => kernel_rfl
          case hQ_38 => exact fun _ _ _ h => h
          case hy_38 => exact Or.inr ⟨by rfl, rfl⟩
          case hS_38 => assumption
          try go_frame
          refine wpAnyH_take (i := 15) (v := undef) (oi := ?_) ?hi_39 ?hs_39 ?hf_39 ?hr_39 ?hQ_39 ?hy_39 ?hS_39 ?h_39
          case hi_39 => (simp only [List.getElem?_toArray, List.getElem?_cons_zero, List.getElem?_cons_succ] <;> rfl)
          case hs_39 => kernel_rfl
          case hf_39 => kernel_rfl
          case hr_39 => kernel_rfl
          case hQ_39 => exact fun _ _ _ h => h
          case hy_39 => exact Or.inr ⟨by rfl, rfl⟩
          case hS_39 => assumption
          try go_frame
          refine wpAnyH_take (i := 16) (v := undef) (oi := ?_) ?hi_40 ?hs_40 ?hf_40 ?hr_40 ?hQ_40 ?hy_40 ?hS_40 ?h_40
          case hi_40 => (simp only [List.getElem?_toArray, List.getElem?_cons_zero, List.getElem?_cons_succ] <;> rfl)
          case hs_40 => kernel_rfl
          case hf_40 => kernel_rfl
          case hr_40 => kernel_rfl
          case hQ_40 => exact fun _ _ _ h => h
          case hy_40 => exact Or.inr ⟨by rfl, rfl⟩
          case hS_40 => assumption
          try go_frame
          refine wpAnyH_take (i := 17) (v := undef) (oi := ?_) ?hi_41 ?hs_41 ?hf_41 ?hr_41 ?hQ_41 ?hy_41 ?hS_41 ?h_41
          case hi_41 => (simp only [List.getElem?_toArray, List.getElem?_cons_zero, List.getElem?_cons_succ] <;> rfl)
          case hs_41 => kernel_rfl
          case hf_41 => kernel_rfl
          case hr_41 => kernel_rfl
          case hQ_41 => exact fun _ _ _ h => h
          case hy_41 => exact Or.inr ⟨by rfl, rfl⟩
          case hS_41 => assumption
          try go_frame
          refine wpAnyH_take (i := 18) (v := undef) (oi := ?_) ?hi_42 ?hs_42 ?hf_42 ?hr_42 ?hQ_42 ?hy_42 ?hS_42 ?h_42
          case hi_42 => (simp only [List.getElem?_toArray, List.getElem?_cons_zero, List.getElem?_cons_succ] <;> rfl)
          case hs_42 => kernel_rfl
          case hf_42 => kernel_rfl
          case hr_42 => kernel_rfl
          case hQ_42 => exact fun _ _ _ h => h
          case hy_42 => exact Or.inr ⟨by rfl, rfl⟩
          case hS_42 => assumption
          try go_frame
          refine wpAnyH_ready (rs := [19]) (by kernel_rfl) (by simp) ?_
          refine AllReadyH.cons (o := ?_) ?hi_43 (fun K hK => ?h_43) AllReadyH.nil
          case hi_43 => (simp only [List.getElem?_toArray, List.getElem?_cons_zero, List.getElem?_cons_succ] <;> rfl)
          go_simp
          refine hK.out _ _ ?_ (fun hHeld => ?_)
          · exact ⟨n2.cell k0, n2.cell k1⟩
          clear hK K
          try go_frame
          refine wpAnyH_take (i := 20) (v := undef) (oi := ?_) ?hi_44 ?hs_44 ?hf_44 ?hr_44 ?hQ_44 ?hy_44 ?hS_44 ?h_44
          case hi_44 => (simp only [List.getElem?_toArray, List.getElem?_cons_zero, List.getElem?_cons_succ] <;> rfl)
          case hs_44 => kernel_rfl
          case hf_44 => kernel_rfl
          case hr_44 => kernel_rfl
          case hQ_44 => exact fun _ _ _ h => h
          case hy_44 => exact Or.inr ⟨by rfl, rfl⟩
          case hS_44 => assumption
          try go_frame
          refine wpAnyH_take (i := 21) (v := ?_) (oi := ?_) ?hi_45 ?hs_45 ?hf_45 ?hr_45 ?hQ_45 ?hy_45 ?hS_45 ?h_45
          case hi_45 => (simp only [List.getElem?_toArray, List.getElem?_cons_zero, List.getElem?_cons_succ] <;> rfl)
          case hs_45 => kernel_rfl
          case hf_45 => kernel_rfl
          case hr_45 => kernel_rfl
          case hQ_45 => exact fun _ _ _ h => h
          case hy_45 => (refine Or.inl ⟨by rfl, ?_⟩; intro w hSw; (try dsimp only at hSw); go_simp; try with_reducible rfl)
          case hS_45 => assumption
          try go_frame
          refine wpAnyH_take (i := 22) (v := ?_) (oi := ?_) ?hi_46 ?hs_46 ?hf_46 ?hr_46 ?hQ_46 ?hy_46 ?hS_46 ?h_46
          case hi_46 => (simp only [List.getElem?_toArray, List.getElem?_cons_zero, List.getElem?_cons_succ] <;> rfl)
          case hs_46 => kernel_rfl
          case hf_46 => kernel_rfl
          case hr_46 => kernel_rfl
          case hQ_46 => exact fun _ _ _ h => h
          case hy_46 => (refine Or.inl ⟨by rfl, ?_⟩; intro w hSw; (try dsimp only at hSw); go_simp; try with_reducible rfl)
          case hS_46 => assumption
          try go_frame
          refine wpAnyH_done (by kernel_rfl) ?_ _
          go_wp2_with fail
          go_roundg (os.length - (k + 1))
          case measure => rw [Hgk.out]; omega
          case rel => exact ⟨k + 1, rfl, by omega, by go_num, n1.trans n2, Hr.out⟩
        · obtain ⟨m, rfl⟩ : ∃ m, k = m + 1 := ⟨k - 1, by omega⟩
          obtain ⟨y, hy⟩ := get_of (xs := os) (k := m) (by omega)
          obtain ⟨b', off', c'', e1, -, d0, d1, -, -⟩ := Hat.out wr hn m y hy
          simp only [Value.slice.injEq, Option.some.injEq, Addr.mk.injEq] at e1
          obtain ⟨⟨rfl, rfl, -⟩, -, rfl⟩ := e1
          generalize hkm : m + 1 = k at *
          unfold txt at d0 d1
          have k2 : wr.drew.cell? ⟨b, off + m * 2, none⟩ = some (.string ⟨y.snap.toArray⟩) := d0
          have k3 : wr.drew.cell? ⟨b, off + m * 2 + 1, none⟩ = some (.string ⟨y.tag.toArray⟩) := d1
          have hpv : prevAt os k = some y := by rw [← hkm]; exact prevAt_succ hy
          rw [hpv] at hstep
          have hbef := fun (W : World) => Hbef.out y o W
          unfold txt at hbef
          have hkd : decide ((0 : Int) < (k : Int)) = true := by simp; omega
          have hkd2 : 0 < k := by omega
          have hw1 : IntKind.i64.wrap ((k : Int) - 1) = (m : Int) := by
            have : (k : Int) - 1 = (m : Int) := by omega
            rw [this]
            exact IntWalk.i64_in _ (by omega)
          have hm0 : (0 : Int) ≤ (m : Int) := by omega
          have hm1 : (m : Int) < (os.length : Int) := by omega
          rcases hlt2 : hLt y o with _ | _
          · rw [hlt2] at hbef
            have Hb := Lib.hid hbef
            have hr : holdsOk os = false := by unfold holdsOk; rw [hstep]; simp [okAt, hok, hlt2]
            have Hr := Lib.hid hr
            clear hcall ho hdrop hok hstep hr hkm hpv hy hlt2 hbef c0 c1 d0 d1
            go_wp2_with fail
            refine wp_region_held_drew (S := (fun w' => (w'.cell? ⟨b, off + k * 2, none⟩ = some (.string ⟨o.snap.toArray⟩) ∧ w'.cell? ⟨b, off + k * 2 + 1, none⟩ = some (.string ⟨o.tag.toArray⟩)) ∧ w'.cell? ⟨b, off + m * 2, none⟩ = some (.string ⟨y.snap.toArray⟩) ∧ w'.cell? ⟨b, off + m * 2 + 1, none⟩ = some (.string ⟨y.tag.toArray⟩))) (by kernel_rfl) ?_ (fun hHeld => ?_)
            · exact ⟨⟨k0, k1⟩, k2, k3⟩
            refine wpAnyH_take (i := 0) (v := ?_) (oi := ?_) ?hi_47 ?hs_47 ?hf_47 ?hr_47 ?hQ_47 ?hy_47 ?hS_47 ?h_47
            case hi_47 => (simp only [List.getElem?_toArray, List.getElem?_cons_zero] <;> rfl)
            case hs_47 => kernel_rfl
            case hf_47 => kernel_rfl
            case hr_47 => kernel_rfl
            case hQ_47 => exact fun _ _ _ h => h
            case hy_47 => (refine Or.inl ⟨by rfl, ?_⟩; intro w hSw; (try dsimp only at hSw); go_simp; try with_reducible rfl)
            case hS_47 => assumption
            try go_frame
            refine wpAnyH_take (i := 1) (v := ?_) (oi := ?_) ?hi_48 ?hs_48 ?hf_48 ?hr_48 ?hQ_48 ?hy_48 ?hS_48 ?h_48
            case hi_48 => (simp only [List.getElem?_toArray, List.getElem?_cons_zero, List.getElem?_cons_succ] <;> rfl)
            case hs_48 => kernel_rfl
            case hf_48 => kernel_rfl
            case hr_48 => kernel_rfl
            case hQ_48 => exact fun _ _ _ h => h
            case hy_48 => (refine Or.inl ⟨by rfl, ?_⟩; intro w hSw; (try dsimp only at hSw); go_simp; try with_reducible rfl)
            case hS_48 => assumption
            try go_frame
            refine wpAnyH_take (i := 2) (v := ?_) (oi := ?_) ?hi_49 ?hs_49 ?hf_49 ?hr_49 ?hQ_49 ?hy_49 ?hS_49 ?h_49
            case hi_49 => (simp only [List.getElem?_toArray, List.getElem?_cons_zero, List.getElem?_cons_succ] <;> rfl)
            case hs_49 => kernel_rfl
            case hf_49 => kernel_rfl
            case hr_49 => kernel_rfl
            case hQ_49 => exact fun _ _ _ h => h
            case hy_49 => (refine Or.inl ⟨by rfl, ?_⟩; intro w hSw; (try dsimp only at hSw); go_simp; try with_reducible rfl)
            case hS_49 => assumption
            try go_frame
            refine wpAnyH_take (i := 3) (v := ?_) (oi := ?_) ?hi_50 ?hs_50 ?hf_50 ?hr_50 ?hQ_50 ?hy_50 ?hS_50 ?h_50
            case hi_50 => (simp only [List.getElem?_toArray, List.getElem?_cons_zero, List.getElem?_cons_succ] <;> rfl)
            case hs_50 => kernel_rfl
            case hf_50 => kernel_rfl
            case hr_50 => kernel_rfl
            case hQ_50 => exact fun _ _ _ h => h
            case hy_50 => (refine Or.inl ⟨by rfl, ?_⟩; intro w hSw; (try dsimp only at hSw); go_simp; try with_reducible rfl)
            case hS_50 => assumption
            try go_frame
            refine wpAnyH_ready (rs := [4]) (by kernel_rfl) (by simp) ?_
            refine AllReadyH.cons (o := ?_) ?hi_51 (fun K hK => ?h_51) AllReadyH.nil
            case hi_51 => (simp only [List.getElem?_toArray, List.getElem?_cons_zero, List.getElem?_cons_succ] <;> rfl)
            go_simp
            (refine (Hcall.out _).mono ?_; rintro e w2 ⟨rfl, n2⟩; go_wp2_with fail)
            refine hK.out _ _ ?_ (fun hHeld => ?_)
            · exact ⟨⟨n2.cell k0, n2.cell k1⟩, n2.cell k2, n2.cell k3⟩
            clear hK K
            try go_frame
            refine wpAnyH_take (i := 5) (v := ?_) (oi := ?_) ?hi_52 ?hs_52 ?hf_52 ?hr_52 ?hQ_52 ?hy_52 ?hS_52 ?h_52
            case hi_52 => (simp only [List.getElem?_toArray, List.getElem?_cons_zero, List.getElem?_cons_succ] <;> rfl)
            case hs_52 => kernel_rfl
            case hf_52 => kernel_rfl
            case hr_52 => kernel_rfl
            case hQ_52 => exact fun _ _ _ h => h
            case hy_52 => (refine Or.inl ⟨by rfl, ?_⟩; intro w hSw; (try dsimp only at hSw); go_simp; try with_reducible rfl)
            case hS_52 => assumption
            try go_frame
            refine wpAnyH_take (i := 6) (v := ?_) (oi := ?_) ?hi_53 ?hs_53 ?hf_53 ?hr_53 ?hQ_53 ?hy_53 ?hS_53 ?h_53
            case hi_53 => (simp only [List.getElem?_toArray, List.getElem?_cons_zero, List.getElem?_cons_succ] <;> rfl)
            case hs_53 => kernel_rfl
            case hf_53 => kernel_rfl
            case hr_53 => kernel_rfl
            case hQ_53 => exact fun _ _ _ h => h
            case hy_53 => (refine Or.inl ⟨by rfl, ?_⟩; intro w hSw; (try dsimp only at hSw); go_simp; try with_reducible rfl)
            case hS_53 => assumption
            try go_frame
            refine wpAnyH_take (i := 7) (v := ?_) (oi := ?_) ?hi_54 ?hs_54 ?hf_54 ?hr_54 ?hQ_54 ?hy_54 ?hS_54 ?h_54
            case hi_54 => (simp only [List.getElem?_toArray, List.getElem?_cons_zero, List.getElem?_cons_succ] <;> rfl)
            case hs_54 => kernel_rfl
            case hf_54 => kernel_rfl
            case hr_54 => kernel_rfl
            case hQ_54 => exact fun _ _ _ h => h
            case hy_54 => (refine Or.inl ⟨by rfl, ?_⟩; intro w hSw; (try dsimp only at hSw); go_simp; try with_reducible rfl)
            case hS_54 => assumption
            try go_frame
            refine wpAnyH_take (i := 8) (v := ?_) (oi := ?_) ?hi_55 ?hs_55 ?hf_55 ?hr_55 ?hQ_55 ?hy_55 ?hS_55 ?h_55
            case hi_55 => (simp only [List.getElem?_toArray, List.getElem?_cons_zero, List.getElem?_cons_succ] <;> rfl)
            case hs_55 => kernel_rfl
            case hf_55 => kernel_rfl
            case hr_55 => kernel_rfl
            case hQ_55 => exact fun _ _ _ h => h
            case hy_55 => (refine Or.inl ⟨by rfl, ?_⟩; intro w hSw; (try dsimp only at hSw); go_simp; try with_reducible rfl)
            case hS_55 => assumption
            try go_frame
            refine wpAnyH_take (i := 9) (v := ?_) (oi := ?_) ?hi_56 ?hs_56 ?hf_56 ?hr_56 ?hQ_56 ?hy_56 ?hS_56 ?h_56
            case hi_56 => (simp only [List.getElem?_toArray, List.getElem?_cons_zero, List.getElem?_cons_succ] <;> rfl)
            case hs_56 => kernel_rfl
            case hf_56 => kernel_rfl
            case hr_56 => kernel_rfl
            case hQ_56 => exact fun _ _ _ h => h
            case hy_56 => (refine Or.inl ⟨by rfl, ?_⟩; intro w hSw; (try dsimp only at hSw); go_simp; try with_reducible rfl)
            case hS_56 => assumption
            try go_frame
            refine wpAnyH_take (i := 10) (v := ?_) (oi := ?_) ?hi_57 ?hs_57 ?hf_57 ?hr_57 ?hQ_57 ?hy_57 ?hS_57 ?h_57
            case hi_57 => (simp only [List.getElem?_toArray, List.getElem?_cons_zero, List.getElem?_cons_succ] <;> rfl)
            case hs_57 => kernel_rfl
            case hf_57 => kernel_rfl
            case hr_57 => kernel_rfl
            case hQ_57 => exact fun _ _ _ h => h
            case hy_57 => (refine Or.inl ⟨by rfl, ?_⟩; intro w hSw; (try dsimp only at hSw); go_simp; try with_reducible rfl)
            case hS_57 => assumption
            try go_frame
            refine wpAnyH_take (i := 11) (v := ?_) (oi := ?_) ?hi_58 ?hs_58 ?hf_58 ?hr_58 ?hQ_58 ?hy_58 ?hS_58 ?h_58
            case hi_58 => (simp only [List.getElem?_toArray, List.getElem?_cons_zero, List.getElem?_cons_succ] <;> rfl)
            case hs_58 => kernel_rfl
            case hf_58 => kernel_rfl
            case hr_58 => kernel_rfl
            case hQ_58 => exact fun _ _ _ h => h
            case hy_58 => (refine Or.inl ⟨by rfl, ?_⟩; intro w hSw; (try dsimp only at hSw); go_simp; try with_reducible rfl)
            case hS_58 => assumption
            try go_frame
            refine wpAnyH_take (i := 12) (v := ?_) (oi := ?_) ?hi_59 ?hs_59 ?hf_59 ?hr_59 ?hQ_59 ?hy_59 ?hS_59 ?h_59
            case hi_59 => (simp only [List.getElem?_toArray, List.getElem?_cons_zero, List.getElem?_cons_succ] <;> rfl)
            case hs_59 => kernel_rfl
            case hf_59 => kernel_rfl
            case hr_59 => kernel_rfl
            case hQ_59 => exact fun _ _ _ h => h
            case hy_59 => (refine Or.inl ⟨by rfl, ?_⟩; intro w hSw; (try dsimp only at hSw); go_simp; try with_reducible rfl)
            case hS_59 => assumption
            try go_frame
            refine wpAnyH_take (i := 13) (v := ?_) (oi := ?_) ?hi_60 ?hs_60 ?hf_60 ?hr_60 ?hQ_60 ?hy_60 ?hS_60 ?h_60
            case hi_60 => (simp only [List.getElem?_toArray, List.getElem?_cons_zero, List.getElem?_cons_succ] <;> rfl)
            case hs_60 => kernel_rfl
            case hf_60 => kernel_rfl
            case hr_60 => kernel_rfl
            case hQ_60 => exact fun _ _ _ h => h
            case hy_60 => (refine Or.inl ⟨by rfl, ?_⟩; intro w hSw; (try dsimp only at hSw); go_simp; try with_reducible rfl)
            case hS_60 => assumption
            try go_frame
            refine wpAnyH_take (i := 14) (v := ?_) (oi := ?_) ?hi_61 ?hs_61 ?hf_61 ?hr_61 ?hQ_61 ?hy_61 ?hS_61 ?h_61
            case hi_61 => (simp only [List.getElem?_toArray, List.getElem?_cons_zero, List.getElem?_cons_succ] <;> rfl)
            case hs_61 => kernel_rfl
            case hf_61 => kernel_rfl
            case hr_61 => kernel_rfl
            case hQ_61 => exact fun _ _ _ h => h
            case hy_61 => (refine Or.inl ⟨by rfl, ?_⟩; intro w hSw; (try dsimp only at hSw); go_simp; try with_reducible rfl)
            case hS_61 => assumption
            try go_frame
            refine wpAnyH_take (i := 15) (v := ?_) (oi := ?_) ?hi_62 ?hs_62 ?hf_62 ?hr_62 ?hQ_62 ?hy_62 ?hS_62 ?h_62
            case hi_62 => (simp only [List.getElem?_toArray, List.getElem?_cons_zero, List.getElem?_cons_succ] <;> rfl)
            case hs_62 => kernel_rfl
            case hf_62 => kernel_rfl
            case hr_62 => kernel_rfl
            case hQ_62 => exact fun _ _ _ h => h
            case hy_62 => (refine Or.inl ⟨by rfl, ?_⟩; intro w hSw; (try dsimp only at hSw); go_simp; try with_reducible rfl)
            case hS_62 => assumption
            try go_frame
            refine wpAnyH_take (i := 16) (v := ?_) (oi := ?_) ?hi_63 ?hs_63 ?hf_63 ?hr_63 ?hQ_63 ?hy_63 ?hS_63 ?h_63
            case hi_63 => (simp only [List.getElem?_toArray, List.getElem?_cons_zero, List.getElem?_cons_succ] <;> rfl)
            case hs_63 => kernel_rfl
            case hf_63 => kernel_rfl
            case hr_63 => kernel_rfl
            case hQ_63 => exact fun _ _ _ h => h
            case hy_63 => (refine Or.inl ⟨by rfl, ?_⟩; intro w hSw; (try dsimp only at hSw); go_simp; try with_reducible rfl)
            case hS_63 => assumption
            try go_frame
            refine wpAnyH_take (i := 17) (v := ?_) (oi := ?_) ?hi_64 ?hs_64 ?hf_64 ?hr_64 ?hQ_64 ?hy_64 ?hS_64 ?h_64
            case hi_64 => (simp only [List.getElem?_toArray, List.getElem?_cons_zero, List.getElem?_cons_succ] <;> rfl)
            case hs_64 => kernel_rfl
            case hf_64 => kernel_rfl
            case hr_64 => kernel_rfl
            case hQ_64 => exact fun _ _ _ h => h
            case hy_64 => (refine Or.inl ⟨by rfl, ?_⟩; intro w hSw; (try dsimp only at hSw); go_simp; try with_reducible rfl)
            case hS_64 => assumption
            try go_frame
            refine wpAnyH_take (i := 18) (v := ?_) (oi := ?_) ?hi_65 ?hs_65 ?hf_65 ?hr_65 ?hQ_65 ?hy_65 ?hS_65 ?h_65
            case hi_65 => (simp only [List.getElem?_toArray, List.getElem?_cons_zero, List.getElem?_cons_succ] <;> rfl)
            case hs_65 => kernel_rfl
            case hf_65 => kernel_rfl
            case hr_65 => kernel_rfl
            case hQ_65 => exact fun _ _ _ h => h
            case hy_65 => (refine Or.inl ⟨by rfl, ?_⟩; intro w hSw; (try dsimp only at hSw); go_simp; try with_reducible rfl)
            case hS_65 => assumption
            try go_frame
            refine wpAnyH_ready (rs := [19]) (by kernel_rfl) (by simp) ?_
            refine AllReadyH.cons (o := ?_) ?hi_66 (fun K hK => ?h_66) AllReadyH.nil
            case hi_66 => (simp only [List.getElem?_toArray, List.getElem?_cons_zero, List.getElem?_cons_succ] <;> rfl)
            go_simp
            (refine (Hb.out _).mono ?_; rintro e w3 ⟨rfl, n3⟩; go_wp2_with fail)
            refine hK.out _ _ ?_ (fun hHeld => ?_)
            · exact ⟨⟨n3.cell (n2.cell k0), n3.cell (n2.cell k1)⟩, n3.cell (n2.cell k2), n3.cell (n2.cell k3)⟩
            clear hK K
            try go_frame
            refine wpAnyH_take (i := 20) (v := ?_) (oi := ?_) ?hi_67 ?hs_67 ?hf_67 ?hr_67 ?hQ_67 ?hy_67 ?hS_67 ?h_67
            case hi_67 => (simp only [List.getElem?_toArray, List.getElem?_cons_zero, List.getElem?_cons_succ] <;> rfl)
            case hs_67 => kernel_rfl
            case hf_67 => kernel_rfl
            case hr_67 => kernel_rfl
            case hQ_67 => exact fun _ _ _ h => h
            case hy_67 => (refine Or.inl ⟨by rfl, ?_⟩; intro w hSw; (try dsimp only at hSw); go_simp; try with_reducible rfl)
            case hS_67 => assumption
            try go_frame
            refine wpAnyH_take (i := 21) (v := ?_) (oi := ?_) ?hi_68 ?hs_68 ?hf_68 ?hr_68 ?hQ_68 ?hy_68 ?hS_68 ?h_68
            case hi_68 => (simp only [List.getElem?_toArray, List.getElem?_cons_zero, List.getElem?_cons_succ] <;> rfl)
            case hs_68 => kernel_rfl
            case hf_68 => kernel_rfl
            case hr_68 => kernel_rfl
            case hQ_68 => exact fun _ _ _ h => h
            case hy_68 => (refine Or.inl ⟨by rfl, ?_⟩; intro w hSw; (try dsimp only at hSw); go_simp; try with_reducible rfl)
            case hS_68 => assumption
            try go_frame
            refine wpAnyH_take (i := 22) (v := ?_) (oi := ?_) ?hi_69 ?hs_69 ?hf_69 ?hr_69 ?hQ_69 ?hy_69 ?hS_69 ?h_69
            case hi_69 => (simp only [List.getElem?_toArray, List.getElem?_cons_zero, List.getElem?_cons_succ] <;> rfl)
            case hs_69 => kernel_rfl
            case hf_69 => kernel_rfl
            case hr_69 => kernel_rfl
            case hQ_69 => exact fun _ _ _ h => h
            case hy_69 => (refine Or.inl ⟨by rfl, ?_⟩; intro w hSw; (try dsimp only at hSw); go_simp; try with_reducible rfl)
            case hS_69 => assumption
            try go_frame
            refine wpAnyH_done (by kernel_rfl) ?_ _
            go_wp2_with fail
            go_ret
            exact ⟨ret_bool Hr.out.symm, (n1.trans n2).trans n3⟩
          · rw [hlt2] at hbef
            have Hb := Lib.hid hbef
            have hr : okFrom none os = okFrom (prevAt os (k + 1)) (os.drop (k + 1)) := by rw [Hp.out, hstep]; simp [okAt, hok, hlt2]
            have Hr := Lib.hid hr
            clear hcall ho hdrop hok hstep hr hkm hpv hy hlt2 hbef c0 c1 d0 d1
            go_wp2_with fail
            refine wp_region_held_drew (S := (fun w' => (w'.cell? ⟨b, off + k * 2, none⟩ = some (.string ⟨o.snap.toArray⟩) ∧ w'.cell? ⟨b, off + k * 2 + 1, none⟩ = some (.string ⟨o.tag.toArray⟩)) ∧ w'.cell? ⟨b, off + m * 2, none⟩ = some (.string ⟨y.snap.toArray⟩) ∧ w'.cell? ⟨b, off + m * 2 + 1, none⟩ = some (.string ⟨y.tag.toArray⟩))) (by kernel_rfl) ?_ (fun hHeld => ?_)
            · exact ⟨⟨k0, k1⟩, k2, k3⟩
            refine wpAnyH_take (i := 0) (v := ?_) (oi := ?_) ?hi_70 ?hs_70 ?hf_70 ?hr_70 ?hQ_70 ?hy_70 ?hS_70 ?h_70
            case hi_70 => (simp only [List.getElem?_toArray, List.getElem?_cons_zero] <;> rfl)
            case hs_70 => kernel_rfl
            case hf_70 => kernel_rfl
            case hr_70 => kernel_rfl
            case hQ_70 => exact fun _ _ _ h => h
            case hy_70 => (refine Or.inl ⟨by rfl, ?_⟩; intro w hSw; (try dsimp only at hSw); go_simp; try with_reducible rfl)
            case hS_70 => assumption
            try go_frame
            refine wpAnyH_take (i := 1) (v := ?_) (oi := ?_) ?hi_71 ?hs_71 ?hf_71 ?hr_71 ?hQ_71 ?hy_71 ?hS_71 ?h_71
            case hi_71 => (simp only [List.getElem?_toArray, List.getElem?_cons_zero, List.getElem?_cons_succ] <;> rfl)
            case hs_71 => kernel_rfl
            case hf_71 => kernel_rfl
            case hr_71 => kernel_rfl
            case hQ_71 => exact fun _ _ _ h => h
            case hy_71 => (refine Or.inl ⟨by rfl, ?_⟩; intro w hSw; (try dsimp only at hSw); go_simp; try with_reducible rfl)
            case hS_71 => assumption
            try go_frame
            refine wpAnyH_take (i := 2) (v := ?_) (oi := ?_) ?hi_72 ?hs_72 ?hf_72 ?hr_72 ?hQ_72 ?hy_72 ?hS_72 ?h_72
            case hi_72 => (simp only [List.getElem?_toArray, List.getElem?_cons_zero, List.getElem?_cons_succ] <;> rfl)
            case hs_72 => kernel_rfl
            case hf_72 => kernel_rfl
            case hr_72 => kernel_rfl
            case hQ_72 => exact fun _ _ _ h => h
            case hy_72 => (refine Or.inl ⟨by rfl, ?_⟩; intro w hSw; (try dsimp only at hSw); go_simp; try with_reducible rfl)
            case hS_72 => assumption
            try go_frame
            refine wpAnyH_take (i := 3) (v := ?_) (oi := ?_) ?hi_73 ?hs_73 ?hf_73 ?hr_73 ?hQ_73 ?hy_73 ?hS_73 ?h_73
            case hi_73 => (simp only [List.getElem?_toArray, List.getElem?_cons_zero, List.getElem?_cons_succ] <;> rfl)
            case hs_73 => kernel_rfl
            case hf_73 => kernel_rfl
            case hr_73 => kernel_rfl
            case hQ_73 => exact fun _ _ _ h => h
            case hy_73 => (refine Or.inl ⟨by rfl, ?_⟩; intro w hSw; (try dsimp only at hSw); go_simp; try with_reducible rfl)
            case hS_73 => assumption
            try go_frame
            refine wpAnyH_ready (rs := [4]) (by kernel_rfl) (by simp) ?_
            refine AllReadyH.cons (o := ?_) ?hi_74 (fun K hK => ?h_74) AllReadyH.nil
            case hi_74 => (simp only [List.getElem?_toArray, List.getElem?_cons_zero, List.getElem?_cons_succ] <;> rfl)
            go_simp
            (refine (Hcall.out _).mono ?_; rintro e w2 ⟨rfl, n2⟩; go_wp2_with fail)
            refine hK.out _ _ ?_ (fun hHeld => ?_)
            · exact ⟨⟨n2.cell k0, n2.cell k1⟩, n2.cell k2, n2.cell k3⟩
            clear hK K
            try go_frame
            refine wpAnyH_take (i := 5) (v := ?_) (oi := ?_) ?hi_75 ?hs_75 ?hf_75 ?hr_75 ?hQ_75 ?hy_75 ?hS_75 ?h_75
            case hi_75 => (simp only [List.getElem?_toArray, List.getElem?_cons_zero, List.getElem?_cons_succ] <;> rfl)
            case hs_75 => kernel_rfl
            case hf_75 => kernel_rfl
            case hr_75 => kernel_rfl
            case hQ_75 => exact fun _ _ _ h => h
            case hy_75 => (refine Or.inl ⟨by rfl, ?_⟩; intro w hSw; (try dsimp only at hSw); go_simp; try with_reducible rfl)
            case hS_75 => assumption
            try go_frame
            refine wpAnyH_take (i := 6) (v := ?_) (oi := ?_) ?hi_76 ?hs_76 ?hf_76 ?hr_76 ?hQ_76 ?hy_76 ?hS_76 ?h_76
            case hi_76 => (simp only [List.getElem?_toArray, List.getElem?_cons_zero, List.getElem?_cons_succ] <;> rfl)
            case hs_76 => kernel_rfl
            case hf_76 => kernel_rfl
            case hr_76 => kernel_rfl
            case hQ_76 => exact fun _ _ _ h => h
            case hy_76 => (refine Or.inl ⟨by rfl, ?_⟩; intro w hSw; (try dsimp only at hSw); go_simp; try with_reducible rfl)
            case hS_76 => assumption
            try go_frame
            refine wpAnyH_take (i := 7) (v := ?_) (oi := ?_) ?hi_77 ?hs_77 ?hf_77 ?hr_77 ?hQ_77 ?hy_77 ?hS_77 ?h_77
            case hi_77 => (simp only [List.getElem?_toArray, List.getElem?_cons_zero, List.getElem?_cons_succ] <;> rfl)
            case hs_77 => kernel_rfl
            case hf_77 => kernel_rfl
            case hr_77 => kernel_rfl
            case hQ_77 => exact fun _ _ _ h => h
            case hy_77 => (refine Or.inl ⟨by rfl, ?_⟩; intro w hSw; (try dsimp only at hSw); go_simp; try with_reducible rfl)
            case hS_77 => assumption
            try go_frame
            refine wpAnyH_take (i := 8) (v := ?_) (oi := ?_) ?hi_78 ?hs_78 ?hf_78 ?hr_78 ?hQ_78 ?hy_78 ?hS_78 ?h_78
            case hi_78 => (simp only [List.getElem?_toArray, List.getElem?_cons_zero, List.getElem?_cons_succ] <;> rfl)
            case hs_78 => kernel_rfl
            case hf_78 => kernel_rfl
            case hr_78 => kernel_rfl
            case hQ_78 => exact fun _ _ _ h => h
            case hy_78 => (refine Or.inl ⟨by rfl, ?_⟩; intro w hSw; (try dsimp only at hSw); go_simp; try with_reducible rfl)
            case hS_78 => assumption
            try go_frame
            refine wpAnyH_take (i := 9) (v := ?_) (oi := ?_) ?hi_79 ?hs_79 ?hf_79 ?hr_79 ?hQ_79 ?hy_79 ?hS_79 ?h_79
            case hi_79 => (simp only [List.getElem?_toArray, List.getElem?_cons_zero, List.getElem?_cons_succ] <;> rfl)
            case hs_79 => kernel_rfl
            case hf_79 => kernel_rfl
            case hr_79 => kernel_rfl
            case hQ_79 => exact fun _ _ _ h => h
            case hy_79 => (refine Or.inl ⟨by rfl, ?_⟩; intro w hSw; (try dsimp only at hSw); go_simp; try with_reducible rfl)
            case hS_79 => assumption
            try go_frame
            refine wpAnyH_take (i := 10) (v := ?_) (oi := ?_) ?hi_80 ?hs_80 ?hf_80 ?hr_80 ?hQ_80 ?hy_80 ?hS_80 ?h_80
            case hi_80 => (simp only [List.getElem?_toArray, List.getElem?_cons_zero, List.getElem?_cons_succ] <;> rfl)
            case hs_80 => kernel_rfl
            case hf_80 => kernel_rfl
            case hr_80 => kernel_rfl
            case hQ_80 => exact fun _ _ _ h => h
            case hy_80 => (refine Or.inl ⟨by rfl, ?_⟩; intro w hSw; (try dsimp only at hSw); go_simp; try with_reducible rfl)
            case hS_80 => assumption
            try go_frame
            refine wpAnyH_take (i := 11) (v := ?_) (oi := ?_) ?hi_81 ?hs_81 ?hf_81 ?hr_81 ?hQ_81 ?hy_81 ?hS_81 ?h_81
            case hi_81 => (simp only [List.getElem?_toArray, List.getElem?_cons_zero, List.getElem?_cons_succ] <;> rfl)
            case hs_81 => kernel_rfl
            case hf_81 => kernel_rfl
            case hr_81 => kernel_rfl
            case hQ_81 => exact fun _ _ _ h => h
            case hy_81 => (refine Or.inl ⟨by rfl, ?_⟩; intro w hSw; (try dsimp only at hSw); go_simp; try with_reducible rfl)
            case hS_81 => assumption
            try go_frame
            refine wpAnyH_take (i := 12) (v := ?_) (oi := ?_) ?hi_82 ?hs_82 ?hf_82 ?hr_82 ?hQ_82 ?hy_82 ?hS_82 ?h_82
            case hi_82 => (simp only [List.getElem?_toArray, List.getElem?_cons_zero, List.getElem?_cons_succ] <;> rfl)
            case hs_82 => kernel_rfl
            case hf_82 => kernel_rfl
            case hr_82 => kernel_rfl
            case hQ_82 => exact fun _ _ _ h => h
            case hy_82 => (refine Or.inl ⟨by rfl, ?_⟩; intro w hSw; (try dsimp only at hSw); go_simp; try with_reducible rfl)
            case hS_82 => assumption
            try go_frame
            refine wpAnyH_take (i := 13) (v := ?_) (oi := ?_) ?hi_83 ?hs_83 ?hf_83 ?hr_83 ?hQ_83 ?hy_83 ?hS_83 ?h_83
            case hi_83 => (simp only [List.getElem?_toArray, List.getElem?_cons_zero, List.getElem?_cons_succ] <;> rfl)
            case hs_83 => kernel_rfl
            case hf_83 => kernel_rfl
            case hr_83 => kernel_rfl
            case hQ_83 => exact fun _ _ _ h => h
            case hy_83 => (refine Or.inl ⟨by rfl, ?_⟩; intro w hSw; (try dsimp only at hSw); go_simp; try with_reducible rfl)
            case hS_83 => assumption
            try go_frame
            refine wpAnyH_take (i := 14) (v := ?_) (oi := ?_) ?hi_84 ?hs_84 ?hf_84 ?hr_84 ?hQ_84 ?hy_84 ?hS_84 ?h_84
            case hi_84 => (simp only [List.getElem?_toArray, List.getElem?_cons_zero, List.getElem?_cons_succ] <;> rfl)
            case hs_84 => kernel_rfl
            case hf_84 => kernel_rfl
            case hr_84 => kernel_rfl
            case hQ_84 => exact fun _ _ _ h => h
            case hy_84 => (refine Or.inl ⟨by rfl, ?_⟩; intro w hSw; (try dsimp only at hSw); go_simp; try with_reducible rfl)
            case hS_84 => assumption
            try go_frame
            refine wpAnyH_take (i := 15) (v := ?_) (oi := ?_) ?hi_85 ?hs_85 ?hf_85 ?hr_85 ?hQ_85 ?hy_85 ?hS_85 ?h_85
            case hi_85 => (simp only [List.getElem?_toArray, List.getElem?_cons_zero, List.getElem?_cons_succ] <;> rfl)
            case hs_85 => kernel_rfl
            case hf_85 => kernel_rfl
            case hr_85 => kernel_rfl
            case hQ_85 => exact fun _ _ _ h => h
            case hy_85 => (refine Or.inl ⟨by rfl, ?_⟩; intro w hSw; (try dsimp only at hSw); go_simp; try with_reducible rfl)
            case hS_85 => assumption
            try go_frame
            refine wpAnyH_take (i := 16) (v := ?_) (oi := ?_) ?hi_86 ?hs_86 ?hf_86 ?hr_86 ?hQ_86 ?hy_86 ?hS_86 ?h_86
            case hi_86 => (simp only [List.getElem?_toArray, List.getElem?_cons_zero, List.getElem?_cons_succ] <;> rfl)
            case hs_86 => kernel_rfl
            case hf_86 => kernel_rfl
            case hr_86 => kernel_rfl
            case hQ_86 => exact fun _ _ _ h => h
            case hy_86 => (refine Or.inl ⟨by rfl, ?_⟩; intro w hSw; (try dsimp only at hSw); go_simp; try with_reducible rfl)
            case hS_86 => assumption
            try go_frame
            refine wpAnyH_take (i := 17) (v := ?_) (oi := ?_) ?hi_87 ?hs_87 ?hf_87 ?hr_87 ?hQ_87 ?hy_87 ?hS_87 ?h_87
            case hi_87 => (simp only [List.getElem?_toArray, List.getElem?_cons_zero, List.getElem?_cons_succ] <;> rfl)
            case hs_87 => kernel_rfl
            case hf_87 => kernel_rfl
            case hr_87 => kernel_rfl
            case hQ_87 => exact fun _ _ _ h => h
            case hy_87 => (refine Or.inl ⟨by rfl, ?_⟩; intro w hSw; (try dsimp only at hSw); go_simp; try with_reducible rfl)
            case hS_87 => assumption
            try go_frame
            refine wpAnyH_take (i := 18) (v := ?_) (oi := ?_) ?hi_88 ?hs_88 ?hf_88 ?hr_88 ?hQ_88 ?hy_88 ?hS_88 ?h_88
            case hi_88 => (simp only [List.getElem?_toArray, List.getElem?_cons_zero, List.getElem?_cons_succ] <;> rfl)
            case hs_88 => kernel_rfl
            case hf_88 => kernel_rfl
            case hr_88 => kernel_rfl
            case hQ_88 => exact fun _ _ _ h => h
            case hy_88 => (refine Or.inl ⟨by rfl, ?_⟩; intro w hSw; (try dsimp only at hSw); go_simp; try with_reducible rfl)
            case hS_88 => assumption
            try go_frame
            refine wpAnyH_ready (rs := [19]) (by kernel_rfl) (by simp) ?_
            refine AllReadyH.cons (o := ?_) ?hi_89 (fun K hK => ?h_89) AllReadyH.nil
            case hi_89 => (simp only [List.getElem?_toArray, List.getElem?_cons_zero, List.getElem?_cons_succ] <;> rfl)
            go_simp
            (refine (Hb.out _).mono ?_; rintro e w3 ⟨rfl, n3⟩; go_wp2_with fail)
            refine hK.out _ _ ?_ (fun hHeld => ?_)
            · exact ⟨⟨n3.cell (n2.cell k0), n3.cell (n2.cell k1)⟩, n3.cell (n2.cell k2), n3.cell (n2.cell k3)⟩
            clear hK K
            try go_frame
            refine wpAnyH_take (i := 20) (v := ?_) (oi := ?_) ?hi_90 ?hs_90 ?hf_90 ?hr_90 ?hQ_90 ?hy_90 ?hS_90 ?h_90
            case hi_90 => (simp only [List.getElem?_toArray, List.getElem?_cons_zero, List.getElem?_cons_succ] <;> rfl)
            case hs_90 => kernel_rfl
            case hf_90 => kernel_rfl
            case hr_90 => kernel_rfl
            case hQ_90 => exact fun _ _ _ h => h
            case hy_90 => (refine Or.inl ⟨by rfl, ?_⟩; intro w hSw; (try dsimp only at hSw); go_simp; try with_reducible rfl)
            case hS_90 => assumption
            try go_frame
            refine wpAnyH_take (i := 21) (v := ?_) (oi := ?_) ?hi_91 ?hs_91 ?hf_91 ?hr_91 ?hQ_91 ?hy_91 ?hS_91 ?h_91
            case hi_91 => (simp only [List.getElem?_toArray, List.getElem?_cons_zero, List.getElem?_cons_succ] <;> rfl)
            case hs_91 => kernel_rfl
            case hf_91 => kernel_rfl
            case hr_91 => kernel_rfl
            case hQ_91 => exact fun _ _ _ h => h
            case hy_91 => (refine Or.inl ⟨by rfl, ?_⟩; intro w hSw; (try dsimp only at hSw); go_simp; try with_reducible rfl)
            case hS_91 => assumption
            try go_frame
            refine wpAnyH_take (i := 22) (v := ?_) (oi := ?_) ?hi_92 ?hs_92 ?hf_92 ?hr_92 ?hQ_92 ?hy_92 ?hS_92 ?h_92
            case hi_92 => (simp only [List.getElem?_toArray, List.getElem?_cons_zero, List.getElem?_cons_succ] <;> rfl)
            case hs_92 => kernel_rfl
            case hf_92 => kernel_rfl
            case hr_92 => kernel_rfl
            case hQ_92 => exact fun _ _ _ h => h
            case hy_92 => (refine Or.inl ⟨by rfl, ?_⟩; intro w hSw; (try dsimp only at hSw); go_simp; try with_reducible rfl)
            case hS_92 => assumption
            try go_frame
            refine wpAnyH_done (by kernel_rfl) ?_ _
            go_wp2_with fail
            go_roundg (os.length - (k + 1))
            case measure => rw [Hgk.out]; omega
            case rel => exact ⟨k + 1, rfl, by omega, by go_num, (n1.trans n2).trans n3, Hr.out⟩
    · have hr : okFrom none os = true := by rw [Ha.out, drop_end hlt]; rfl
      have Hr := Lib.hid hr
      clear hr
      go_wp2_with fail
      go_ret
      exact ⟨ret_bool (by unfold holdsOk; rw [Hr.out, Bool.and_true, decide_eq_decide]; omega), hn⟩

set_option maxRecDepth 4000 in
set_option maxHeartbeats 2000000 in
theorem implHolds {S : Nat → Prop} (v : Value) (os : List HoldR) (w : World) (h : Holds S w v os) (hs : ∀ o ∈ os, HSm o) :
    Calls Try.prog 15 #[v] w fun e w' => e = .returned (.bool (holdsOk os)) ∧ New w w' := by
  have h0 := h
  obtain ⟨-, a, c, rfl, h1, h2, -⟩ := h
  unfold maxLen at h2
  have hat := fun (W : World) (n : New w W) (k : Nat) (o : HoldR) (ho : os[k]? = some o) => Holds.at (Recs.new h0 n) ho
  have Hat := Lib.hid hat
  have Hs := Lib.hid hs
  have Himpl := Lib.hid implHold
  have Hord := Lib.hid holdOrder
  clear hat hs
  by_cases hl : 8 < os.length
  · have hr : holdsOk os = false := by unfold holdsOk; rw [decide_eq_false (by omega)]; rfl
    rw [hr]
    have hd : (8 : Int) < (os.length : Int) := by omega
    clear hr
    go_enter Try.func15, Try.ntmps15
    go_wp2_with fail
    go_ret
    exact ⟨rfl, New.refl _⟩
  have hr0 : holdsOk os = okFrom none os := by unfold holdsOk; rw [decide_eq_true (by omega)]; rfl
  rw [hr0]
  have hd : ¬ ((8 : Int) < (os.length : Int)) := by omega
  clear hr0
  go_enter Try.func15, Try.ntmps15
  go_wp2_with fail
  go_loopg [10] os.length (fun gk i wr => ∃ (k : Nat), gk = os.length - k ∧ k ≤ os.length ∧ i = .int .i64 k ∧ New w wr ∧ okFrom none os = okFrom (prevAt os k) (os.drop k))
  case atStart => exact ⟨0, by omega, by omega, rfl, New.refl _, rfl⟩
  case round =>
    obtain ⟨k, hgk, hk, rfl, hn, ha⟩ := hrel
    have Hgk := Lib.hid hgk
    have Ha := Lib.hid ha
    clear hgk ha
    by_cases hlt : k < os.length
    · obtain ⟨o, ho⟩ := get_of hlt
      obtain ⟨b, off, c', e1, hb, c0, c1, -, -⟩ := Hat.out wr hn k o ho
      simp only [Value.slice.injEq] at e1
      obtain ⟨rfl, -, rfl⟩ := e1
      have hcall := fun (W : World) => Himpl.out o W (Hs.out o (List.mem_of_getElem? ho))
      have hdrop := drop_of ho
      have hstep : okFrom none os = (okAt (prevAt os k) o && okFrom (some o) (os.drop (k + 1))) := by rw [Ha.out, hdrop]; rfl
      unfold txt at c0 c1
      have nb := (New.refl wr).alloc (.cells #[.string ⟨o.snap.toArray⟩, .string ⟨o.tag.toArray⟩] 25)
      have n1 : New w (wr.alloc (.cells #[.string ⟨o.snap.toArray⟩, .string ⟨o.tag.toArray⟩] 25)).drew := (hn.trans nb).drew
      have hbx := heap_alloc_new wr (.cells #[.string ⟨o.snap.toArray⟩, .string ⟨o.tag.toArray⟩] 25)
      have k0 : (wr.alloc (.cells #[.string ⟨o.snap.toArray⟩, .string ⟨o.tag.toArray⟩] 25)).drew.cell? ⟨wr.heap.size, 0, none⟩ = some (.string ⟨o.snap.toArray⟩) := by
        show World.cell? (wr.alloc _) _ = _
        unfold World.cell?; rw [hbx]; rfl
      have k1 : (wr.alloc (.cells #[.string ⟨o.snap.toArray⟩, .string ⟨o.tag.toArray⟩] 25)).drew.cell? ⟨wr.heap.size, 1, none⟩ = some (.string ⟨o.tag.toArray⟩) := by
        show World.cell? (wr.alloc _) _ = _
        unfold World.cell?; rw [hbx]; rfl
      have Hp := Lib.hid (prevAt_succ ho)
      clear hbx
      rcases hok : holdOk o with _ | _
      · rw [hok] at hcall
        have Hcall := Lib.hid hcall
        have hr : okFrom none os = false := by rw [hstep]; simp [okAt, hok]
        have Hr := Lib.hid hr
        clear hcall ho hdrop hok hstep hr
        go_wp2_with fail
        refine wp_region_held_drew (S := (fun w' => w'.cell? ⟨wr.heap.size, 0, none⟩ = some (.string ⟨o.snap.toArray⟩) ∧ w'.cell? ⟨wr.heap.size, 1, none⟩ = some (.string ⟨o.tag.toArray⟩))) (by kernel_rfl) ?_ (fun hHeld => ?_)
        · exact ⟨k0, k1⟩
        refine wpAnyH_take (i := 0) (v := ?_) (oi := ?_) ?hi_93 ?hs_93 ?hf_93 ?hr_93 ?hQ_93 ?hy_93 ?hS_93 ?h_93
        case hi_93 => (simp only [List.getElem?_toArray, List.getElem?_cons_zero] <;> rfl)
        case hs_93 => kernel_rfl
        case hf_93 => kernel_rfl
        case hr_93 => kernel_rfl
        case hQ_93 => exact fun _ _ _ h => h
        case hy_93 => (refine Or.inl ⟨by rfl, ?_⟩; intro w hSw; (try dsimp only at hSw); go_simp; try with_reducible rfl)
        case hS_93 => assumption
        try go_frame
        refine wpAnyH_ready (rs := [1]) (by kernel_rfl) (by simp) ?_
        refine AllReadyH.cons (o := ?_) ?hi_94 (fun K hK => ?h_94) AllReadyH.nil
        case hi_94 => (simp only [List.getElem?_toArray, List.getElem?_cons_zero, List.getElem?_cons_succ] <;> rfl)
        go_simp
        (refine (Hcall.out _).mono ?_; rintro e w2 ⟨rfl, n2⟩; go_wp2_with fail)
        refine hK.out _ _ ?_ (fun hHeld => ?_)
        · exact ⟨n2.cell k0, n2.cell k1⟩
        clear hK K
        try go_frame
        refine wpAnyH_take (i := 2) (v := ?_) (oi := ?_) ?hi_95 ?hs_95 ?hf_95 ?hr_95 ?hQ_95 ?hy_95 ?hS_95 ?h_95
        case hi_95 => (simp only [List.getElem?_toArray, List.getElem?_cons_zero, List.getElem?_cons_succ] <;> rfl)
        case hs_95 => kernel_rfl
        case hf_95 => kernel_rfl
        case hr_95 => kernel_rfl
        case hQ_95 => exact fun _ _ _ h => h
        case hy_95 => (refine Or.inl ⟨by rfl, ?_⟩; intro w hSw; (try dsimp only at hSw); go_simp; try with_reducible rfl)
        case hS_95 => assumption
        try go_frame
        refine wpAnyH_take (i := 3) (v := ?_) (oi := ?_) ?hi_96 ?hs_96 ?hf_96 ?hr_96 ?hQ_96 ?hy_96 ?hS_96 ?h_96
        case hi_96 => (simp only [List.getElem?_toArray, List.getElem?_cons_zero, List.getElem?_cons_succ] <;> rfl)
        case hs_96 => kernel_rfl
        case hf_96 => kernel_rfl
        case hr_96 => kernel_rfl
        case hQ_96 => exact fun _ _ _ h => h
        case hy_96 => (refine Or.inl ⟨by rfl, ?_⟩; intro w hSw; (try dsimp only at hSw); go_simp; try with_reducible rfl)
        case hS_96 => assumption
        try go_frame
        refine wpAnyH_take (i := 4) (v := undef) (oi := ?_) ?hi_97 ?hs_97 ?hf_97 ?hr_97 ?hQ_97 ?hy_97 ?hS_97 ?h_97
        case hi_97 => (simp only [List.getElem?_toArray, List.getElem?_cons_zero, List.getElem?_cons_succ] <;> rfl)
        case hs_97 => kernel_rfl
        case hf_97 => kernel_rfl
        case hr_97 => kernel_rfl
        case hQ_97 => exact fun _ _ _ h => h
        case hy_97 => exact Or.inr ⟨by rfl, rfl⟩
        case hS_97 => assumption
        try go_frame
        refine wpAnyH_take (i := 5) (v := undef) (oi := ?_) ?hi_98 ?hs_98 ?hf_98 ?hr_98 ?hQ_98 ?hy_98 ?hS_98 ?h_98
        case hi_98 => (simp only [List.getElem?_toArray, List.getElem?_cons_zero, List.getElem?_cons_succ] <;> rfl)
        case hs_98 => kernel_rfl
        case hf_98 => kernel_rfl
        case hr_98 => kernel_rfl
        case hQ_98 => exact fun _ _ _ h => h
        case hy_98 => exact Or.inr ⟨by rfl, rfl⟩
        case hS_98 => assumption
        try go_frame
        refine wpAnyH_take (i := 6) (v := undef) (oi := ?_) ?hi_99 ?hs_99 ?hf_99 ?hr_99 ?hQ_99 ?hy_99 ?hS_99 ?h_99
        case hi_99 => (simp only [List.getElem?_toArray, List.getElem?_cons_zero, List.getElem?_cons_succ] <;> rfl)
        case hs_99 => kernel_rfl
        case hf_99 => kernel_rfl
        case hr_99 => kernel_rfl
        case hQ_99 => exact fun _ _ _ h => h
        case hy_99 => exact Or.inr ⟨by rfl, rfl⟩
        case hS_99 => assumption
        try go_frame
        refine wpAnyH_take (i := 7) (v := undef) (oi := ?_) ?hi_100 ?hs_100 ?hf_100 ?hr_100 ?hQ_100 ?hy_100 ?hS_100 ?h_100
        case hi_100 => (simp only [List.getElem?_toArray, List.getElem?_cons_zero, List.getElem?_cons_succ] <;> rfl)
        case hs_100 => kernel_rfl
        case hf_100 => kernel_rfl
        case hr_100 => kernel_rfl
        case hQ_100 => exact fun _ _ _ h => h
        case hy_100 => exact Or.inr ⟨by rfl, rfl⟩
        case hS_100 => assumption
        try go_frame
        refine wpAnyH_take (i := 8) (v := undef) (oi := ?_) ?hi_101 ?hs_101 ?hf_101 ?hr_101 ?hQ_101 ?hy_101 ?hS_101 ?h_101
        case hi_101 => (simp only [List.getElem?_toArray, List.getElem?_cons_zero, List.getElem?_cons_succ] <;> rfl)
        case hs_101 => kernel_rfl
        case hf_101 => kernel_rfl
        case hr_101 => kernel_rfl
        case hQ_101 => exact fun _ _ _ h => h
        case hy_101 => exact Or.inr ⟨by rfl, rfl⟩
        case hS_101 => assumption
        try go_frame
        refine wpAnyH_take (i := 9) (v := undef) (oi := ?_) ?hi_102 ?hs_102 ?hf_102 ?hr_102 ?hQ_102 ?hy_102 ?hS_102 ?h_102
        case hi_102 => (simp only [List.getElem?_toArray, List.getElem?_cons_zero, List.getElem?_cons_succ] <;> rfl)
        case hs_102 => kernel_rfl
        case hf_102 => kernel_rfl
        case hr_102 => kernel_rfl
        case hQ_102 => exact fun _ _ _ h => h
        case hy_102 => exact Or.inr ⟨by rfl, rfl⟩
        case hS_102 => assumption
        try go_frame
        refine wpAnyH_take (i := 10) (v := undef) (oi := ?_) ?hi_103 ?hs_103 ?hf_103 ?hr_103 ?hQ_103 ?hy_103 ?hS_103 ?h_103
        case hi_103 => (simp only [List.getElem?_toArray, List.getElem?_cons_zero, List.getElem?_cons_succ] <;> rfl)
        case hs_103 => kernel_rfl
        case hf_103 => kernel_rfl
        case hr_103 => kernel_rfl
        case hQ_103 => exact fun _ _ _ h => h
        case hy_103 => exact Or.inr ⟨by rfl, rfl⟩
        case hS_103 => assumption
        try go_frame
        refine wpAnyH_take (i := 11) (v := undef) (oi := ?_) ?hi_104 ?hs_104 ?hf_104 ?hr_104 ?hQ_104 ?hy_104 ?hS_104 ?h_104
        case hi_104 => (simp only [List.getElem?_toArray, List.getElem?_cons_zero, List.getElem?_cons_succ] <;> rfl)
        case hs_104 => kernel_rfl
        case hf_104 => kernel_rfl
        case hr_104 => kernel_rfl
        case hQ_104 => exact fun _ _ _ h => h
        case hy_104 => exact Or.inr ⟨by rfl, rfl⟩
        case hS_104 => assumption
        try go_frame
        refine wpAnyH_take (i := 12) (v := undef) (oi := ?_) ?hi_105 ?hs_105 ?hf_105 ?hr_105 ?hQ_105 ?hy_105 ?hS_105 ?h_105
        case hi_105 => (simp only [List.getElem?_toArray, List.getElem?_cons_zero, List.getElem?_cons_succ] <;> rfl)
        case hs_105 => kernel_rfl
        case hf_105 => kernel_rfl
        case hr_105 => kernel_rfl
        case hQ_105 => exact fun _ _ _ h => h
        case hy_105 => exact Or.inr ⟨by rfl, rfl⟩
        case hS_105 => assumption
        try go_frame
        refine wpAnyH_ready (rs := [13]) (by kernel_rfl) (by simp) ?_
        refine AllReadyH.cons (o := ?_) ?hi_106 (fun K hK => ?h_106) AllReadyH.nil
        case hi_106 => (simp only [List.getElem?_toArray, List.getElem?_cons_zero, List.getElem?_cons_succ] <;> rfl)
        go_simp
        refine hK.out _ _ ?_ (fun hHeld => ?_)
        · exact ⟨n2.cell k0, n2.cell k1⟩
        clear hK K
        try go_frame
        refine wpAnyH_take (i := 14) (v := undef) (oi := ?_) ?hi_107 ?hs_107 ?hf_107 ?hr_107 ?hQ_107 ?hy_107 ?hS_107 ?h_107
        case hi_107 => (simp only [List.getElem?_toArray, List.getElem?_cons_zero, List.getElem?_cons_succ] <;> rfl)
        case hs_107 => kernel_rfl
        case hf_107 => kernel_rfl
        case hr_107 => kernel_rfl
        case hQ_107 => exact fun _ _ _ h => h
        case hy_107 => exact Or.inr ⟨by rfl, rfl⟩
        case hS_107 => assumption
        try go_frame
        refine wpAnyH_take (i := 15) (v := undef) (oi := ?_) ?hi_108 ?hs_108 ?hf_108 ?hr_108 ?hQ_108 ?hy_108 ?hS_108 ?h_108
        case hi_108 => (simp only [List.getElem?_toArray, List.getElem?_cons_zero, List.getElem?_cons_succ] <;> rfl)
        case hs_108 => kernel_rfl
        case hf_108 => kernel_rfl
        case hr_108 => kernel_rfl
        case hQ_108 => exact fun _ _ _ h => h
        case hy_108 => exact Or.inr ⟨by rfl, rfl⟩
        case hS_108 => assumption
        try go_frame
        refine wpAnyH_take (i := 16) (v := ?_) (oi := ?_) ?hi_109 ?hs_109 ?hf_109 ?hr_109 ?hQ_109 ?hy_109 ?hS_109 ?h_109
        case hi_109 => (simp only [List.getElem?_toArray, List.getElem?_cons_zero, List.getElem?_cons_succ] <;> rfl)
        case hs_109 => kernel_rfl
        case hf_109 => kernel_rfl
        case hr_109 => kernel_rfl
        case hQ_109 => exact fun _ _ _ h => h
        case hy_109 => (refine Or.inl ⟨by rfl, ?_⟩; intro w hSw; (try dsimp only at hSw); go_simp; try with_reducible rfl)
        case hS_109 => assumption
        try go_frame
        refine wpAnyH_done (by kernel_rfl) ?_ _
        go_wp2_with fail
        go_ret
        exact ⟨ret_bool Hr.out.symm, n1.trans n2⟩
      · rw [hok] at hcall
        have Hcall := Lib.hid hcall
        by_cases hk0 : k = 0
        · have hr : okFrom none os = okFrom (prevAt os (k + 1)) (os.drop (k + 1)) := by
            rw [Hp.out, hstep]
            simp [okAt, hok, prevAt, hk0]
          have Hr := Lib.hid hr
          have hkd : decide ((0 : Int) < (k : Int)) = false := by simp; omega
          have hkd2 : ¬ (0 < k) := by omega
          have Hk0 := Lib.hid hk0
          clear hk0
          clear hcall ho hdrop hok hstep hr
          go_wp2_with fail
          refine wp_region_held_drew (S := (fun w' => w'.cell? ⟨wr.heap.size, 0, none⟩ = some (.string ⟨o.snap.toArray⟩) ∧ w'.cell? ⟨wr.heap.size, 1, none⟩ = some (.string ⟨o.tag.toArray⟩))) (by kernel_rfl) ?_ (fun hHeld => ?_)
          · exact ⟨k0, k1⟩
          refine wpAnyH_take (i := 0) (v := ?_) (oi := ?_) ?hi_110 ?hs_110 ?hf_110 ?hr_110 ?hQ_110 ?hy_110 ?hS_110 ?h_110
          case hi_110 => (simp only [List.getElem?_toArray, List.getElem?_cons_zero] <;> rfl)
          case hs_110 => kernel_rfl
          case hf_110 => kernel_rfl
          case hr_110 => kernel_rfl
          case hQ_110 => exact fun _ _ _ h => h
          case hy_110 => (refine Or.inl ⟨by rfl, ?_⟩; intro w hSw; (try dsimp only at hSw); go_simp; try with_reducible rfl)
          case hS_110 => assumption
          try go_frame
          refine wpAnyH_ready (rs := [1]) (by kernel_rfl) (by simp) ?_
          refine AllReadyH.cons (o := ?_) ?hi_111 (fun K hK => ?h_111) AllReadyH.nil
          case hi_111 => (simp only [List.getElem?_toArray, List.getElem?_cons_zero, List.getElem?_cons_succ] <;> rfl)
          go_simp
          (refine (Hcall.out _).mono ?_; rintro e w2 ⟨rfl, n2⟩; go_wp2_with fail)
          refine hK.out _ _ ?_ (fun hHeld => ?_)
          · exact ⟨n2.cell k0, n2.cell k1⟩
          clear hK K
          try go_frame
          refine wpAnyH_take (i := 2) (v := ?_) (oi := ?_) ?hi_112 ?hs_112 ?hf_112 ?hr_112 ?hQ_112 ?hy_112 ?hS_112 ?h_112
          case hi_112 => (simp only [List.getElem?_toArray, List.getElem?_cons_zero, List.getElem?_cons_succ] <;> rfl)
          case hs_112 => kernel_rfl
          case hf_112 => kernel_rfl
          case hr_112 => kernel_rfl
          case hQ_112 => exact fun _ _ _ h => h
          case hy_112 => (refine Or.inl ⟨by rfl, ?_⟩; intro w hSw; (try dsimp only at hSw); go_simp; try with_reducible rfl)
          case hS_112 => assumption
          try go_frame
          refine wpAnyH_take (i := 3) (v := ?_) (oi := ?_) ?hi_113 ?hs_113 ?hf_113 ?hr_113 ?hQ_113 ?hy_113 ?hS_113 ?h_113
          case hi_113 => (simp only [List.getElem?_toArray, List.getElem?_cons_zero, List.getElem?_cons_succ] <;> rfl)
          case hs_113 => kernel_rfl
          case hf_113 => kernel_rfl
          case hr_113 => kernel_rfl
          case hQ_113 => exact fun _ _ _ h => h
          case hy_113 => (refine Or.inl ⟨by rfl, ?_⟩; intro w hSw; (try dsimp only at hSw); go_simp; try with_reducible rfl)
          case hS_113 => assumption
          try go_frame
          refine wpAnyH_take (i := 4) (v := ?_) (oi := ?_) ?hi_114 ?hs_114 ?hf_114 ?hr_114 ?hQ_114 ?hy_114 ?hS_114 ?h_114
          case hi_114 => (simp only [List.getElem?_toArray, List.getElem?_cons_zero, List.getElem?_cons_succ] <;> rfl)
          case hs_114 => kernel_rfl
          case hf_114 => kernel_rfl
          case hr_114 => kernel_rfl
          case hQ_114 => exact fun _ _ _ h => h
          case hy_114 => (refine Or.inl ⟨by rfl, ?_⟩; intro w hSw; (try dsimp only at hSw); go_simp; try with_reducible rfl)
          case hS_114 => assumption
          try go_frame
          refine wpAnyH_take (i := 5) (v := ?_) (oi := ?_) ?hi_115 ?hs_115 ?hf_115 ?hr_115 ?hQ_115 ?hy_115 ?hS_115 ?h_115
          case hi_115 => (simp only [List.getElem?_toArray, List.getElem?_cons_zero, List.getElem?_cons_succ] <;> rfl)
          case hs_115 => kernel_rfl
          case hf_115 => kernel_rfl
          case hr_115 => kernel_rfl
          case hQ_115 => exact fun _ _ _ h => h
          case hy_115 => (refine Or.inl ⟨by rfl, ?_⟩; intro w hSw; (try dsimp only at hSw); go_simp; try with_reducible rfl)
          case hS_115 => assumption
          try go_frame
          refine wpAnyH_take (i := 6) (v := ?_) (oi := ?_) ?hi_116 ?hs_116 ?hf_116 ?hr_116 ?hQ_116 ?hy_116 ?hS_116 ?h_116
          case hi_116 => (simp only [List.getElem?_toArray, List.getElem?_cons_zero, List.getElem?_cons_succ] <;> rfl)
          case hs_116 => kernel_rfl
          case hf_116 => kernel_rfl
          case hr_116 => kernel_rfl
          case hQ_116 => exact fun _ _ _ h => h
          case hy_116 => (refine Or.inl ⟨by rfl, ?_⟩; intro w hSw; (try dsimp only at hSw); go_simp; try with_reducible rfl)
          case hS_116 => assumption
          try go_frame
          refine wpAnyH_take (i := 7) (v := undef) (oi := ?_) ?hi_117 ?hs_117 ?hf_117 ?hr_117 ?hQ_117 ?hy_117 ?hS_117 ?h_117
          case hi_117 => (simp only [List.getElem?_toArray, List.getElem?_cons_zero, List.getElem?_cons_succ] <;> rfl)
          case hs_117 => kernel_rfl
          case hf_117 => kernel_rfl
          case hr_117 => kernel_rfl
          case hQ_117 => exact fun _ _ _ h => h
          case hy_117 => exact Or.inr ⟨by rfl, rfl⟩
          case hS_117 => assumption
          try go_frame
          refine wpAnyH_take (i := 8) (v := undef) (oi := ?_) ?hi_118 ?hs_118 ?hf_118 ?hr_118 ?hQ_118 ?hy_118 ?hS_118 ?h_118
          case hi_118 => (simp only [List.getElem?_toArray, List.getElem?_cons_zero, List.getElem?_cons_succ] <;> rfl)
          case hs_118 => kernel_rfl
          case hf_118 => kernel_rfl
          case hr_118 => kernel_rfl
          case hQ_118 => exact fun _ _ _ h => h
          case hy_118 => exact Or.inr ⟨by rfl, rfl⟩
          case hS_118 => assumption
          try go_frame
          refine wpAnyH_take (i := 9) (v := undef) (oi := ?_) ?hi_119 ?hs_119 ?hf_119 ?hr_119 ?hQ_119 ?hy_119 ?hS_119 ?h_119
          case hi_119 => (simp only [List.getElem?_toArray, List.getElem?_cons_zero, List.getElem?_cons_succ] <;> rfl)
          case hs_119 => kernel_rfl
          case hf_119 => kernel_rfl
          case hr_119 => kernel_rfl
          case hQ_119 => exact fun _ _ _ h => h
          case hy_119 => exact Or.inr ⟨by rfl, rfl⟩
          case hS_119 => assumption
          try go_frame
          refine wpAnyH_take (i := 10) (v := undef) (oi := ?_) ?hi_120 ?hs_120 ?hf_120 ?hr_120 ?hQ_120 ?hy_120 ?hS_120 ?h_120
          case hi_120 => (simp only [List.getElem?_toArray, List.getElem?_cons_zero, List.getElem?_cons_succ] <;> rfl)
          case hs_120 => kernel_rfl
          case hf_120 => kernel_rfl
          case hr_120 => kernel_rfl
          case hQ_120 => exact fun _ _ _ h => h
          case hy_120 => exact Or.inr ⟨by rfl, rfl⟩
          case hS_120 => assumption
          try go_frame
          refine wpAnyH_take (i := 11) (v := undef) (oi := ?_) ?hi_121 ?hs_121 ?hf_121 ?hr_121 ?hQ_121 ?hy_121 ?hS_121 ?h_121
          case hi_121 => (simp only [List.getElem?_toArray, List.getElem?_cons_zero, List.getElem?_cons_succ] <;> rfl)
          case hs_121 => kernel_rfl
          case hf_121 => kernel_rfl
          case hr_121 => kernel_rfl
          case hQ_121 => exact fun _ _ _ h => h
          case hy_121 => exact Or.inr ⟨by rfl, rfl⟩
          case hS_121 => assumption
          try go_frame
          refine wpAnyH_take (i := 12) (v := undef) (oi := ?_) ?hi_122 ?hs_122 ?hf_122 ?hr_122 ?hQ_122 ?hy_122 ?hS_122 ?h_122
          case hi_122 => (simp only [List.getElem?_toArray, List.getElem?_cons_zero, List.getElem?_cons_succ] <;> rfl)
          case hs_122 => kernel_rfl
          case hf_122 => kernel_rfl
          case hr_122 => kernel_rfl
          case hQ_122 => exact fun _ _ _ h => h
          case hy_122 => exact Or.inr ⟨by rfl, rfl⟩
          case hS_122 => assumption
          try go_frame
          refine wpAnyH_ready (rs := [13]) (by kernel_rfl) (by simp) ?_
          refine AllReadyH.cons (o := ?_) ?hi_123 (fun K hK => ?h_123) AllReadyH.nil
          case hi_123 => (simp only [List.getElem?_toArray, List.getElem?_cons_zero, List.getElem?_cons_succ] <;> rfl)
          go_simp
          refine hK.out _ _ ?_ (fun hHeld => ?_)
          · exact ⟨n2.cell k0, n2.cell k1⟩
          clear hK K
          try go_frame
          refine wpAnyH_take (i := 14) (v := undef) (oi := ?_) ?hi_124 ?hs_124 ?hf_124 ?hr_124 ?hQ_124 ?hy_124 ?hS_124 ?h_124
          case hi_124 => (simp only [List.getElem?_toArray, List.getElem?_cons_zero, List.getElem?_cons_succ] <;> rfl)
          case hs_124 => kernel_rfl
          case hf_124 => kernel_rfl
          case hr_124 => kernel_rfl
          case hQ_124 => exact fun _ _ _ h => h
          case hy_124 => exact Or.inr ⟨by rfl, rfl⟩
          case hS_124 => assumption
          try go_frame
          refine wpAnyH_take (i := 15) (v := ?_) (oi := ?_) ?hi_125 ?hs_125 ?hf_125 ?hr_125 ?hQ_125 ?hy_125 ?hS_125 ?h_125
          case hi_125 => (simp only [List.getElem?_toArray, List.getElem?_cons_zero, List.getElem?_cons_succ] <;> rfl)
          case hs_125 => kernel_rfl
          case hf_125 => kernel_rfl
          case hr_125 => kernel_rfl
          case hQ_125 => exact fun _ _ _ h => h
          case hy_125 => (refine Or.inl ⟨by rfl, ?_⟩; intro w hSw; (try dsimp only at hSw); go_simp; try with_reducible rfl)
          case hS_125 => assumption
          try go_frame
          refine wpAnyH_take (i := 16) (v := ?_) (oi := ?_) ?hi_126 ?hs_126 ?hf_126 ?hr_126 ?hQ_126 ?hy_126 ?hS_126 ?h_126
          case hi_126 => (simp only [List.getElem?_toArray, List.getElem?_cons_zero, List.getElem?_cons_succ] <;> rfl)
          case hs_126 => kernel_rfl
          case hf_126 => kernel_rfl
          case hr_126 => kernel_rfl
          case hQ_126 => exact fun _ _ _ h => h
          case hy_126 => (refine Or.inl ⟨by rfl, ?_⟩; intro w hSw; (try dsimp only at hSw); go_simp; try with_reducible rfl)
          case hS_126 => assumption
          try go_frame
          refine wpAnyH_done (by kernel_rfl) ?_ _
          go_wp2_with fail
          go_roundg (os.length - (k + 1))
          case measure => rw [Hgk.out]; omega
          case rel => exact ⟨k + 1, rfl, by omega, by go_num, n1.trans n2, Hr.out⟩
        · obtain ⟨m, rfl⟩ : ∃ m, k = m + 1 := ⟨k - 1, by omega⟩
          obtain ⟨y, hy⟩ := get_of (xs := os) (k := m) (by omega)
          obtain ⟨b', off', c'', e1, -, d0, d1, -, -⟩ := Hat.out wr hn m y hy
          simp only [Value.slice.injEq, Option.some.injEq, Addr.mk.injEq] at e1
          obtain ⟨⟨rfl, rfl, -⟩, -, rfl⟩ := e1
          generalize hkm : m + 1 = k at *
          unfold txt at d0 d1
          have k2 : (wr.alloc (.cells #[.string ⟨o.snap.toArray⟩, .string ⟨o.tag.toArray⟩] 25)).drew.cell? ⟨b, off + m * 2, none⟩ = some (.string ⟨y.snap.toArray⟩) := nb.cell d0
          have k3 : (wr.alloc (.cells #[.string ⟨o.snap.toArray⟩, .string ⟨o.tag.toArray⟩] 25)).drew.cell? ⟨b, off + m * 2 + 1, none⟩ = some (.string ⟨y.tag.toArray⟩) := nb.cell d1
          have hpv : prevAt os k = some y := by rw [← hkm]; exact prevAt_succ hy
          rw [hpv] at hstep
          have hbef := fun (W : World) => Hord.out y o W
          have hcn := hCmp_neg y o
          generalize hCmp y o = r at hbef hcn
          unfold txt at hbef
          have hkd : decide ((0 : Int) < (k : Int)) = true := by simp; omega
          have hkd2 : 0 < k := by omega
          have hw1 : IntKind.i64.wrap ((k : Int) - 1) = (m : Int) := by
            have : (k : Int) - 1 = (m : Int) := by omega
            rw [this]
            exact IntWalk.i64_in _ (by omega)
          have hm0 : (0 : Int) ≤ (m : Int) := by omega
          have hm1 : (m : Int) < (os.length : Int) := by omega
          rcases hlt2 : hLt y o with _ | _
          · rw [hlt2] at hcn
            have hr0 : (0 : Int) ≤ r := by simp at hcn; exact hcn
            have Hb := Lib.hid hbef
            have hr : okFrom none os = false := by rw [hstep]; simp [okAt, hok, hlt2]
            have Hr := Lib.hid hr
            clear hcall ho hdrop hok hstep hr hkm hpv hy hlt2 hbef d0 d1 hcn
            go_wp2_with fail
            refine wp_region_held_drew (S := (fun w' => (w'.cell? ⟨wr.heap.size, 0, none⟩ = some (.string ⟨o.snap.toArray⟩) ∧ w'.cell? ⟨wr.heap.size, 1, none⟩ = some (.string ⟨o.tag.toArray⟩)) ∧ w'.cell? ⟨b, off + m * 2, none⟩ = some (.string ⟨y.snap.toArray⟩) ∧ w'.cell? ⟨b, off + m * 2 + 1, none⟩ = some (.string ⟨y.tag.toArray⟩))) (by kernel_rfl) ?_ (fun hHeld => ?_)
            · exact ⟨⟨k0, k1⟩, k2, k3⟩
            refine wpAnyH_take (i := 0) (v := ?_) (oi := ?_) ?hi_127 ?hs_127 ?hf_127 ?hr_127 ?hQ_127 ?hy_127 ?hS_127 ?h_127
            case hi_127 => (simp only [List.getElem?_toArray, List.getElem?_cons_zero] <;> rfl)
            case hs_127 => kernel_rfl
            case hf_127 => kernel_rfl
            case hr_127 => kernel_rfl
            case hQ_127 => exact fun _ _ _ h => h
            case hy_127 => (refine Or.inl ⟨by rfl, ?_⟩; intro w hSw; (try dsimp only at hSw); go_simp; try with_reducible rfl)
            case hS_127 => assumption
            try go_frame
            refine wpAnyH_ready (rs := [1]) (by kernel_rfl) (by simp) ?_
            refine AllReadyH.cons (o := ?_) ?hi_128 (fun K hK => ?h_128) AllReadyH.nil
            case hi_128 => (simp only [List.getElem?_toArray, List.getElem?_cons_zero, List.getElem?_cons_succ] <;> rfl)
            go_simp
            (refine (Hcall.out _).mono ?_; rintro e w2 ⟨rfl, n2⟩; go_wp2_with fail)
            refine hK.out _ _ ?_ (fun hHeld => ?_)
            · exact ⟨⟨n2.cell k0, n2.cell k1⟩, n2.cell k2, n2.cell k3⟩
            clear hK K
            try go_frame
            refine wpAnyH_take (i := 2) (v := ?_) (oi := ?_) ?hi_129 ?hs_129 ?hf_129 ?hr_129 ?hQ_129 ?hy_129 ?hS_129 ?h_129
            case hi_129 => (simp only [List.getElem?_toArray, List.getElem?_cons_zero, List.getElem?_cons_succ] <;> rfl)
            case hs_129 => kernel_rfl
            case hf_129 => kernel_rfl
            case hr_129 => kernel_rfl
            case hQ_129 => exact fun _ _ _ h => h
            case hy_129 => (refine Or.inl ⟨by rfl, ?_⟩; intro w hSw; (try dsimp only at hSw); go_simp; try with_reducible rfl)
            case hS_129 => assumption
            try go_frame
            refine wpAnyH_take (i := 3) (v := ?_) (oi := ?_) ?hi_130 ?hs_130 ?hf_130 ?hr_130 ?hQ_130 ?hy_130 ?hS_130 ?h_130
            case hi_130 => (simp only [List.getElem?_toArray, List.getElem?_cons_zero, List.getElem?_cons_succ] <;> rfl)
            case hs_130 => kernel_rfl
            case hf_130 => kernel_rfl
            case hr_130 => kernel_rfl
            case hQ_130 => exact fun _ _ _ h => h
            case hy_130 => (refine Or.inl ⟨by rfl, ?_⟩; intro w hSw; (try dsimp only at hSw); go_simp; try with_reducible rfl)
            case hS_130 => assumption
            try go_frame
            refine wpAnyH_take (i := 4) (v := ?_) (oi := ?_) ?hi_131 ?hs_131 ?hf_131 ?hr_131 ?hQ_131 ?hy_131 ?hS_131 ?h_131
            case hi_131 => (simp only [List.getElem?_toArray, List.getElem?_cons_zero, List.getElem?_cons_succ] <;> rfl)
            case hs_131 => kernel_rfl
            case hf_131 => kernel_rfl
            case hr_131 => kernel_rfl
            case hQ_131 => exact fun _ _ _ h => h
            case hy_131 => (refine Or.inl ⟨by rfl, ?_⟩; intro w hSw; (try dsimp only at hSw); go_simp; try with_reducible rfl)
            case hS_131 => assumption
            try go_frame
            refine wpAnyH_take (i := 5) (v := ?_) (oi := ?_) ?hi_132 ?hs_132 ?hf_132 ?hr_132 ?hQ_132 ?hy_132 ?hS_132 ?h_132
            case hi_132 => (simp only [List.getElem?_toArray, List.getElem?_cons_zero, List.getElem?_cons_succ] <;> rfl)
            case hs_132 => kernel_rfl
            case hf_132 => kernel_rfl
            case hr_132 => kernel_rfl
            case hQ_132 => exact fun _ _ _ h => h
            case hy_132 => (refine Or.inl ⟨by rfl, ?_⟩; intro w hSw; (try dsimp only at hSw); go_simp; try with_reducible rfl)
            case hS_132 => assumption
            try go_frame
            refine wpAnyH_take (i := 6) (v := ?_) (oi := ?_) ?hi_133 ?hs_133 ?hf_133 ?hr_133 ?hQ_133 ?hy_133 ?hS_133 ?h_133
            case hi_133 => (simp only [List.getElem?_toArray, List.getElem?_cons_zero, List.getElem?_cons_succ] <;> rfl)
            case hs_133 => kernel_rfl
            case hf_133 => kernel_rfl
            case hr_133 => kernel_rfl
            case hQ_133 => exact fun _ _ _ h => h
            case hy_133 => (refine Or.inl ⟨by rfl, ?_⟩; intro w hSw; (try dsimp only at hSw); go_simp; try with_reducible rfl)
            case hS_133 => assumption
            try go_frame
            refine wpAnyH_take (i := 7) (v := ?_) (oi := ?_) ?hi_134 ?hs_134 ?hf_134 ?hr_134 ?hQ_134 ?hy_134 ?hS_134 ?h_134
            case hi_134 => (simp only [List.getElem?_toArray, List.getElem?_cons_zero, List.getElem?_cons_succ] <;> rfl)
            case hs_134 => kernel_rfl
            case hf_134 => kernel_rfl
            case hr_134 => kernel_rfl
            case hQ_134 => exact fun _ _ _ h => h
            case hy_134 => (refine Or.inl ⟨by rfl, ?_⟩; intro w hSw; (try dsimp only at hSw); go_simp; try with_reducible rfl)
            case hS_134 => assumption
            try go_frame
            refine wpAnyH_take (i := 8) (v := ?_) (oi := ?_) ?hi_135 ?hs_135 ?hf_135 ?hr_135 ?hQ_135 ?hy_135 ?hS_135 ?h_135
            case hi_135 => (simp only [List.getElem?_toArray, List.getElem?_cons_zero, List.getElem?_cons_succ] <;> rfl)
            case hs_135 => kernel_rfl
            case hf_135 => kernel_rfl
            case hr_135 => kernel_rfl
            case hQ_135 => exact fun _ _ _ h => h
            case hy_135 => (refine Or.inl ⟨by rfl, ?_⟩; intro w hSw; (try dsimp only at hSw); go_simp; try with_reducible rfl)
            case hS_135 => assumption
            try go_frame
            refine wpAnyH_take (i := 9) (v := ?_) (oi := ?_) ?hi_136 ?hs_136 ?hf_136 ?hr_136 ?hQ_136 ?hy_136 ?hS_136 ?h_136
            case hi_136 => (simp only [List.getElem?_toArray, List.getElem?_cons_zero, List.getElem?_cons_succ] <;> rfl)
            case hs_136 => kernel_rfl
            case hf_136 => kernel_rfl
            case hr_136 => kernel_rfl
            case hQ_136 => exact fun _ _ _ h => h
            case hy_136 => (refine Or.inl ⟨by rfl, ?_⟩; intro w hSw; (try dsimp only at hSw); go_simp; try with_reducible rfl)
            case hS_136 => assumption
            try go_frame
            refine wpAnyH_take (i := 10) (v := ?_) (oi := ?_) ?hi_137 ?hs_137 ?hf_137 ?hr_137 ?hQ_137 ?hy_137 ?hS_137 ?h_137
            case hi_137 => (simp only [List.getElem?_toArray, List.getElem?_cons_zero, List.getElem?_cons_succ] <;> rfl)
            case hs_137 => kernel_rfl
            case hf_137 => kernel_rfl
            case hr_137 => kernel_rfl
            case hQ_137 => exact fun _ _ _ h => h
            case hy_137 => (refine Or.inl ⟨by rfl, ?_⟩; intro w hSw; (try dsimp only at hSw); go_simp; try with_reducible rfl)
            case hS_137 => assumption
            try go_frame
            refine wpAnyH_take (i := 11) (v := ?_) (oi := ?_) ?hi_138 ?hs_138 ?hf_138 ?hr_138 ?hQ_138 ?hy_138 ?hS_138 ?h_138
            case hi_138 => (simp only [List.getElem?_toArray, List.getElem?_cons_zero, List.getElem?_cons_succ] <;> rfl)
            case hs_138 => kernel_rfl
            case hf_138 => kernel_rfl
            case hr_138 => kernel_rfl
            case hQ_138 => exact fun _ _ _ h => h
            case hy_138 => (refine Or.inl ⟨by rfl, ?_⟩; intro w hSw; (try dsimp only at hSw); go_simp; try with_reducible rfl)
            case hS_138 => assumption
            try go_frame
            refine wpAnyH_take (i := 12) (v := ?_) (oi := ?_) ?hi_139 ?hs_139 ?hf_139 ?hr_139 ?hQ_139 ?hy_139 ?hS_139 ?h_139
            case hi_139 => (simp only [List.getElem?_toArray, List.getElem?_cons_zero, List.getElem?_cons_succ] <;> rfl)
            case hs_139 => kernel_rfl
            case hf_139 => kernel_rfl
            case hr_139 => kernel_rfl
            case hQ_139 => exact fun _ _ _ h => h
            case hy_139 => (refine Or.inl ⟨by rfl, ?_⟩; intro w hSw; (try dsimp only at hSw); go_simp; try with_reducible rfl)
            case hS_139 => assumption
            try go_frame
            refine wpAnyH_ready (rs := [13]) (by kernel_rfl) (by simp) ?_
            refine AllReadyH.cons (o := ?_) ?hi_140 (fun K hK => ?h_140) AllReadyH.nil
            case hi_140 => (simp only [List.getElem?_toArray, List.getElem?_cons_zero, List.getElem?_cons_succ] <;> rfl)
            go_simp
            (refine (Hb.out _).mono ?_; rintro e w3 ⟨rfl, n3⟩; go_wp2_with fail)
            refine hK.out _ _ ?_ (fun hHeld => ?_)
            · exact ⟨⟨n3.cell (n2.cell k0), n3.cell (n2.cell k1)⟩, n3.cell (n2.cell k2), n3.cell (n2.cell k3)⟩
            clear hK K
            try go_frame
            refine wpAnyH_take (i := 14) (v := ?_) (oi := ?_) ?hi_141 ?hs_141 ?hf_141 ?hr_141 ?hQ_141 ?hy_141 ?hS_141 ?h_141
            case hi_141 => (simp only [List.getElem?_toArray, List.getElem?_cons_zero, List.getElem?_cons_succ] <;> rfl)
            case hs_141 => kernel_rfl
            case hf_141 => kernel_rfl
            case hr_141 => kernel_rfl
            case hQ_141 => exact fun _ _ _ h => h
            case hy_141 => (refine Or.inl ⟨by rfl, ?_⟩; intro w hSw; (try dsimp only at hSw); go_simp; try with_reducible rfl)
            case hS_141 => assumption
            try go_frame
            refine wpAnyH_take (i := 15) (v := ?_) (oi := ?_) ?hi_142 ?hs_142 ?hf_142 ?hr_142 ?hQ_142 ?hy_142 ?hS_142 ?h_142
            case hi_142 => (simp only [List.getElem?_toArray, List.getElem?_cons_zero, List.getElem?_cons_succ] <;> rfl)
            case hs_142 => kernel_rfl
            case hf_142 => kernel_rfl
            case hr_142 => kernel_rfl
            case hQ_142 => exact fun _ _ _ h => h
            case hy_142 => (refine Or.inl ⟨by rfl, ?_⟩; intro w hSw; (try dsimp only at hSw); go_simp; try with_reducible rfl)
            case hS_142 => assumption
            try go_frame
            refine wpAnyH_take (i := 16) (v := ?_) (oi := ?_) ?hi_143 ?hs_143 ?hf_143 ?hr_143 ?hQ_143 ?hy_143 ?hS_143 ?h_143
            case hi_143 => (simp only [List.getElem?_toArray, List.getElem?_cons_zero, List.getElem?_cons_succ] <;> rfl)
            case hs_143 => kernel_rfl
            case hf_143 => kernel_rfl
            case hr_143 => kernel_rfl
            case hQ_143 => exact fun _ _ _ h => h
            case hy_143 => (refine Or.inl ⟨by rfl, ?_⟩; intro w hSw; (try dsimp only at hSw); go_simp; try with_reducible rfl)
            case hS_143 => assumption
            try go_frame
            refine wpAnyH_done (by kernel_rfl) ?_ _
            go_wp2_with fail
            go_ret
            exact ⟨ret_bool Hr.out.symm, (n1.trans n2).trans n3⟩
          · rw [hlt2] at hcn
            have hr0 : ¬ ((0 : Int) ≤ r) := by simp at hcn; omega
            have Hb := Lib.hid hbef
            have hr : okFrom none os = okFrom (prevAt os (k + 1)) (os.drop (k + 1)) := by rw [Hp.out, hstep]; simp [okAt, hok, hlt2]
            have Hr := Lib.hid hr
            clear hcall ho hdrop hok hstep hr hkm hpv hy hlt2 hbef d0 d1 hcn
            go_wp2_with fail
            refine wp_region_held_drew (S := (fun w' => (w'.cell? ⟨wr.heap.size, 0, none⟩ = some (.string ⟨o.snap.toArray⟩) ∧ w'.cell? ⟨wr.heap.size, 1, none⟩ = some (.string ⟨o.tag.toArray⟩)) ∧ w'.cell? ⟨b, off + m * 2, none⟩ = some (.string ⟨y.snap.toArray⟩) ∧ w'.cell? ⟨b, off + m * 2 + 1, none⟩ = some (.string ⟨y.tag.toArray⟩))) (by kernel_rfl) ?_ (fun hHeld => ?_)
            · exact ⟨⟨k0, k1⟩, k2, k3⟩
            refine wpAnyH_take (i := 0) (v := ?_) (oi := ?_) ?hi_144 ?hs_144 ?hf_144 ?hr_144 ?hQ_144 ?hy_144 ?hS_144 ?h_144
            case hi_144 => (simp only [List.getElem?_toArray, List.getElem?_cons_zero] <;> rfl)
            case hs_144 => kernel_rfl
            case hf_144 => kernel_rfl
            case hr_144 => kernel_rfl
            case hQ_144 => exact fun _ _ _ h => h
            case hy_144 => (refine Or.inl ⟨by rfl, ?_⟩; intro w hSw; (try dsimp only at hSw); go_simp; try with_reducible rfl)
            case hS_144 => assumption
            try go_frame
            refine wpAnyH_ready (rs := [1]) (by kernel_rfl) (by simp) ?_
            refine AllReadyH.cons (o := ?_) ?hi_145 (fun K hK => ?h_145) AllReadyH.nil
            case hi_145 => (simp only [List.getElem?_toArray, List.getElem?_cons_zero, List.getElem?_cons_succ] <;> rfl)
            go_simp
            (refine (Hcall.out _).mono ?_; rintro e w2 ⟨rfl, n2⟩; go_wp2_with fail)
            refine hK.out _ _ ?_ (fun hHeld => ?_)
            · exact ⟨⟨n2.cell k0, n2.cell k1⟩, n2.cell k2, n2.cell k3⟩
            clear hK K
            try go_frame
            refine wpAnyH_take (i := 2) (v := ?_) (oi := ?_) ?hi_146 ?hs_146 ?hf_146 ?hr_146 ?hQ_146 ?hy_146 ?hS_146 ?h_146
            case hi_146 => (simp only [List.getElem?_toArray, List.getElem?_cons_zero, List.getElem?_cons_succ] <;> rfl)
            case hs_146 => kernel_rfl
            case hf_146 => kernel_rfl
            case hr_146 => kernel_rfl
            case hQ_146 => exact fun _ _ _ h => h
            case hy_146 => (refine Or.inl ⟨by rfl, ?_⟩; intro w hSw; (try dsimp only at hSw); go_simp; try with_reducible rfl)
            case hS_146 => assumption
            try go_frame
            refine wpAnyH_take (i := 3) (v := ?_) (oi := ?_) ?hi_147 ?hs_147 ?hf_147 ?hr_147 ?hQ_147 ?hy_147 ?hS_147 ?h_147
            case hi_147 => (simp only [List.getElem?_toArray, List.getElem?_cons_zero, List.getElem?_cons_succ] <;> rfl)
            case hs_147 => kernel_rfl
            case hf_147 => kernel_rfl
            case hr_147 => kernel_rfl
            case hQ_147 => exact fun _ _ _ h => h
            case hy_147 => (refine Or.inl ⟨by rfl, ?_⟩; intro w hSw; (try dsimp only at hSw); go_simp; try with_reducible rfl)
            case hS_147 => assumption
            try go_frame
            refine wpAnyH_take (i := 4) (v := ?_) (oi := ?_) ?hi_148 ?hs_148 ?hf_148 ?hr_148 ?hQ_148 ?hy_148 ?hS_148 ?h_148
            case hi_148 => (simp only [List.getElem?_toArray, List.getElem?_cons_zero, List.getElem?_cons_succ] <;> rfl)
            case hs_148 => kernel_rfl
            case hf_148 => kernel_rfl
            case hr_148 => kernel_rfl
            case hQ_148 => exact fun _ _ _ h => h
            case hy_148 => (refine Or.inl ⟨by rfl, ?_⟩; intro w hSw; (try dsimp only at hSw); go_simp; try with_reducible rfl)
            case hS_148 => assumption
            try go_frame
            refine wpAnyH_take (i := 5) (v := ?_) (oi := ?_) ?hi_149 ?hs_149 ?hf_149 ?hr_149 ?hQ_149 ?hy_149 ?hS_149 ?h_149
            case hi_149 => (simp only [List.getElem?_toArray, List.getElem?_cons_zero, List.getElem?_cons_succ] <;> rfl)
            case hs_149 => kernel_rfl
            case hf_149 => kernel_rfl
            case hr_149 => kernel_rfl
            case hQ_149 => exact fun _ _ _ h => h
            case hy_149 => (refine Or.inl ⟨by rfl, ?_⟩; intro w hSw; (try dsimp only at hSw); go_simp; try with_reducible rfl)
            case hS_149 => assumption
            try go_frame
            refine wpAnyH_take (i := 6) (v := ?_) (oi := ?_) ?hi_150 ?hs_150 ?hf_150 ?hr_150 ?hQ_150 ?hy_150 ?hS_150 ?h_150
            case hi_150 => (simp only [List.getElem?_toArray, List.getElem?_cons_zero, List.getElem?_cons_succ] <;> rfl)
            case hs_150 => kernel_rfl
            case hf_150 => kernel_rfl
            case hr_150 => kernel_rfl
            case hQ_150 => exact fun _ _ _ h => h
            case hy_150 => (refine Or.inl ⟨by rfl, ?_⟩; intro w hSw; (try dsimp only at hSw); go_simp; try with_reducible rfl)
            case hS_150 => assumption
            try go_frame
            refine wpAnyH_take (i := 7) (v := ?_) (oi := ?_) ?hi_151 ?hs_151 ?hf_151 ?hr_151 ?hQ_151 ?hy_151 ?hS_151 ?h_151
            case hi_151 => (simp only [List.getElem?_toArray, List.getElem?_cons_zero, List.getElem?_cons_succ] <;> rfl)
            case hs_151 => kernel_rfl
            case hf_151 => kernel_rfl
            case hr_151 => kernel_rfl
            case hQ_151 => exact fun _ _ _ h => h
            case hy_151 => (refine Or.inl ⟨by rfl, ?_⟩; intro w hSw; (try dsimp only at hSw); go_simp; try with_reducible rfl)
            case hS_151 => assumption
            try go_frame
            refine wpAnyH_take (i := 8) (v := ?_) (oi := ?_) ?hi_152 ?hs_152 ?hf_152 ?hr_152 ?hQ_152 ?hy_152 ?hS_152 ?h_152
            case hi_152 => (simp only [List.getElem?_toArray, List.getElem?_cons_zero, List.getElem?_cons_succ] <;> rfl)
            case hs_152 => kernel_rfl
            case hf_152 => kernel_rfl
            case hr_152 => kernel_rfl
            case hQ_152 => exact fun _ _ _ h => h
            case hy_152 => (refine Or.inl ⟨by rfl, ?_⟩; intro w hSw; (try dsimp only at hSw); go_simp; try with_reducible rfl)
            case hS_152 => assumption
            try go_frame
            refine wpAnyH_take (i := 9) (v := ?_) (oi := ?_) ?hi_153 ?hs_153 ?hf_153 ?hr_153 ?hQ_153 ?hy_153 ?hS_153 ?h_153
            case hi_153 => (simp only [List.getElem?_toArray, List.getElem?_cons_zero, List.getElem?_cons_succ] <;> rfl)
            case hs_153 => kernel_rfl
            case hf_153 => kernel_rfl
            case hr_153 => kernel_rfl
            case hQ_153 => exact fun _ _ _ h => h
            case hy_153 => (refine Or.inl ⟨by rfl, ?_⟩; intro w hSw; (try dsimp only at hSw); go_simp; try with_reducible rfl)
            case hS_153 => assumption
            try go_frame
            refine wpAnyH_take (i := 10) (v := ?_) (oi := ?_) ?hi_154 ?hs_154 ?hf_154 ?hr_154 ?hQ_154 ?hy_154 ?hS_154 ?h_154
            case hi_154 => (simp only [List.getElem?_toArray, List.getElem?_cons_zero, List.getElem?_cons_succ] <;> rfl)
            case hs_154 => kernel_rfl
            case hf_154 => kernel_rfl
            case hr_154 => kernel_rfl
            case hQ_154 => exact fun _ _ _ h => h
            case hy_154 => (refine Or.inl ⟨by rfl, ?_⟩; intro w hSw; (try dsimp only at hSw); go_simp; try with_reducible rfl)
            case hS_154 => assumption
            try go_frame
            refine wpAnyH_take (i := 11) (v := ?_) (oi := ?_) ?hi_155 ?hs_155 ?hf_155 ?hr_155 ?hQ_155 ?hy_155 ?hS_155 ?h_155
            case hi_155 => (simp only [List.getElem?_toArray, List.getElem?_cons_zero, List.getElem?_cons_succ] <;> rfl)
            case hs_155 => kernel_rfl
            case hf_155 => kernel_rfl
            case hr_155 => kernel_rfl
            case hQ_155 => exact fun _ _ _ h => h
            case hy_155 => (refine Or.inl ⟨by rfl, ?_⟩; intro w hSw; (try dsimp only at hSw); go_simp; try with_reducible rfl)
            case hS_155 => assumption
            try go_frame
            refine wpAnyH_take (i := 12) (v := ?_) (oi := ?_) ?hi_156 ?hs_156 ?hf_156 ?hr_156 ?hQ_156 ?hy_156 ?hS_156 ?h_156
            case hi_156 => (simp only [List.getElem?_toArray, List.getElem?_cons_zero, List.getElem?_cons_succ] <;> rfl)
            case hs_156 => kernel_rfl
            case hf_156 => kernel_rfl
            case hr_156 => kernel_rfl
            case hQ_156 => exact fun _ _ _ h => h
            case hy_156 => (refine Or.inl ⟨by rfl, ?_⟩; intro w hSw; (try dsimp only at hSw); go_simp; try with_reducible rfl)
            case hS_156 => assumption
            try go_frame
            refine wpAnyH_ready (rs := [13]) (by kernel_rfl) (by simp) ?_
            refine AllReadyH.cons (o := ?_) ?hi_157 (fun K hK => ?h_157) AllReadyH.nil
            case hi_157 => (simp only [List.getElem?_toArray, List.getElem?_cons_zero, List.getElem?_cons_succ] <;> rfl)
            go_simp
            (refine (Hb.out _).mono ?_; rintro e w3 ⟨rfl, n3⟩; go_wp2_with fail)
            refine hK.out _ _ ?_ (fun hHeld => ?_)
            · exact ⟨⟨n3.cell (n2.cell k0), n3.cell (n2.cell k1)⟩, n3.cell (n2.cell k2), n3.cell (n2.cell k3)⟩
            clear hK K
            try go_frame
            refine wpAnyH_take (i := 14) (v := ?_) (oi := ?_) ?hi_158 ?hs_158 ?hf_158 ?hr_158 ?hQ_158 ?hy_158 ?hS_158 ?h_158
            case hi_158 => (simp only [List.getElem?_toArray, List.getElem?_cons_zero, List.getElem?_cons_succ] <;> rfl)
            case hs_158 => kernel_rfl
            case hf_158 => kernel_rfl
            case hr_158 => kernel_rfl
            case hQ_158 => exact fun _ _ _ h => h
            case hy_158 => (refine Or.inl ⟨by rfl, ?_⟩; intro w hSw; (try dsimp only at hSw); go_simp; try with_reducible rfl)
            case hS_158 => assumption
            try go_frame
            refine wpAnyH_take (i := 15) (v := ?_) (oi := ?_) ?hi_159 ?hs_159 ?hf_159 ?hr_159 ?hQ_159 ?hy_159 ?hS_159 ?h_159
            case hi_159 => (simp only [List.getElem?_toArray, List.getElem?_cons_zero, List.getElem?_cons_succ] <;> rfl)
            case hs_159 => kernel_rfl
            case hf_159 => kernel_rfl
            case hr_159 => kernel_rfl
            case hQ_159 => exact fun _ _ _ h => h
            case hy_159 => (refine Or.inl ⟨by rfl, ?_⟩; intro w hSw; (try dsimp only at hSw); go_simp; try with_reducible rfl)
            case hS_159 => assumption
            try go_frame
            refine wpAnyH_take (i := 16) (v := ?_) (oi := ?_) ?hi_160 ?hs_160 ?hf_160 ?hr_160 ?hQ_160 ?hy_160 ?hS_160 ?h_160
            case hi_160 => (simp only [List.getElem?_toArray, List.getElem?_cons_zero, List.getElem?_cons_succ] <;> rfl)
            case hs_160 => kernel_rfl
            case hf_160 => kernel_rfl
            case hr_160 => kernel_rfl
            case hQ_160 => exact fun _ _ _ h => h
            case hy_160 => (refine Or.inl ⟨by rfl, ?_⟩; intro w hSw; (try dsimp only at hSw); go_simp; try with_reducible rfl)
            case hS_160 => assumption
            try go_frame
            refine wpAnyH_done (by kernel_rfl) ?_ _
            go_wp2_with fail
            go_roundg (os.length - (k + 1))
            case measure => rw [Hgk.out]; omega
            case rel => exact ⟨k + 1, rfl, by omega, by go_num, (n1.trans n2).trans n3, Hr.out⟩
    · have hr : okFrom none os = true := by rw [Ha.out, drop_end hlt]; rfl
      have Hr := Lib.hid hr
      clear hr
      go_wp2_with fail
      go_ret
      exact ⟨ret_bool Hr.out.symm, hn⟩

set_option maxRecDepth 4000 in
set_option maxHeartbeats 1000000 in
theorem specHas {S : Nat → Prop} (v : Value) (os : List HoldR) (x : HoldR) (w : World) (h : Holds S w v os) :
    Calls Try.prog 42 #[v, .agg #[.string ⟨x.snap.toArray⟩, .string ⟨x.tag.toArray⟩]] w fun e w' => e = .returned (.bool (decide (x ∈ os))) ∧ New w w' := by
  have hnb := (New.refl w).alloc (.cells #[.string ⟨x.snap.toArray⟩, .string ⟨x.tag.toArray⟩] 25)
  have hbx := heap_alloc_new w (.cells #[.string ⟨x.snap.toArray⟩, .string ⟨x.tag.toArray⟩] 25)
  have h0 := h.new hnb
  have q0 : (w.alloc (.cells #[.string ⟨x.snap.toArray⟩, .string ⟨x.tag.toArray⟩] 25)).cell? ⟨w.heap.size, 0, none⟩ = some (.string ⟨x.snap.toArray⟩) := by
    unfold World.cell?; rw [hbx]; rfl
  have q1 : (w.alloc (.cells #[.string ⟨x.snap.toArray⟩, .string ⟨x.tag.toArray⟩] 25)).cell? ⟨w.heap.size, 1, none⟩ = some (.string ⟨x.tag.toArray⟩) := by
    unfold World.cell?; rw [hbx]; rfl
  obtain ⟨-, a, c, rfl, h1, h2, -⟩ := h
  unfold maxLen at h2
  clear hbx
  go_enter Try.func42, Try.ntmps42
  go_wp2_with fail
  generalize w.alloc (.cells #[.string ⟨x.snap.toArray⟩, .string ⟨x.tag.toArray⟩] 25) = wb at *
  generalize w.heap.size = g at *
  have hat := fun (W : World) (n : New wb W) (k : Nat) (o : HoldR) (ho : os[k]? = some o) => Holds.at (Recs.new h0 n) ho
  have Hat := Lib.hid hat
  clear hat h0
  go_loopg [5] os.length (fun gk i wr => ∃ (k : Nat), gk = os.length - k ∧ k ≤ os.length ∧ i = .int .i64 k ∧ New wb wr ∧ decide (x ∈ os) = decide (x ∈ os.drop k))
  case atStart => exact ⟨0, by omega, by omega, rfl, New.refl _, rfl⟩
  case round =>
    obtain ⟨k, hgk, hk, rfl, hn, ha⟩ := hrel
    have Hgk := Lib.hid hgk
    have Ha := Lib.hid ha
    have r0 := hn.cell q0
    have r1 := hn.cell q1
    clear hgk ha
    by_cases hlt : k < os.length
    · obtain ⟨o, ho⟩ := get_of hlt
      obtain ⟨b, off, c', e1, hb, c0, c1, -, -⟩ := Hat.out wr hn k o ho
      simp only [Value.slice.injEq] at e1
      obtain ⟨rfl, -, rfl⟩ := e1
      have Hdrop := Lib.hid (drop_of ho)
      unfold txt at c0 c1
      clear ho
      by_cases hx : o = x
      · subst hx
        have Hr := Lib.hid (show decide (o ∈ os) = true by rw [Ha.out, Hdrop.out]; simp)
        go_wp2
        go_quiet (fail)
        go_wp2
        go_ret
        exact ⟨ret_bool Hr.out.symm, by first | exact (hnb.trans hn).drewN _ | exact (hnb.trans hn).drew | exact (hnb.trans hn)⟩
      · have Hr := Lib.hid (show decide (x ∈ os) = decide (x ∈ os.drop (k + 1)) by rw [Ha.out, Hdrop.out]; simp [show ¬ x = o from fun e => hx e.symm])
        have hne : ¬ (o.snap = x.snap ∧ o.tag = x.tag) := by
          rintro ⟨e1, e2⟩
          apply hx
          obtain ⟨a1, a2⟩ := o
          obtain ⟨b1, b2⟩ := x
          simp only at e1 e2
          rw [e1, e2]
        have hne2 : (o.snap == x.snap && o.tag == x.tag) = false := by simpa using hne
        have Hx := Lib.hid hx
        clear hx
        by_cases hs : o.snap = x.snap
        · have ht : ¬ o.tag = x.tag := fun e => hne ⟨hs, e⟩
          have ht2 : (o.tag == x.tag) = false := by simp [ht]
          clear hne hne2
          rw [hs] at c0
          go_wp2
          go_quiet (fail)
          go_wp2
          go_roundg (os.length - (k + 1))
          case measure => rw [Hgk.out]; omega
          case rel => exact ⟨k + 1, rfl, by omega, by go_num, by first | exact hn.drewN _ | exact hn.drew | exact hn, Hr.out⟩
        · have ht2 : (o.snap == x.snap) = false := by simp [hs]
          clear hne hne2
          go_wp2
          go_quiet (fail)
          go_wp2
          go_roundg (os.length - (k + 1))
          case measure => rw [Hgk.out]; omega
          case rel => exact ⟨k + 1, rfl, by omega, by go_num, by first | exact hn.drewN _ | exact hn.drew | exact hn, Hr.out⟩
    · have Hr := Lib.hid (show decide (x ∈ os) = false by rw [Ha.out, drop_end hlt]; simp)
      go_wp2
      go_ret
      exact ⟨ret_bool Hr.out.symm, hnb.trans hn⟩
end Go.Proofs.Ytapobonfnjgnoaa
