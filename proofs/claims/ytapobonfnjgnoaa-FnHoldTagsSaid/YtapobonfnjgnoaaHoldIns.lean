/- Holds sorted by insertion: slices.insertionSortCmpFunc at holds and holdOrder. -/
import Derived.Test.YtapobonfnjgnoaaHoldSet
namespace Go.Proofs.Ytapobonfnjgnoaa
open Go.RowKit

theorem holdFlds_set : ∀ (os : List HoldR) (j : Nat) (o : HoldR), j < os.length → holdFlds (os.set j o) = ((holdFlds os).set (j * 2) (.txt o.snap)).set (j * 2 + 1) (.txt o.tag)
  | [], j, o, h => by simp at h
  | x :: r, 0, o, _ => rfl
  | x :: r, j + 1, o, h => by
    have ih := holdFlds_set r j o (by simpa using h)
    rw [List.set_cons_succ]
    show [Fld.txt x.snap, .txt x.tag] ++ holdFlds (r.set j o) = _
    rw [ih]
    have e1 : (j + 1) * 2 = j * 2 + 1 + 1 := by omega
    show _ = (([Fld.txt x.snap, .txt x.tag] ++ holdFlds r).set ((j + 1) * 2) _).set ((j + 1) * 2 + 1) _
    rw [e1]
    rfl
theorem OwnHolds.setRec {S : Nat → Prop} {w : World} {b c : Nat} {os : List HoldR} (h : OwnHolds S w (.slice (some ⟨b, 0, none⟩) os.length c) os) {j : Nat} (hj : j < os.length) (o : HoldR) (ho : HFit o) :
    OwnHolds S ((w.setCell ⟨b, j * 2, none⟩ (.string ⟨o.snap.toArray⟩)).setCell ⟨b, j * 2 + 1, none⟩ (.string ⟨o.tag.toArray⟩)) (.slice (some ⟨b, 0, none⟩) os.length c) (os.set j o) := by
  obtain ⟨x, hx⟩ := get_of hj
  obtain ⟨g0, g1⟩ := holdFlds_get hx
  have h1 := OwnRecs.putTxt h g0 ho.1
  have h2 := OwnRecs.putTxt h1 (i := j * 2 + 1) (x := x.tag) (by rw [List.getElem?_set_ne (by omega)]; exact g1) ho.2
  unfold OwnHolds
  rw [holdFlds_set os j o hj, List.length_set]
  exact h2
theorem OwnHolds.cells {S : Nat → Prop} {w : World} {b c : Nat} {os : List HoldR} (h : OwnHolds S w (.slice (some ⟨b, 0, none⟩) os.length c) os) {j : Nat} {o : HoldR} (ho : os[j]? = some o) :
    w.cell? ⟨b, j * 2, none⟩ = some (.string ⟨o.snap.toArray⟩) ∧ w.cell? ⟨b, j * 2 + 1, none⟩ = some (.string ⟨o.tag.toArray⟩) ∧ w.frozen? ⟨b, j * 2, none⟩ = false ∧ w.frozen? ⟨b, j * 2 + 1, none⟩ = false ∧ HFit o := by
  obtain ⟨g0, g1⟩ := holdFlds_get ho
  obtain ⟨b', c', u0, e1, -, -, c0, f0, o0⟩ := OwnRecs.at h g0
  obtain ⟨b', c', u1, e2, -, -, c1, f1, o1⟩ := OwnRecs.at h g1
  simp only [Value.slice.injEq, Option.some.injEq, Addr.mk.injEq] at e1 e2
  obtain ⟨⟨rfl, -, -⟩, -, rfl⟩ := e1
  obtain ⟨⟨rfl, -, -⟩, -, -⟩ := e2
  obtain ⟨rfl, l0⟩ := o0
  obtain ⟨rfl, l1⟩ := o1
  exact ⟨c0, c1, f0, f1, l0, l1⟩

/-- sorted up to i, but for the place j -/
def SoFar (ds : List HoldR) (i j : Nat) : Prop := ∀ p q x y, p < q → q ≤ i → q ≠ j → ds[p]? = some x → ds[q]? = some y → hLt x y = true
def Upto (ds : List HoldR) (i : Nat) : Prop := ∀ p q x y, p < q → q < i → ds[p]? = some x → ds[q]? = some y → hLt x y = true
theorem Upto.start {ds : List HoldR} {i : Nat} (h : Upto ds i) : SoFar ds i i := fun p q x y h1 h2 h3 h4 h5 => h p q x y h1 (by omega) h4 h5
theorem SoFar.zero {ds : List HoldR} {i : Nat} (h : SoFar ds i 0) : Upto ds (i + 1) := fun p q x y h1 h2 h4 h5 => h p q x y h1 (by omega) (by omega) h4 h5
theorem SoFar.stop {ds : List HoldR} {i m : Nat} {x y : HoldR} (h : SoFar ds i (m + 1)) (hx : ds[m + 1]? = some x) (hy : ds[m]? = some y) (hnd : ds.Nodup) (hl : hLt x y = false) : Upto ds (i + 1) := by
  have hyx : hLt y x = true := by
    rcases hc : hLt y x with _ | _
    · have e := hLt_total hl hc
      subst e
      obtain ⟨h1, e1⟩ := List.getElem?_eq_some_iff.1 hx
      obtain ⟨h0, e0⟩ := List.getElem?_eq_some_iff.1 hy
      exact absurd (e0.trans e1.symm) ((List.pairwise_iff_getElem.1 hnd) m (m + 1) h0 h1 (by omega))
    · rfl
  intro p q a b h1 h2 h4 h5
  by_cases e : q = m + 1
  · subst e
    rw [hx] at h5
    obtain rfl := Option.some.inj h5
    by_cases e2 : p = m
    · subst e2
      rw [hy] at h4
      obtain rfl := Option.some.inj h4
      exact hyx
    · exact hLt_trans (h p m a y (by omega) (by omega) (by omega) h4 hy) hyx
  · exact h p q a b h1 (by omega) e h4 h5
theorem SoFar.swap {ds : List HoldR} {i m : Nat} {x y : HoldR} (h : SoFar ds i (m + 1)) (hi : m + 1 ≤ i) (hx : ds[m + 1]? = some x) (hy : ds[m]? = some y) (hl : hLt x y = true) : SoFar ((ds.set (m + 1) y).set m x) i m := by
  have hm1 := (List.getElem?_eq_some_iff.1 hx).1
  have hm := (List.getElem?_eq_some_iff.1 hy).1
  have at_m : ((ds.set (m + 1) y).set m x)[m]? = some x := by rw [List.getElem?_set_self (by simpa using hm)]
  have at_m1 : ((ds.set (m + 1) y).set m x)[m + 1]? = some y := by rw [List.getElem?_set_ne (by omega), List.getElem?_set_self hm1]
  have at_o : ∀ q, q ≠ m → q ≠ m + 1 → ((ds.set (m + 1) y).set m x)[q]? = ds[q]? := fun q h1 h2 => by rw [List.getElem?_set_ne (Ne.symm h1), List.getElem?_set_ne (Ne.symm h2)]
  intro p q a b h1 h2 h3 h4 h5
  by_cases eq : q = m + 1
  · subst eq
    rw [at_m1] at h5
    obtain rfl := Option.some.inj h5
    by_cases ep : p = m
    · subst ep
      rw [at_m] at h4
      obtain rfl := Option.some.inj h4
      exact hl
    · rw [at_o p ep (by omega)] at h4
      exact h p m a y (by omega) (by omega) (by omega) h4 hy
  · rw [at_o q h3 eq] at h5
    by_cases ep : p = m
    · subst ep
      rw [at_m] at h4
      obtain rfl := Option.some.inj h4
      exact h (p + 1) q x b (by omega) h2 (by omega) hx h5
    · by_cases ep1 : p = m + 1
      · subst ep1
        rw [at_m1] at h4
        obtain rfl := Option.some.inj h4
        exact h m q y b (by omega) h2 eq hy h5
      · rw [at_o p ep ep1] at h4
        exact h p q a b h1 h2 eq h4 h5
theorem swap_perm {ds : List HoldR} {m : Nat} {x y : HoldR} (hx : ds[m + 1]? = some x) (hy : ds[m]? = some y) : ((ds.set (m + 1) y).set m x).Perm ds := by
  obtain ⟨h1, e1⟩ := List.getElem?_eq_some_iff.1 hx
  obtain ⟨h0, e0⟩ := List.getElem?_eq_some_iff.1 hy
  have e : ds = ds.take m ++ y :: x :: ds.drop (m + 2) := by
    conv => lhs; rw [← List.take_append_drop m ds, List.drop_eq_getElem_cons h0, List.drop_eq_getElem_cons h1, e0, e1]
  have hl : (ds.take m).length = m := by simp; omega
  have e2 : (ds.set (m + 1) y).set m x = ds.take m ++ x :: y :: ds.drop (m + 2) := by
    conv => lhs; rw [e]
    rw [List.set_append_right _ _ (by omega), hl, show m + 1 - m = 1 by omega, List.set_append_right _ _ (by omega), hl, Nat.sub_self]
    rfl
  rw [e2]
  conv => rhs; rw [e]
  exact List.Perm.append_left _ (List.Perm.swap y x _)
theorem Upto.pw {ds : List HoldR} {i : Nat} (h : Upto ds i) (hi : ds.length ≤ i) : ds.Pairwise (fun a b => hLt a b = true) := by
  rw [List.pairwise_iff_getElem]
  intro p q hp hq hpq
  exact h p q _ _ hpq (by omega) (List.getElem?_eq_getElem hp) (List.getElem?_eq_getElem hq)

def InsPost (S : Nat → Prop) (g : Nat) (v : Value) (ds : List HoldR) (w : World) (e : Ending) (w' : World) : Prop :=
  e = .returned (.tuple #[]) ∧ ∃ ds' : List HoldR, ds'.Perm ds ∧ ds'.Pairwise (fun a b => hLt a b = true) ∧ OwnHolds S w' v ds' ∧ Chg (fun j => j = g) w w'

set_option maxRecDepth 4000 in
set_option maxHeartbeats 2000000 in
theorem insSort {S : Nat → Prop} (g c : Nat) (ds : List HoldR) (w : World) (h : OwnHolds S w (.slice (some ⟨g, 0, none⟩) ds.length c) ds) (hnd : ds.Nodup) (h12 : ds.length ≤ 12) :
    Calls Try.prog 63 #[.slice (some ⟨g, 0, none⟩) ds.length c, .int .i64 0, .int .i64 ds.length, .func (.func 40) #[] #[]] w (InsPost S g (.slice (some ⟨g, 0, none⟩) ds.length c) ds w) := by
  have hc := h.shape
  obtain ⟨_, _, e0, hc1, hc2, -⟩ := hc
  simp only [Value.slice.injEq] at e0
  obtain ⟨-, -, rfl⟩ := e0
  unfold maxLen at hc2
  have Hord := Lib.hid holdOrder
  have Hnd := Lib.hid hnd
  clear hnd
  generalize hn : ds.length = n at *
  have Hn := Lib.hid hn
  clear hn
  go_enter Try.func63, Try.ntmps63
  go_wp2_with fail
  go_loopg [8] (n + 1) (fun gk s8 wr => ∃ (i : Nat) (es : List HoldR), gk = n + 2 - i ∧ 1 ≤ i ∧ i ≤ n + 1 ∧ s8 = .int .i64 i ∧ es.Perm ds ∧ es.length = n ∧ OwnRecs 25 2 S wr (.slice (some ⟨g, 0, none⟩) n c) n (holdFlds es) ∧ Chg (fun j => j = g) w wr ∧ Upto es i)
  case atStart => exact ⟨1, ds, by omega, by omega, by omega, rfl, List.Perm.refl _, Hn.out, by have h' := h; unfold OwnHolds at h'; rw [Hn.out] at h'; exact h', Chg.refl _ _, fun p q x y h1 h2 => by omega⟩
  case round =>
    obtain ⟨i, es, hgk, hi1, hin, rfl, hp, hel, ho, hch, hup⟩ := hrel
    have Hgk := Lib.hid hgk
    have Hp := Lib.hid hp
    have Hel := Lib.hid hel
    have Hup := Lib.hid hup
    clear hgk hp hel hup
    by_cases hlt : i < n
    · go_wp2_with fail
      go_loopg [9] (i + 1) (fun gk2 s9 wr => ∃ (j : Nat) (es : List HoldR), gk2 = j + 1 ∧ j ≤ i ∧ s9 = .int .i64 j ∧ es.Perm ds ∧ es.length = n ∧ OwnRecs 25 2 S wr (.slice (some ⟨g, 0, none⟩) n c) n (holdFlds es) ∧ Chg (fun j => j = g) w wr ∧ SoFar es i j)
      case atStart => exact ⟨i, es, by omega, by omega, rfl, Hp.out, Hel.out, ho, hch, Hup.out.start⟩
      case round =>
        obtain ⟨j, es, hgk2, hji, rfl, hp, hel, ho, hch, hup⟩ := hrel
        have Hgk2 := Lib.hid hgk2
        have Hp2 := Lib.hid hp
        have Hel2 := Lib.hid hel
        have Hup2 := Lib.hid hup
        clear hgk2 hp hel hup
        by_cases hj0 : j = 0
        · have Hj0 := Lib.hid hj0
          have hkd : decide ((0 : Int) < (j : Int)) = false := by simp; omega
          have hkd2 : ¬ (0 < j) := by omega
          clear hj0
          go_wp2_with fail
          refine wp_region_held_drew (S := (fun _ => True)) (by kernel_rfl) ?_ (fun hHeld => ?_)
          · exact trivial
          refine wpAnyH_take (i := 0) (v := ?_) (oi := ?_) ?hi_1 ?hs_1 ?hf_1 ?hr_1 ?hQ_1 ?hy_1 ?hS_1 ?h_1
          case hi_1 => (simp only [List.getElem?_toArray, List.getElem?_cons_zero] <;> rfl)
          case hs_1 => kernel_rfl
          case hf_1 => kernel_rfl
          case hr_1 => kernel_rfl
          case hQ_1 => exact fun _ _ _ h => h
          case hy_1 => (refine Or.inl ⟨by rfl, ?_⟩; intro w hSw; (try dsimp only at hSw); go_simp; try with_reducible rfl)
          case hS_1 => assumption
          try go_frame
          refine wpAnyH_take (i := 1) (v := ?_) (oi := ?_) ?hi_2 ?hs_2 ?hf_2 ?hr_2 ?hQ_2 ?hy_2 ?hS_2 ?h_2
          case hi_2 => (simp only [List.getElem?_toArray, List.getElem?_cons_zero, List.getElem?_cons_succ] <;> rfl)
          case hs_2 => kernel_rfl
          case hf_2 => kernel_rfl
          case hr_2 => kernel_rfl
          case hQ_2 => exact fun _ _ _ h => h
          case hy_2 => (refine Or.inl ⟨by rfl, ?_⟩; intro w hSw; (try dsimp only at hSw); go_simp; try with_reducible rfl)
          case hS_2 => assumption
          try go_frame
          refine wpAnyH_take (i := 2) (v := ?_) (oi := ?_) ?hi_3 ?hs_3 ?hf_3 ?hr_3 ?hQ_3 ?hy_3 ?hS_3 ?h_3
          case hi_3 => (simp only [List.getElem?_toArray, List.getElem?_cons_zero, List.getElem?_cons_succ] <;> rfl)
          case hs_3 => kernel_rfl
          case hf_3 => kernel_rfl
          case hr_3 => kernel_rfl
          case hQ_3 => exact fun _ _ _ h => h
          case hy_3 => (refine Or.inl ⟨by rfl, ?_⟩; intro w hSw; (try dsimp only at hSw); go_simp; try with_reducible rfl)
          case hS_3 => assumption
          try go_frame
          refine wpAnyH_take (i := 3) (v := ?_) (oi := ?_) ?hi_4 ?hs_4 ?hf_4 ?hr_4 ?hQ_4 ?hy_4 ?hS_4 ?h_4
          case hi_4 => (simp only [List.getElem?_toArray, List.getElem?_cons_zero, List.getElem?_cons_succ] <;> rfl)
          case hs_4 => kernel_rfl
          case hf_4 => kernel_rfl
          case hr_4 => kernel_rfl
          case hQ_4 => exact fun _ _ _ h => h
          case hy_4 => (refine Or.inl ⟨by rfl, ?_⟩; intro w hSw; (try dsimp only at hSw); go_simp; try with_reducible rfl)
          case hS_4 => assumption
          try go_frame
          refine wpAnyH_take (i := 4) (v := undef) (oi := ?_) ?hi_5 ?hs_5 ?hf_5 ?hr_5 ?hQ_5 ?hy_5 ?hS_5 ?h_5
          case hi_5 => (simp only [List.getElem?_toArray, List.getElem?_cons_zero, List.getElem?_cons_succ] <;> rfl)
          case hs_5 => kernel_rfl
          case hf_5 => kernel_rfl
          case hr_5 => kernel_rfl
          case hQ_5 => exact fun _ _ _ h => h
          case hy_5 => exact Or.inr ⟨by rfl, rfl⟩
          case hS_5 => assumption
          try go_frame
          refine wpAnyH_take (i := 5) (v := undef) (oi := ?_) ?hi_6 ?hs_6 ?hf_6 ?hr_6 ?hQ_6 ?hy_6 ?hS_6 ?h_6
          case hi_6 => (simp only [List.getElem?_toArray, List.getElem?_cons_zero, List.getElem?_cons_succ] <;> rfl)
          case hs_6 => kernel_rfl
          case hf_6 => kernel_rfl
          case hr_6 => kernel_rfl
          case hQ_6 => exact fun _ _ _ h => h
          case hy_6 => exact Or.inr ⟨by rfl, rfl⟩
          case hS_6 => assumption
          try go_frame
          refine wpAnyH_take (i := 6) (v := undef) (oi := ?_) ?hi_7 ?hs_7 ?hf_7 ?hr_7 ?hQ_7 ?hy_7 ?hS_7 ?h_7
          case hi_7 => (simp only [List.getElem?_toArray, List.getElem?_cons_zero, List.getElem?_cons_succ] <;> rfl)
          case hs_7 => kernel_rfl
          case hf_7 => kernel_rfl
          case hr_7 => kernel_rfl
          case hQ_7 => exact fun _ _ _ h => h
          case hy_7 => exact Or.inr ⟨by rfl, rfl⟩
          case hS_7 => assumption
          try go_frame
          refine wpAnyH_take (i := 7) (v := undef) (oi := ?_) ?hi_8 ?hs_8 ?hf_8 ?hr_8 ?hQ_8 ?hy_8 ?hS_8 ?h_8
          case hi_8 => (simp only [List.getElem?_toArray, List.getElem?_cons_zero, List.getElem?_cons_succ] <;> rfl)
          case hs_8 => kernel_rfl
          case hf_8 => kernel_rfl
          case hr_8 => kernel_rfl
          case hQ_8 => exact fun _ _ _ h => h
          case hy_8 => exact Or.inr ⟨by rfl, rfl⟩
          case hS_8 => assumption
          try go_frame
          refine wpAnyH_take (i := 8) (v := undef) (oi := ?_) ?hi_9 ?hs_9 ?hf_9 ?hr_9 ?hQ_9 ?hy_9 ?hS_9 ?h_9
          case hi_9 => (simp only [List.getElem?_toArray, List.getElem?_cons_zero, List.getElem?_cons_succ] <;> rfl)
          case hs_9 => kernel_rfl
          case hf_9 => kernel_rfl
          case hr_9 => kernel_rfl
          case hQ_9 => exact fun _ _ _ h => h
          case hy_9 => exact Or.inr ⟨by rfl, rfl⟩
          case hS_9 => assumption
          try go_frame
          refine wpAnyH_take (i := 9) (v := undef) (oi := ?_) ?hi_10 ?hs_10 ?hf_10 ?hr_10 ?hQ_10 ?hy_10 ?hS_10 ?h_10
          case hi_10 => (simp only [List.getElem?_toArray, List.getElem?_cons_zero, List.getElem?_cons_succ] <;> rfl)
          case hs_10 => kernel_rfl
          case hf_10 => kernel_rfl
          case hr_10 => kernel_rfl
          case hQ_10 => exact fun _ _ _ h => h
          case hy_10 => exact Or.inr ⟨by rfl, rfl⟩
          case hS_10 => assumption
          try go_frame
          refine wpAnyH_take (i := 10) (v := undef) (oi := ?_) ?hi_11 ?hs_11 ?hf_11 ?hr_11 ?hQ_11 ?hy_11 ?hS_11 ?h_11
          case hi_11 => (simp only [List.getElem?_toArray, List.getElem?_cons_zero, List.getElem?_cons_succ] <;> rfl)
          case hs_11 => kernel_rfl
          case hf_11 => kernel_rfl
          case hr_11 => kernel_rfl
          case hQ_11 => exact fun _ _ _ h => h
          case hy_11 => exact Or.inr ⟨by rfl, rfl⟩
          case hS_11 => assumption
          try go_frame
          refine wpAnyH_take (i := 11) (v := undef) (oi := ?_) ?hi_12 ?hs_12 ?hf_12 ?hr_12 ?hQ_12 ?hy_12 ?hS_12 ?h_12
          case hi_12 => (simp only [List.getElem?_toArray, List.getElem?_cons_zero, List.getElem?_cons_succ] <;> rfl)
          case hs_12 => kernel_rfl
          case hf_12 => kernel_rfl
          case hr_12 => kernel_rfl
          case hQ_12 => exact fun _ _ _ h => h
          case hy_12 => exact Or.inr ⟨by rfl, rfl⟩
          case hS_12 => assumption
          try go_frame
          refine wpAnyH_take (i := 12) (v := undef) (oi := ?_) ?hi_13 ?hs_13 ?hf_13 ?hr_13 ?hQ_13 ?hy_13 ?hS_13 ?h_13
          case hi_13 => (simp only [List.getElem?_toArray, List.getElem?_cons_zero, List.getElem?_cons_succ] <;> rfl)
          case hs_13 => kernel_rfl
          case hf_13 => kernel_rfl
          case hr_13 => kernel_rfl
          case hQ_13 => exact fun _ _ _ h => h
          case hy_13 => exact Or.inr ⟨by rfl, rfl⟩
          case hS_13 => assumption
          try go_frame
          refine wpAnyH_take (i := 13) (v := undef) (oi := ?_) ?hi_14 ?hs_14 ?hf_14 ?hr_14 ?hQ_14 ?hy_14 ?hS_14 ?h_14
          case hi_14 => (simp only [List.getElem?_toArray, List.getElem?_cons_zero, List.getElem?_cons_succ] <;> rfl)
          case hs_14 => kernel_rfl
          case hf_14 => kernel_rfl
          case hr_14 => kernel_rfl
          case hQ_14 => exact fun _ _ _ h => h
          case hy_14 => exact Or.inr ⟨by rfl, rfl⟩
          case hS_14 => assumption
          try go_frame
          refine wpAnyH_ready (rs := [14]) (by kernel_rfl) (by simp) ?_
          refine AllReadyH.cons (o := ?_) ?hi_15 (fun K hK => ?h_15) AllReadyH.nil
          case hi_15 => (simp only [List.getElem?_toArray, List.getElem?_cons_zero, List.getElem?_cons_succ] <;> rfl)
          go_simp
          refine hK.out _ _ ?_ (fun hHeld => ?_)
          · exact trivial
          clear hK K
          try go_frame
          refine wpAnyH_take (i := 15) (v := undef) (oi := ?_) ?hi_16 ?hs_16 ?hf_16 ?hr_16 ?hQ_16 ?hy_16 ?hS_16 ?h_16
          case hi_16 => (simp only [List.getElem?_toArray, List.getElem?_cons_zero, List.getElem?_cons_succ] <;> rfl)
          case hs_16 => kernel_rfl
          case hf_16 => kernel_rfl
          case hr_16 => kernel_rfl
          case hQ_16 => exact fun _ _ _ h => h
          case hy_16 => exact Or.inr ⟨by rfl, rfl⟩
          case hS_16 => assumption
          try go_frame
          refine wpAnyH_take (i := 16) (v := ?_) (oi := ?_) ?hi_17 ?hs_17 ?hf_17 ?hr_17 ?hQ_17 ?hy_17 ?hS_17 ?h_17
          case hi_17 => (simp only [List.getElem?_toArray, List.getElem?_cons_zero, List.getElem?_cons_succ] <;> rfl)
          case hs_17 => kernel_rfl
          case hf_17 => kernel_rfl
          case hr_17 => kernel_rfl
          case hQ_17 => exact fun _ _ _ h => h
          case hy_17 => (refine Or.inl ⟨by rfl, ?_⟩; intro w hSw; (try dsimp only at hSw); go_simp; try with_reducible rfl)
          case hS_17 => assumption
          try go_frame
          refine wpAnyH_done (by kernel_rfl) ?_ _
          go_wp2_with fail
          go_roundg (n + 2 - (i + 1))
          case measure => rw [Hgk.out]; omega
          case rel =>
            have hup := Hup2.out
            rw [Hj0.out] at hup
            exact ⟨i + 1, es, rfl, by omega, by omega, by go_num, Hp2.out, Hel2.out, ho.new (New.refl _).drew, hch.drew, hup.zero⟩
        · obtain ⟨m, rfl⟩ : ∃ m, j = m + 1 := ⟨j - 1, by omega⟩
          obtain ⟨x, hx⟩ := get_of (xs := es) (k := m + 1) (by rw [Hel2.out]; omega)
          obtain ⟨y, hy⟩ := get_of (xs := es) (k := m) (by rw [Hel2.out]; omega)
          have ho' : OwnHolds S wr (.slice (some ⟨g, 0, none⟩) es.length c) es := by unfold OwnHolds; rw [Hel2.out]; exact ho
          obtain ⟨c0, c1, f0, f1, hfx⟩ := ho'.cells hx
          obtain ⟨c2, c3, f2, f3, hfy⟩ := ho'.cells hy
          have Hx := Lib.hid hx
          have Hy := Lib.hid hy
          have Hup3 := Lib.hid (show SoFar es i (m + 1) from Hup2.out)
          have Hg3 := Lib.hid Hgk2.out
          have hji' : m + 1 ≤ i := hji
          clear Hup2 Hgk2
          have hmi : m < i := by omega
          generalize hkm : m + 1 = j at *
          have Hkm := Lib.hid hkm
          have k0 : wr.drew.cell? ⟨g, j * 2, none⟩ = some (.string ⟨x.snap.toArray⟩) := c0
          have k1 : wr.drew.cell? ⟨g, j * 2 + 1, none⟩ = some (.string ⟨x.tag.toArray⟩) := c1
          have k2 : wr.drew.cell? ⟨g, m * 2, none⟩ = some (.string ⟨y.snap.toArray⟩) := c2
          have k3 : wr.drew.cell? ⟨g, m * 2 + 1, none⟩ = some (.string ⟨y.tag.toArray⟩) := c3
          have hbef := fun (W : World) => Hord.out x y W
          have hcn := hCmp_neg x y
          generalize hCmp x y = r at hbef hcn
          unfold txt at hbef
          have hkd : decide ((0 : Int) < (j : Int)) = true := by simp; omega
          have hkd2 : 0 < j := by omega
          have hw1 : IntKind.i64.wrap ((j : Int) - 1) = (m : Int) := by
            have : (j : Int) - 1 = (m : Int) := by omega
            rw [this]
            exact IntWalk.i64_in _ (by omega)
          have hm0 : (0 : Int) ≤ (m : Int) := by omega
          have hm1 : (m : Int) < (n : Int) := by omega
          have hj1 : (j : Int) < (n : Int) := by omega
          have hm2 : m < n := by omega
          have hj2 : j < n := by omega
          have Hb := Lib.hid hbef
          rcases hlt2 : hLt x y with _ | _
          · rw [hlt2] at hcn
            have hr0 : ¬ (r < 0) := by simp at hcn; omega
            have Hl := Lib.hid hlt2
            clear hbef hcn hlt2 hx hy hkm
            go_wp2_with fail
            refine wp_region_held_drew (S := (fun w' => (w'.cell? ⟨g, j * 2, none⟩ = some (.string ⟨x.snap.toArray⟩) ∧ w'.cell? ⟨g, j * 2 + 1, none⟩ = some (.string ⟨x.tag.toArray⟩)) ∧ w'.cell? ⟨g, m * 2, none⟩ = some (.string ⟨y.snap.toArray⟩) ∧ w'.cell? ⟨g, m * 2 + 1, none⟩ = some (.string ⟨y.tag.toArray⟩))) (by kernel_rfl) ?_ (fun hHeld => ?_)
            · exact ⟨⟨k0, k1⟩, k2, k3⟩
            refine wpAnyH_take (i := 0) (v := ?_) (oi := ?_) ?hi_18 ?hs_18 ?hf_18 ?hr_18 ?hQ_18 ?hy_18 ?hS_18 ?h_18
            case hi_18 => (simp only [List.getElem?_toArray, List.getElem?_cons_zero] <;> rfl)
            case hs_18 => kernel_rfl
            case hf_18 => kernel_rfl
            case hr_18 => kernel_rfl
            case hQ_18 => exact fun _ _ _ h => h
            case hy_18 => (refine Or.inl ⟨by rfl, ?_⟩; intro w hSw; (try dsimp only at hSw); go_simp; try with_reducible rfl)
            case hS_18 => assumption
            try go_frame
            refine wpAnyH_take (i := 1) (v := ?_) (oi := ?_) ?hi_19 ?hs_19 ?hf_19 ?hr_19 ?hQ_19 ?hy_19 ?hS_19 ?h_19
            case hi_19 => (simp only [List.getElem?_toArray, List.getElem?_cons_zero, List.getElem?_cons_succ] <;> rfl)
            case hs_19 => kernel_rfl
            case hf_19 => kernel_rfl
            case hr_19 => kernel_rfl
            case hQ_19 => exact fun _ _ _ h => h
            case hy_19 => (refine Or.inl ⟨by rfl, ?_⟩; intro w hSw; (try dsimp only at hSw); go_simp; try with_reducible rfl)
            case hS_19 => assumption
            try go_frame
            refine wpAnyH_take (i := 2) (v := ?_) (oi := ?_) ?hi_20 ?hs_20 ?hf_20 ?hr_20 ?hQ_20 ?hy_20 ?hS_20 ?h_20
            case hi_20 => (simp only [List.getElem?_toArray, List.getElem?_cons_zero, List.getElem?_cons_succ] <;> rfl)
            case hs_20 => kernel_rfl
            case hf_20 => kernel_rfl
            case hr_20 => kernel_rfl
            case hQ_20 => exact fun _ _ _ h => h
            case hy_20 => (refine Or.inl ⟨by rfl, ?_⟩; intro w hSw; (try dsimp only at hSw); go_simp; try with_reducible rfl)
            case hS_20 => assumption
            try go_frame
            refine wpAnyH_take (i := 3) (v := ?_) (oi := ?_) ?hi_21 ?hs_21 ?hf_21 ?hr_21 ?hQ_21 ?hy_21 ?hS_21 ?h_21
            case hi_21 => (simp only [List.getElem?_toArray, List.getElem?_cons_zero, List.getElem?_cons_succ] <;> rfl)
            case hs_21 => kernel_rfl
            case hf_21 => kernel_rfl
            case hr_21 => kernel_rfl
            case hQ_21 => exact fun _ _ _ h => h
            case hy_21 => (refine Or.inl ⟨by rfl, ?_⟩; intro w hSw; (try dsimp only at hSw); go_simp; try with_reducible rfl)
            case hS_21 => assumption
            try go_frame
            refine wpAnyH_take (i := 4) (v := ?_) (oi := ?_) ?hi_22 ?hs_22 ?hf_22 ?hr_22 ?hQ_22 ?hy_22 ?hS_22 ?h_22
            case hi_22 => (simp only [List.getElem?_toArray, List.getElem?_cons_zero, List.getElem?_cons_succ] <;> rfl)
            case hs_22 => kernel_rfl
            case hf_22 => kernel_rfl
            case hr_22 => kernel_rfl
            case hQ_22 => exact fun _ _ _ h => h
            case hy_22 => (refine Or.inl ⟨by rfl, ?_⟩; intro w hSw; (try dsimp only at hSw); go_simp; try with_reducible rfl)
            case hS_22 => assumption
            try go_frame
            refine wpAnyH_take (i := 5) (v := ?_) (oi := ?_) ?hi_23 ?hs_23 ?hf_23 ?hr_23 ?hQ_23 ?hy_23 ?hS_23 ?h_23
            case hi_23 => (simp only [List.getElem?_toArray, List.getElem?_cons_zero, List.getElem?_cons_succ] <;> rfl)
            case hs_23 => kernel_rfl
            case hf_23 => kernel_rfl
            case hr_23 => kernel_rfl
            case hQ_23 => exact fun _ _ _ h => h
            case hy_23 => (refine Or.inl ⟨by rfl, ?_⟩; intro w hSw; (try dsimp only at hSw); go_simp; try with_reducible rfl)
            case hS_23 => assumption
            try go_frame
            refine wpAnyH_take (i := 6) (v := ?_) (oi := ?_) ?hi_24 ?hs_24 ?hf_24 ?hr_24 ?hQ_24 ?hy_24 ?hS_24 ?h_24
            case hi_24 => (simp only [List.getElem?_toArray, List.getElem?_cons_zero, List.getElem?_cons_succ] <;> rfl)
            case hs_24 => kernel_rfl
            case hf_24 => kernel_rfl
            case hr_24 => kernel_rfl
            case hQ_24 => exact fun _ _ _ h => h
            case hy_24 => (refine Or.inl ⟨by rfl, ?_⟩; intro w hSw; (try dsimp only at hSw); go_simp; try with_reducible rfl)
            case hS_24 => assumption
            try go_frame
            refine wpAnyH_take (i := 7) (v := ?_) (oi := ?_) ?hi_25 ?hs_25 ?hf_25 ?hr_25 ?hQ_25 ?hy_25 ?hS_25 ?h_25
            case hi_25 => (simp only [List.getElem?_toArray, List.getElem?_cons_zero, List.getElem?_cons_succ] <;> rfl)
            case hs_25 => kernel_rfl
            case hf_25 => kernel_rfl
            case hr_25 => kernel_rfl
            case hQ_25 => exact fun _ _ _ h => h
            case hy_25 => (refine Or.inl ⟨by rfl, ?_⟩; intro w hSw; (try dsimp only at hSw); go_simp; try with_reducible rfl)
            case hS_25 => assumption
            try go_frame
            refine wpAnyH_take (i := 8) (v := ?_) (oi := ?_) ?hi_26 ?hs_26 ?hf_26 ?hr_26 ?hQ_26 ?hy_26 ?hS_26 ?h_26
            case hi_26 => (simp only [List.getElem?_toArray, List.getElem?_cons_zero, List.getElem?_cons_succ] <;> rfl)
            case hs_26 => kernel_rfl
            case hf_26 => kernel_rfl
            case hr_26 => kernel_rfl
            case hQ_26 => exact fun _ _ _ h => h
            case hy_26 => (refine Or.inl ⟨by rfl, ?_⟩; intro w hSw; (try dsimp only at hSw); go_simp; try with_reducible rfl)
            case hS_26 => assumption
            try go_frame
            refine wpAnyH_take (i := 9) (v := ?_) (oi := ?_) ?hi_27 ?hs_27 ?hf_27 ?hr_27 ?hQ_27 ?hy_27 ?hS_27 ?h_27
            case hi_27 => (simp only [List.getElem?_toArray, List.getElem?_cons_zero, List.getElem?_cons_succ] <;> rfl)
            case hs_27 => kernel_rfl
            case hf_27 => kernel_rfl
            case hr_27 => kernel_rfl
            case hQ_27 => exact fun _ _ _ h => h
            case hy_27 => (refine Or.inl ⟨by rfl, ?_⟩; intro w hSw; (try dsimp only at hSw); go_simp; try with_reducible rfl)
            case hS_27 => assumption
            try go_frame
            refine wpAnyH_take (i := 10) (v := ?_) (oi := ?_) ?hi_28 ?hs_28 ?hf_28 ?hr_28 ?hQ_28 ?hy_28 ?hS_28 ?h_28
            case hi_28 => (simp only [List.getElem?_toArray, List.getElem?_cons_zero, List.getElem?_cons_succ] <;> rfl)
            case hs_28 => kernel_rfl
            case hf_28 => kernel_rfl
            case hr_28 => kernel_rfl
            case hQ_28 => exact fun _ _ _ h => h
            case hy_28 => (refine Or.inl ⟨by rfl, ?_⟩; intro w hSw; (try dsimp only at hSw); go_simp; try with_reducible rfl)
            case hS_28 => assumption
            try go_frame
            refine wpAnyH_take (i := 11) (v := ?_) (oi := ?_) ?hi_29 ?hs_29 ?hf_29 ?hr_29 ?hQ_29 ?hy_29 ?hS_29 ?h_29
            case hi_29 => (simp only [List.getElem?_toArray, List.getElem?_cons_zero, List.getElem?_cons_succ] <;> rfl)
            case hs_29 => kernel_rfl
            case hf_29 => kernel_rfl
            case hr_29 => kernel_rfl
            case hQ_29 => exact fun _ _ _ h => h
            case hy_29 => (refine Or.inl ⟨by rfl, ?_⟩; intro w hSw; (try dsimp only at hSw); go_simp; try with_reducible rfl)
            case hS_29 => assumption
            try go_frame
            refine wpAnyH_take (i := 12) (v := ?_) (oi := ?_) ?hi_30 ?hs_30 ?hf_30 ?hr_30 ?hQ_30 ?hy_30 ?hS_30 ?h_30
            case hi_30 => (simp only [List.getElem?_toArray, List.getElem?_cons_zero, List.getElem?_cons_succ] <;> rfl)
            case hs_30 => kernel_rfl
            case hf_30 => kernel_rfl
            case hr_30 => kernel_rfl
            case hQ_30 => exact fun _ _ _ h => h
            case hy_30 => (refine Or.inl ⟨by rfl, ?_⟩; intro w hSw; (try dsimp only at hSw); go_simp; try with_reducible rfl)
            case hS_30 => assumption
            try go_frame
            refine wpAnyH_take (i := 13) (v := ?_) (oi := ?_) ?hi_31 ?hs_31 ?hf_31 ?hr_31 ?hQ_31 ?hy_31 ?hS_31 ?h_31
            case hi_31 => (simp only [List.getElem?_toArray, List.getElem?_cons_zero, List.getElem?_cons_succ] <;> rfl)
            case hs_31 => kernel_rfl
            case hf_31 => kernel_rfl
            case hr_31 => kernel_rfl
            case hQ_31 => exact fun _ _ _ h => h
            case hy_31 => (refine Or.inl ⟨by rfl, ?_⟩; intro w hSw; (try dsimp only at hSw); go_simp; try with_reducible rfl)
            case hS_31 => assumption
            try go_frame
            refine wpAnyH_ready (rs := [14]) (by kernel_rfl) (by simp) ?_
            refine AllReadyH.cons (o := ?_) ?hi_32 (fun K hK => ?h_32) AllReadyH.nil
            case hi_32 => (simp only [List.getElem?_toArray, List.getElem?_cons_zero, List.getElem?_cons_succ] <;> rfl)
            go_simp
            (refine (Hb.out _).mono ?_; rintro e w2 ⟨rfl, n2⟩; go_wp2_with fail)
            refine hK.out _ _ ?_ (fun hHeld => ?_)
            · exact ⟨⟨n2.cell k0, n2.cell k1⟩, n2.cell k2, n2.cell k3⟩
            clear hK K
            try go_frame
            refine wpAnyH_take (i := 15) (v := ?_) (oi := ?_) ?hi_33 ?hs_33 ?hf_33 ?hr_33 ?hQ_33 ?hy_33 ?hS_33 ?h_33
            case hi_33 => (simp only [List.getElem?_toArray, List.getElem?_cons_zero, List.getElem?_cons_succ] <;> rfl)
            case hs_33 => kernel_rfl
            case hf_33 => kernel_rfl
            case hr_33 => kernel_rfl
            case hQ_33 => exact fun _ _ _ h => h
            case hy_33 => (refine Or.inl ⟨by rfl, ?_⟩; intro w hSw; (try dsimp only at hSw); go_simp; try with_reducible rfl)
            case hS_33 => assumption
            try go_frame
            refine wpAnyH_take (i := 16) (v := ?_) (oi := ?_) ?hi_34 ?hs_34 ?hf_34 ?hr_34 ?hQ_34 ?hy_34 ?hS_34 ?h_34
            case hi_34 => (simp only [List.getElem?_toArray, List.getElem?_cons_zero, List.getElem?_cons_succ] <;> rfl)
            case hs_34 => kernel_rfl
            case hf_34 => kernel_rfl
            case hr_34 => kernel_rfl
            case hQ_34 => exact fun _ _ _ h => h
            case hy_34 => (refine Or.inl ⟨by rfl, ?_⟩; intro w hSw; (try dsimp only at hSw); go_simp; try with_reducible rfl)
            case hS_34 => assumption
            try go_frame
            refine wpAnyH_done (by kernel_rfl) ?_ _
            go_wp2_with fail
            go_roundg (n + 2 - (i + 1))
            case measure => rw [Hgk.out]; omega
            case rel =>
              have hup := Hup3.out
              rw [← Hkm.out] at hup
              have hx' := Hx.out
              rw [← Hkm.out] at hx'
              have nd : es.Nodup := (Hp2.out.nodup_iff).2 Hnd.out
              exact ⟨i + 1, es, rfl, by omega, by omega, by go_num, Hp2.out, Hel2.out, (ho.new (New.refl _).drew).new n2, (hch.drew).step n2 (fun _ _ hf => hf.elim), hup.stop hx' Hy.out nd Hl.out⟩
          · rw [hlt2] at hcn
            have hr0 : r < 0 := by simp at hcn; exact hcn
            have Hl := Lib.hid hlt2
            clear hbef hcn hlt2 hx hy hkm
            go_wp2_with fail
            refine wp_region_held_drew (S := (fun w' => (w'.cell? ⟨g, j * 2, none⟩ = some (.string ⟨x.snap.toArray⟩) ∧ w'.cell? ⟨g, j * 2 + 1, none⟩ = some (.string ⟨x.tag.toArray⟩)) ∧ w'.cell? ⟨g, m * 2, none⟩ = some (.string ⟨y.snap.toArray⟩) ∧ w'.cell? ⟨g, m * 2 + 1, none⟩ = some (.string ⟨y.tag.toArray⟩))) (by kernel_rfl) ?_ (fun hHeld => ?_)
            · exact ⟨⟨k0, k1⟩, k2, k3⟩
            refine wpAnyH_take (i := 0) (v := ?_) (oi := ?_) ?hi_35 ?hs_35 ?hf_35 ?hr_35 ?hQ_35 ?hy_35 ?hS_35 ?h_35
            case hi_35 => (simp only [List.getElem?_toArray, List.getElem?_cons_zero] <;> rfl)
            case hs_35 => kernel_rfl
            case hf_35 => kernel_rfl
            case hr_35 => kernel_rfl
            case hQ_35 => exact fun _ _ _ h => h
            case hy_35 => (refine Or.inl ⟨by rfl, ?_⟩; intro w hSw; (try dsimp only at hSw); go_simp; try with_reducible rfl)
            case hS_35 => assumption
            try go_frame
            refine wpAnyH_take (i := 1) (v := ?_) (oi := ?_) ?hi_36 ?hs_36 ?hf_36 ?hr_36 ?hQ_36 ?hy_36 ?hS_36 ?h_36
            case hi_36 => (simp only [List.getElem?_toArray, List.getElem?_cons_zero, List.getElem?_cons_succ] <;> rfl)
            case hs_36 => kernel_rfl
            case hf_36 => kernel_rfl
            case hr_36 => kernel_rfl
            case hQ_36 => exact fun _ _ _ h => h
            case hy_36 => (refine Or.inl ⟨by rfl, ?_⟩; intro w hSw; (try dsimp only at hSw); go_simp; try with_reducible rfl)
            case hS_36 => assumption
            try go_frame
            refine wpAnyH_take (i := 2) (v := ?_) (oi := ?_) ?hi_37 ?hs_37 ?hf_37 ?hr_37 ?hQ_37 ?hy_37 ?hS_37 ?h_37
            case hi_37 => (simp only [List.getElem?_toArray, List.getElem?_cons_zero, List.getElem?_cons_succ] <;> rfl)
            case hs_37 => kernel_rfl
            case hf_37 => kernel_rfl
            case hr_37 => kernel_rfl
            case hQ_37 => exact fun _ _ _ h => h
            case hy_37 => (refine Or.inl ⟨by rfl, ?_⟩; intro w hSw; (try dsimp only at hSw); go_simp; try with_reducible rfl)
            case hS_37 => assumption
            try go_frame
            refine wpAnyH_take (i := 3) (v := ?_) (oi := ?_) ?hi_38 ?hs_38 ?hf_38 ?hr_38 ?hQ_38 ?hy_38 ?hS_38 ?h_38
            case hi_38 => (simp only [List.getElem?_toArray, List.getElem?_cons_zero, List.getElem?_cons_succ] <;> rfl)
            case hs_38 => kernel_rfl
            case hf_38 => kernel_rfl
            case hr_38 => kernel_rfl
            case hQ_38 => exact fun _ _ _ h => h
            case hy_38 => (refine Or.inl ⟨by rfl, ?_⟩; intro w hSw; (try dsimp only at hSw); go_simp; try with_reducible rfl)
            case hS_38 => assumption
            try go_frame
            refine wpAnyH_take (i := 4) (v := ?_) (oi := ?_) ?hi_39 ?hs_39 ?hf_39 ?hr_39 ?hQ_39 ?hy_39 ?hS_39 ?h_39
            case hi_39 => (simp only [List.getElem?_toArray, List.getElem?_cons_zero, List.getElem?_cons_succ] <;> rfl)
            case hs_39 => kernel_rfl
            case hf_39 => kernel_rfl
            case hr_39 => kernel_rfl
            case hQ_39 => exact fun _ _ _ h => h
            case hy_39 => (refine Or.inl ⟨by rfl, ?_⟩; intro w hSw; (try dsimp only at hSw); go_simp; try with_reducible rfl)
            case hS_39 => assumption
            try go_frame
            refine wpAnyH_take (i := 5) (v := ?_) (oi := ?_) ?hi_40 ?hs_40 ?hf_40 ?hr_40 ?hQ_40 ?hy_40 ?hS_40 ?h_40
            case hi_40 => (simp only [List.getElem?_toArray, List.getElem?_cons_zero, List.getElem?_cons_succ] <;> rfl)
            case hs_40 => kernel_rfl
            case hf_40 => kernel_rfl
            case hr_40 => kernel_rfl
            case hQ_40 => exact fun _ _ _ h => h
            case hy_40 => (refine Or.inl ⟨by rfl, ?_⟩; intro w hSw; (try dsimp only at hSw); go_simp; try with_reducible rfl)
            case hS_40 => assumption
            try go_frame
            refine wpAnyH_take (i := 6) (v := ?_) (oi := ?_) ?hi_41 ?hs_41 ?hf_41 ?hr_41 ?hQ_41 ?hy_41 ?hS_41 ?h_41
            case hi_41 => (simp only [List.getElem?_toArray, List.getElem?_cons_zero, List.getElem?_cons_succ] <;> rfl)
            case hs_41 => kernel_rfl
            case hf_41 => kernel_rfl
            case hr_41 => kernel_rfl
            case hQ_41 => exact fun _ _ _ h => h
            case hy_41 => (refine Or.inl ⟨by rfl, ?_⟩; intro w hSw; (try dsimp only at hSw); go_simp; try with_reducible rfl)
            case hS_41 => assumption
            try go_frame
            refine wpAnyH_take (i := 7) (v := ?_) (oi := ?_) ?hi_42 ?hs_42 ?hf_42 ?hr_42 ?hQ_42 ?hy_42 ?hS_42 ?h_42
            case hi_42 => (simp only [List.getElem?_toArray, List.getElem?_cons_zero, List.getElem?_cons_succ] <;> rfl)
            case hs_42 => kernel_rfl
            case hf_42 => kernel_rfl
            case hr_42 => kernel_rfl
            case hQ_42 => exact fun _ _ _ h => h
            case hy_42 => (refine Or.inl ⟨by rfl, ?_⟩; intro w hSw; (try dsimp only at hSw); go_simp; try with_reducible rfl)
            case hS_42 => assumption
            try go_frame
            refine wpAnyH_take (i := 8) (v := ?_) (oi := ?_) ?hi_43 ?hs_43 ?hf_43 ?hr_43 ?hQ_43 ?hy_43 ?hS_43 ?h_43
            case hi_43 => (simp only [List.getElem?_toArray, List.getElem?_cons_zero, List.getElem?_cons_succ] <;> rfl)
            case hs_43 => kernel_rfl
            case hf_43 => kernel_rfl
            case hr_43 => kernel_rfl
            case hQ_43 => exact fun _ _ _ h => h
            case hy_43 => (refine Or.inl ⟨by rfl, ?_⟩; intro w hSw; (try dsimp only at hSw); go_simp; try with_reducible rfl)
            case hS_43 => assumption
            try go_frame
            refine wpAnyH_take (i := 9) (v := ?_) (oi := ?_) ?hi_44 ?hs_44 ?hf_44 ?hr_44 ?hQ_44 ?hy_44 ?hS_44 ?h_44
            case hi_44 => (simp only [List.getElem?_toArray, List.getElem?_cons_zero, List.getElem?_cons_succ] <;> rfl)
            case hs_44 => kernel_rfl
            case hf_44 => kernel_rfl
            case hr_44 => kernel_rfl
            case hQ_44 => exact fun _ _ _ h => h
            case hy_44 => (refine Or.inl ⟨by rfl, ?_⟩; intro w hSw; (try dsimp only at hSw); go_simp; try with_reducible rfl)
            case hS_44 => assumption
            try go_frame
            refine wpAnyH_take (i := 10) (v := ?_) (oi := ?_) ?hi_45 ?hs_45 ?hf_45 ?hr_45 ?hQ_45 ?hy_45 ?hS_45 ?h_45
            case hi_45 => (simp only [List.getElem?_toArray, List.getElem?_cons_zero, List.getElem?_cons_succ] <;> rfl)
            case hs_45 => kernel_rfl
            case hf_45 => kernel_rfl
            case hr_45 => kernel_rfl
            case hQ_45 => exact fun _ _ _ h => h
            case hy_45 => (refine Or.inl ⟨by rfl, ?_⟩; intro w hSw; (try dsimp only at hSw); go_simp; try with_reducible rfl)
            case hS_45 => assumption
            try go_frame
            refine wpAnyH_take (i := 11) (v := ?_) (oi := ?_) ?hi_46 ?hs_46 ?hf_46 ?hr_46 ?hQ_46 ?hy_46 ?hS_46 ?h_46
            case hi_46 => (simp only [List.getElem?_toArray, List.getElem?_cons_zero, List.getElem?_cons_succ] <;> rfl)
            case hs_46 => kernel_rfl
            case hf_46 => kernel_rfl
            case hr_46 => kernel_rfl
            case hQ_46 => exact fun _ _ _ h => h
            case hy_46 => (refine Or.inl ⟨by rfl, ?_⟩; intro w hSw; (try dsimp only at hSw); go_simp; try with_reducible rfl)
            case hS_46 => assumption
            try go_frame
            refine wpAnyH_take (i := 12) (v := ?_) (oi := ?_) ?hi_47 ?hs_47 ?hf_47 ?hr_47 ?hQ_47 ?hy_47 ?hS_47 ?h_47
            case hi_47 => (simp only [List.getElem?_toArray, List.getElem?_cons_zero, List.getElem?_cons_succ] <;> rfl)
            case hs_47 => kernel_rfl
            case hf_47 => kernel_rfl
            case hr_47 => kernel_rfl
            case hQ_47 => exact fun _ _ _ h => h
            case hy_47 => (refine Or.inl ⟨by rfl, ?_⟩; intro w hSw; (try dsimp only at hSw); go_simp; try with_reducible rfl)
            case hS_47 => assumption
            try go_frame
            refine wpAnyH_take (i := 13) (v := ?_) (oi := ?_) ?hi_48 ?hs_48 ?hf_48 ?hr_48 ?hQ_48 ?hy_48 ?hS_48 ?h_48
            case hi_48 => (simp only [List.getElem?_toArray, List.getElem?_cons_zero, List.getElem?_cons_succ] <;> rfl)
            case hs_48 => kernel_rfl
            case hf_48 => kernel_rfl
            case hr_48 => kernel_rfl
            case hQ_48 => exact fun _ _ _ h => h
            case hy_48 => (refine Or.inl ⟨by rfl, ?_⟩; intro w hSw; (try dsimp only at hSw); go_simp; try with_reducible rfl)
            case hS_48 => assumption
            try go_frame
            refine wpAnyH_ready (rs := [14]) (by kernel_rfl) (by simp) ?_
            refine AllReadyH.cons (o := ?_) ?hi_49 (fun K hK => ?h_49) AllReadyH.nil
            case hi_49 => (simp only [List.getElem?_toArray, List.getElem?_cons_zero, List.getElem?_cons_succ] <;> rfl)
            go_simp
            (refine (Hb.out _).mono ?_; rintro e w2 ⟨rfl, n2⟩; go_wp2_with fail)
            refine hK.out _ _ ?_ (fun hHeld => ?_)
            · exact ⟨⟨n2.cell k0, n2.cell k1⟩, n2.cell k2, n2.cell k3⟩
            clear hK K
            try go_frame
            refine wpAnyH_take (i := 15) (v := ?_) (oi := ?_) ?hi_50 ?hs_50 ?hf_50 ?hr_50 ?hQ_50 ?hy_50 ?hS_50 ?h_50
            case hi_50 => (simp only [List.getElem?_toArray, List.getElem?_cons_zero, List.getElem?_cons_succ] <;> rfl)
            case hs_50 => kernel_rfl
            case hf_50 => kernel_rfl
            case hr_50 => kernel_rfl
            case hQ_50 => exact fun _ _ _ h => h
            case hy_50 => (refine Or.inl ⟨by rfl, ?_⟩; intro w hSw; (try dsimp only at hSw); go_simp; try with_reducible rfl)
            case hS_50 => assumption
            try go_frame
            refine wpAnyH_take (i := 16) (v := ?_) (oi := ?_) ?hi_51 ?hs_51 ?hf_51 ?hr_51 ?hQ_51 ?hy_51 ?hS_51 ?h_51
            case hi_51 => (simp only [List.getElem?_toArray, List.getElem?_cons_zero, List.getElem?_cons_succ] <;> rfl)
            case hs_51 => kernel_rfl
            case hf_51 => kernel_rfl
            case hr_51 => kernel_rfl
            case hQ_51 => exact fun _ _ _ h => h
            case hy_51 => (refine Or.inl ⟨by rfl, ?_⟩; intro w hSw; (try dsimp only at hSw); go_simp; try with_reducible rfl)
            case hS_51 => assumption
            try go_frame
            refine wpAnyH_done (by kernel_rfl) ?_ _
            have q0 : w2.drew.cell? ⟨g, j * 2, none⟩ = some (.string ⟨x.snap.toArray⟩) := n2.cell k0
            have q1 : w2.drew.cell? ⟨g, j * 2 + 1, none⟩ = some (.string ⟨x.tag.toArray⟩) := n2.cell k1
            have q2 : w2.drew.cell? ⟨g, m * 2, none⟩ = some (.string ⟨y.snap.toArray⟩) := n2.cell k2
            have q3 : w2.drew.cell? ⟨g, m * 2 + 1, none⟩ = some (.string ⟨y.tag.toArray⟩) := n2.cell k3
            have hoW : OwnHolds S w2 (.slice (some ⟨g, 0, none⟩) es.length c) es := (OwnRecs.new ho' (New.refl _).drew).new n2
            have hcW : Chg (fun j => j = g) w w2 := (hch.drew).step n2 (fun _ _ hf => hf.elim)
            have hoD : OwnHolds S w2.drew (.slice (some ⟨g, 0, none⟩) es.length c) es := OwnRecs.new hoW (New.refl _).drew
            obtain ⟨-, -, p0, p1, -⟩ := hoD.cells Hx.out
            obtain ⟨-, -, p2, p3, -⟩ := hoD.cells Hy.out
            obtain ⟨-, -, p4, p5, -⟩ := hoW.cells Hx.out
            obtain ⟨-, -, p6, p7, -⟩ := hoW.cells Hy.out
            have HoD := Lib.hid hoD
            have HcW := Lib.hid hcW
            have d1 : ¬ (j = m) := by have := Hkm.out; omega
            have d2 : ¬ (m = j) := by have := Hkm.out; omega
            have d3 : ¬ (m * 2 + 1 = j * 2) := by have := Hkm.out; omega
            have d4 : ¬ (j * 2 + 1 = m * 2) := by have := Hkm.out; omega
            have d5 : ¬ (j * 2 = m * 2 + 1) := by have := Hkm.out; omega
            have d6 : ¬ (m * 2 = j * 2 + 1) := by have := Hkm.out; omega
            have d7 : ¬ (j * 2 = m * 2) := by have := Hkm.out; omega
            have d8 : ¬ (m * 2 = j * 2) := by have := Hkm.out; omega
            clear hoD hoW hcW ho ho' hch n2 k0 k1 k2 k3 c0 c1 c2 c3 f0 f1 f2 f3
            go_wp2_with fail
            go_region
            have hxl : m < es.length := by rw [Hel2.out]; omega
            have hjl : j < es.length := by rw [Hel2.out]; omega
            have h1 := OwnHolds.setRec HoD.out hjl y hfy
            rw [show es.length = (es.set j y).length by simp] at h1
            have h2 := OwnHolds.setRec h1 (j := m) (by rw [List.length_set]; exact hxl) x hfx
            have cs := ((chg_set2 w2 g (j * 2) (j * 2 + 1) (.string ⟨y.snap.toArray⟩) (.string ⟨y.tag.toArray⟩)).trans (chg_set2 _ g (m * 2) (m * 2 + 1) (.string ⟨x.snap.toArray⟩) (.string ⟨x.tag.toArray⟩))).drew
            have H2 := Lib.hid h2
            have Hcs := Lib.hid cs
            clear h1 h2 cs
            go_wp2_with fail
            go_roundg (m + 1)
            case measure => have := Hkm.out; rw [Hg3.out]; omega
            case rel =>
              have hup := Hup3.out
              rw [← Hkm.out] at hup
              have hx' := Hx.out
              rw [← Hkm.out] at hx'
              have hji2 := hji'
              rw [← Hkm.out] at hji2
              refine ⟨m, (es.set j y).set m x, rfl, by omega, by go_num, ?_, by simp [Hel2.out], ?_, ?_, ?_⟩
              · rw [← Hkm.out]; exact (swap_perm hx' Hy.out).trans Hp2.out
              · have h2 := H2.out
                unfold OwnHolds at h2
                rw [show ((es.set j y).set m x).length = n by simp [Hel2.out], show (es.set j y).length = n by simp [Hel2.out]] at h2
                exact h2
              · exact HcW.out.trans Hcs.out
              · rw [← Hkm.out]; exact hup.swap hji2 hx' Hy.out Hl.out
    · go_wp2_with fail
      go_end0
      exact ⟨rfl, es, Hp.out, Hup.out.pw (by rw [Hel.out]; omega), by unfold OwnHolds; rw [Hel.out]; exact ho, hch⟩
end Go.Proofs.Ytapobonfnjgnoaa
