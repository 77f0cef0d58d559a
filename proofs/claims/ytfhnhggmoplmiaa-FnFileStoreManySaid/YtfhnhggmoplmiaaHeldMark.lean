/- Blocks of a store: markHeldS, heldHeldS. -/
import Derived.Test.YtfhnhggmoplmiaaHeld
import Derived.Test.YtfhnhggmoplmiaaRecsPut
namespace Go.Proofs.Ytfhnhggmoplmiaa
open Go.RowKit

theorem heldFlds_get {os : List HeldR} {j : Nat} {o : HeldR} (h : os[j]? = some o) : (heldFlds os)[j * 3]? = some (.int o.id) ∧ (heldFlds os)[j * 3 + 1]? = some (.nums o.bytes) ∧ (heldFlds os)[j * 3 + 2]? = some (.int o.uses) :=
  ⟨flds_get HeldR.flds 3 (fun _ => rfl) os (j := 0) h (by omega), flds_get HeldR.flds 3 (fun _ => rfl) os (j := 1) h (by omega), flds_get HeldR.flds 3 (fun _ => rfl) os (j := 2) h (by omega)⟩
theorem len_heldFlds (os : List HeldR) : (heldFlds os).length = os.length * 3 := flds_len HeldR.flds 3 (fun _ => rfl) os

set_option maxRecDepth 4000 in
set_option maxHeartbeats 1000000 in
theorem markHelds {S : Nat → Prop} (v : Value) (os : List HeldR) (k : Int) (w : World) (h : OwnHelds S w v os) (hk0 : 0 ≤ k) (hk1 : k ≤ 576460752303423488) (hr : sizes (heldFlds os) ≤ 576460752303423488) :
    Calls Try.prog 18 #[v, .int .i64 k] w fun e w' => e = .returned (.int .i64 (k + sizes (heldFlds os))) ∧ Chg S w w' ∧ OwnRecs 49 3 S w' v os.length (markF k (heldFlds os)) := by
  have h0 := h
  obtain ⟨a, c, rfl, h1, h2, -⟩ := h.shape
  unfold maxLen at h2
  go_enter Try.func18, Try.ntmps18
  go_wp2
  go_loopg [1, 5] os.length (fun gk q i wr => ∃ (j : Nat), gk = os.length - j ∧ j ≤ os.length ∧ i = .int .i64 j ∧ q = .int .i64 (k + sizes ((heldFlds os).take (j * 3))) ∧ Chg S w wr ∧ OwnRecs 49 3 S wr (.slice a os.length c) os.length (markedF k (heldFlds os) (j * 3)))
  case atStart => exact ⟨0, by omega, Nat.zero_le _, rfl, by simp [sizes], Chg.refl _ _, by rw [Nat.zero_mul, markedF_zero]; exact h0⟩
  case round =>
    obtain ⟨j, hgk, hj, rfl, rfl, hw, hb⟩ := hrel
    have Hgk := Lib.hid hgk
    clear hgk
    by_cases hlt : j < os.length
    · obtain ⟨o, hx⟩ := get_of hlt
      obtain ⟨g0, g1, g2⟩ := heldFlds_get hx
      have m0 := markedF_step (k := k) g0
      have m1 := markedF_step (k := k) g1
      have m2 := markedF_step (k := k) g2
      have s0 := sizes_take g0
      have s1 := sizes_take g1
      have s2 := sizes_take g2
      have sl := sizes_le (heldFlds os) (j * 3 + 2 + 1)
      have l0 : (markedF k (heldFlds os) (j * 3))[j * 3]? = _ := (markedF_later (k := k) (Nat.le_refl _)).trans g0
      have l1 : (markedF k (heldFlds os) (j * 3 + 1))[j * 3 + 1]? = _ := (markedF_later (k := k) (Nat.le_refl _)).trans g1
      have l2 : (markedF k (heldFlds os) (j * 3 + 1 + 1))[j * 3 + 2]? = _ := (markedF_later (k := k) (Nat.le_refl _)).trans g2
      simp only [Fld.mark, Fld.size] at m0 m1 m2 s0 s1 s2
      rw [s0] at m1 s1
      rw [s1] at m2 s2
      rw [show ∀ q : Nat, k + ((q + 1 : Nat) : Int) = k + q + 1 from fun q => by omega] at m1
      rw [show ∀ q : Nat, k + ((q + 1 + o.bytes.length : Nat) : Int) = k + q + 1 + o.bytes.length from fun q => by omega] at m2
      rw [s2] at sl
      generalize hq : sizes ((heldFlds os).take (j * 3)) = q at *
      obtain ⟨b, c', u0, e1, hS, hlb, hc0, hf0, ho0⟩ := hb.at l0
      simp only [Value.slice.injEq] at e1
      obtain ⟨rfl, -, rfl⟩ := e1
      have b1 := hb.putInt (y := k + q) l0 (I64.mk (by omega) (by omega))
      rw [m0] at b1
      have cs1 := chg_set1 wr b (j * 3) (.int .i64 (k + q))
      obtain ⟨b', c', u1, e1, -, -, hc1, -, ho1⟩ := b1.at l1
      simp only [Value.slice.injEq, Option.some.injEq, Addr.mk.injEq] at e1
      obtain ⟨⟨rfl, -, -⟩, -, rfl⟩ := e1
      have hc1' : wr.cell? ⟨b, j * 3 + 1, none⟩ = some u1 := by
        have e : (wr.setCell ⟨b, j * 3, none⟩ (.int .i64 (k + q))).cell? ⟨b, j * 3 + 1, none⟩ = wr.cell? ⟨b, j * 3 + 1, none⟩ := World.cell?_setCell_other _ _ _ _ (by simp)
        rw [← e]; exact hc1
      have hbl : (o.bytes.length : Int) ≤ 576460752303423488 := by omega
      have hcall := markI u1 o.bytes (k + q + 1) _ ho1 (by omega) (by omega) (by omega)
      have Hcall := Lib.hid hcall
      have Hm1 := Lib.hid m1
      have Hm2 := Lib.hid m2
      have Hs2 := Lib.hid s2
      have Hl1 := Lib.hid l1
      have Hl2 := Lib.hid l2
      have Hc1 := Lib.hid hc1
      clear hcall m0 m1 m2 s0 s1 s2 l0 l1 l2 g0 g1 g2 hx hq hc1 ho0
      go_wp2_with fail
      refine Hcall.out.mono ?_
      rintro e w2 ⟨rfl, c2, o2⟩
      have b2 := b1.putNums Hl1.out Hc1.out c2 (by simp) o2
      rw [Hm1.out] at b2
      obtain ⟨b', c', u2, e1, -, -, hc2, hf2, -⟩ := b2.at Hl2.out
      simp only [Value.slice.injEq, Option.some.injEq, Addr.mk.injEq] at e1
      obtain ⟨⟨rfl, -, -⟩, -, rfl⟩ := e1
      have cc2 : Chg S w w2 := (hw.step cs1 (fun i _ hi => by rw [hi]; exact hS)).step c2 (fun i _ hi => (ho1.blk i hi).1.1)
      have b3 := b2.putInt (y := k + q + 1 + o.bytes.length) Hl2.out (I64.mk (by omega) (by omega))
      have hm2 := Hm2.out
      rw [hm2] at b3
      have cs3 := chg_set1 w2 b (j * 3 + 2) (.int .i64 (k + q + 1 + o.bytes.length))
      have cc3 : Chg S w (w2.setCell ⟨b, j * 3 + 2, none⟩ (.int .i64 (k + q + 1 + o.bytes.length))) := cc2.step cs3 (fun i _ hi => by rw [hi]; exact hS)
      clear hm2 cs1 hb b1 b2 ho1 o2 c2 cc2 cs3
      go_wp2_with fail
      go_roundg (os.length - (j + 1))
      case measure => rw [Hgk.out]; omega
      case rel =>
        refine ⟨j + 1, rfl, by omega, by go_num, ?_, cc3, ?_⟩
        · rw [show (j + 1) * 3 = j * 3 + 2 + 1 by omega, Hs2.out]; go_num
        · rw [show (j + 1) * 3 = j * 3 + 2 + 1 by omega]; exact b3
    · have ej : j = os.length := by omega
      rw [ej, markedF_all _ _ (by rw [len_heldFlds]; exact Nat.le_refl _)] at hb
      have e2 : (heldFlds os).take (j * 3) = heldFlds os := List.take_of_length_le (by rw [len_heldFlds]; omega)
      rw [e2]
      clear e2 ej
      go_wp2_with fail
      go_ret
      exact ⟨rfl, hw, hb⟩

set_option maxRecDepth 4000 in
set_option maxHeartbeats 1000000 in
theorem heldHelds {S : Nat → Prop} (v : Value) (os : List HeldR) (k : Int) (w : World) (h : Recs 3 S w v os.length (markF k (heldFlds os))) (hk0 : 0 ≤ k) (hk1 : k ≤ 576460752303423488) (hr : sizes (heldFlds os) ≤ 576460752303423488) :
    Calls Try.prog 20 #[v, .int .i64 k] w fun e w' => e = .returned (.int .i64 (k + sizes (heldFlds os))) ∧ w = w' := by
  have h0 := h
  obtain ⟨-, a, c, rfl, h1, h2, -⟩ := h
  unfold maxLen at h2
  go_enter Try.func20, Try.ntmps20
  go_wp2
  go_loopg [1, 5] os.length (fun gk q i wr => ∃ (j : Nat), gk = os.length - j ∧ j ≤ os.length ∧ i = .int .i64 j ∧ q = .int .i64 (k + sizes ((heldFlds os).take (j * 3))) ∧ wr = w)
  case atStart => exact ⟨0, by omega, Nat.zero_le _, rfl, by simp [sizes], rfl⟩
  case round =>
    obtain ⟨j, hgk, hj, rfl, rfl, rfl⟩ := hrel
    have Hgk := Lib.hid hgk
    clear hgk
    by_cases hlt : j < os.length
    · obtain ⟨o, hx⟩ := get_of hlt
      obtain ⟨g0, g1, g2⟩ := heldFlds_get hx
      have m0 := markF_get (k := k) g0
      have m1 := markF_get (k := k) g1
      have m2 := markF_get (k := k) g2
      have s0 := sizes_take g0
      have s1 := sizes_take g1
      have s2 := sizes_take g2
      have sl := sizes_le (heldFlds os) (j * 3 + 2 + 1)
      simp only [Fld.mark, Fld.size] at m0 m1 m2 s0 s1 s2
      rw [s0] at m1 s1
      rw [s1] at m2 s2
      rw [show ∀ q : Nat, k + ((q + 1 : Nat) : Int) = k + q + 1 from fun q => by omega] at m1
      rw [show ∀ q : Nat, k + ((q + 1 + o.bytes.length : Nat) : Int) = k + q + 1 + o.bytes.length from fun q => by omega] at m2
      rw [s2] at sl
      generalize hq : sizes ((heldFlds os).take (j * 3)) = q at *
      obtain ⟨b, off, c', e1, hS, hlb, hcs⟩ := h0.head (by omega)
      simp only [Value.slice.injEq] at e1
      obtain ⟨rfl, -, rfl⟩ := e1
      obtain ⟨u0, hc0, rfl, -⟩ := hcs _ _ m0
      obtain ⟨u1, hc1, r1⟩ := hcs _ _ m1
      obtain ⟨u2, hc2, rfl, -⟩ := hcs _ _ m2
      rw [← Nat.add_assoc] at hc1 hc2
      have hbl : (o.bytes.length : Int) ≤ 576460752303423488 := by omega
      have hcall := heldInts u1 o.bytes.length (k + q + 1) wr r1 (by omega) (by omega) (by omega)
      have Hcall := Lib.hid hcall
      have Hs2 := Lib.hid s2
      have hnn : ¬ (k + (q : Int) + 1 + (o.bytes.length : Int) < 0) := by omega
      clear hcall m0 m1 m2 s0 s1 s2 g0 g1 g2 hx hq hcs r1
      go_wp2_with fail
      refine Hcall.out.mono ?_
      rintro e w2 ⟨rfl, rfl⟩
      go_wp2_with fail
      go_roundg (os.length - (j + 1))
      case measure => rw [Hgk.out]; omega
      case rel =>
        refine ⟨j + 1, rfl, by omega, by go_num, ?_, rfl⟩
        rw [show (j + 1) * 3 = j * 3 + 2 + 1 by omega, Hs2.out]; go_num
    · have e2 : (heldFlds os).take (j * 3) = heldFlds os := List.take_of_length_le (by rw [len_heldFlds]; omega)
      rw [e2]
      clear e2
      go_wp2_with fail
      go_ret
      exact ⟨rfl, rfl⟩
end Go.Proofs.Ytfhnhggmoplmiaa
