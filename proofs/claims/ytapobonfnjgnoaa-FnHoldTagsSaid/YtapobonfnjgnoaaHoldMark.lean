/- Holds: markHoldS, heldHoldS. -/
import Derived.Test.YtapobonfnjgnoaaHolds
import Derived.Test.YtapobonfnjgnoaaMarkText
import Derived.Test.YtapobonfnjgnoaaRecsPut
import Derived.Deep.RegionHeld3
namespace Go.Proofs.Ytapobonfnjgnoaa
open Go.RowKit

theorem OwnRecs.putTxt {e sz : Nat} {S : Nat → Prop} {w : World} {b c n i : Nat} {fs : List Fld} {x y : List UInt8} (h : OwnRecs e sz S w (.slice (some ⟨b, 0, none⟩) n c) n fs) (hf : fs[i]? = some (.txt x)) (hy : y.length ≤ maxLen) :
    OwnRecs e sz S (w.setCell ⟨b, i, none⟩ (txt y)) (.slice (some ⟨b, 0, none⟩) n c) n (fs.set i (.txt y)) := by
  obtain ⟨us, h1, h2⟩ := h
  obtain ⟨u, hu, ho⟩ := h2.get hf
  refine ⟨us.set i (txt y), h1.set i _, ?_⟩
  have h3 := h2.chg (chg_set1 w b i (txt y)) (fun j _ hj e => hj.2 (by rw [e]; rfl))
  exact Fields.put (f := .txt x) (f' := .txt y) (T := fun _ => False) (Chg.refl _ _) (fun _ h => h.elim) (fun j hj => by simp [blk] at hj) h3 hu hf (fun S' _ => ⟨rfl, hy⟩)
theorem markT_len {k : Int} (hk : k ≤ 1152921504606846976) : (markT k).length ≤ maxLen := by
  have h : (decs k.toNat).length ≤ 19 := decs_len 18 k.toNat (by
    have : k.toNat ≤ 1152921504606846976 := by omega
    omega)
  unfold markT maxLen
  rw [List.length_cons]; omega
theorem holdFlds_get {os : List HoldR} {j : Nat} {o : HoldR} (h : os[j]? = some o) : (holdFlds os)[j * 2]? = some (.txt o.snap) ∧ (holdFlds os)[j * 2 + 1]? = some (.txt o.tag) :=
  ⟨flds_get HoldR.flds 2 (fun _ => rfl) os (j := 0) h (by omega), flds_get HoldR.flds 2 (fun _ => rfl) os (j := 1) h (by omega)⟩
theorem len_holdFlds (os : List HoldR) : (holdFlds os).length = os.length * 2 := flds_len HoldR.flds 2 (fun _ => rfl) os
theorem sizes_hold : ∀ os : List HoldR, sizes (holdFlds os) = os.length * 2
  | [] => rfl
  | o :: r => by
    show sizes ([.txt o.snap, .txt o.tag] ++ holdFlds r) = _
    rw [sizes_append, sizes_hold r]
    simp [sizes, Fld.size]; omega

set_option maxRecDepth 4000 in
set_option maxHeartbeats 1000000 in
theorem markHolds {S : Nat → Prop} (v : Value) (os : List HoldR) (k : Int) (w : World) (h : OwnHolds S w v os) (hk0 : 0 ≤ k) (hk1 : k ≤ 576460752303423488) (hr : sizes (holdFlds os) ≤ 288230376151711744) :
    Calls Try.prog 28 #[v, .int .i64 k] w fun e w' => e = .returned (.int .i64 (k + sizes (holdFlds os))) ∧ Chg S w w' ∧ OwnRecs 25 2 S w' v os.length (markF k (holdFlds os)) := by
  have h0 := h
  obtain ⟨a, c, rfl, h1, h2, -⟩ := h.shape
  unfold maxLen at h2
  go_enter Try.func28, Try.ntmps28
  go_wp2
  go_loopg [1, 5] os.length (fun gk q i wr => ∃ (j : Nat), gk = os.length - j ∧ j ≤ os.length ∧ i = .int .i64 j ∧ q = .int .i64 (k + sizes ((holdFlds os).take (j * 2))) ∧ Chg S w wr ∧ OwnRecs 25 2 S wr (.slice a os.length c) os.length (markedF k (holdFlds os) (j * 2)))
  case atStart => exact ⟨0, by omega, Nat.zero_le _, rfl, by simp [sizes], Chg.refl _ _, by rw [Nat.zero_mul, markedF_zero]; exact h0⟩
  case round =>
    obtain ⟨j, hgk, hj, rfl, rfl, hw, hb⟩ := hrel
    have Hgk := Lib.hid hgk
    clear hgk
    by_cases hlt : j < os.length
    · obtain ⟨o, hx⟩ := get_of hlt
      obtain ⟨g0, g1⟩ := holdFlds_get hx
      have m0 := markedF_step (k := k) g0
      have m1 := markedF_step (k := k) g1
      have s0 := sizes_take g0
      have s1 := sizes_take g1
      have sl := sizes_le (holdFlds os) (j * 2 + 1 + 1)
      have l0 : (markedF k (holdFlds os) (j * 2))[j * 2]? = _ := (markedF_later (k := k) (Nat.le_refl _)).trans g0
      have l1 : (markedF k (holdFlds os) (j * 2 + 1))[j * 2 + 1]? = _ := (markedF_later (k := k) (Nat.le_refl _)).trans g1
      simp only [Fld.mark, Fld.size] at m0 m1 s0 s1
      rw [s0] at m1 s1
      rw [show ∀ q : Nat, k + ((q + 1 : Nat) : Int) = k + q + 1 from fun q => by omega] at m1
      rw [s1] at sl
      generalize hq : sizes ((holdFlds os).take (j * 2)) = q at *
      obtain ⟨b, c', u0, e1, hS, hlb, hc0, hf0, ho0⟩ := hb.at l0
      simp only [Value.slice.injEq] at e1
      obtain ⟨rfl, -, rfl⟩ := e1
      have hcall := fun W => markText (k + q) W (by omega)
      have hcall2 := fun W => markText (k + q + 1) W (by omega)
      have ml0 := markT_len (k := k + q) (by omega)
      have ml1 := markT_len (k := k + q + 1) (by omega)
      unfold txt at hcall hcall2
      generalize hT0 : markT (k + q) = T0 at *
      generalize hT1 : markT (k + q + 1) = T1 at *
      have Hcall := Lib.hid hcall
      have Hcall2 := Lib.hid hcall2
      have Hm0 := Lib.hid m0
      have Hm1 := Lib.hid m1
      have Hs1 := Lib.hid s1
      have Hl1 := Lib.hid l1
      have Hl0 := Lib.hid l0
      clear hcall hcall2 m0 m1 s0 s1 l0 l1 g0 g1 hx hq ho0 hc0 hf0 hT0 hT1
      go_wp2_with fail
      refine (Hcall.out _).mono ?_
      rintro e w2 ⟨rfl, n2⟩
      have b0 := hb.new n2
      obtain ⟨b', c', u0', e1, -, -, hc0, hf0, -⟩ := b0.at Hl0.out
      simp only [Value.slice.injEq, Option.some.injEq, Addr.mk.injEq] at e1
      obtain ⟨⟨rfl, -, -⟩, -, rfl⟩ := e1
      have b1 := b0.putTxt Hl0.out ml0
      rw [Hm0.out] at b1
      have cs1 := chg_set1 w2 b (j * 2) (txt T0)
      have cc1 : Chg S w (w2.setCell ⟨b, j * 2, none⟩ (txt T0)) := (hw.step n2 (fun _ _ hf => hf.elim)).step cs1 (fun i _ hi => by rw [hi]; exact hS)
      clear hb b0
      unfold txt at b1 cc1
      go_wp2_with fail
      refine (Hcall2.out _).mono ?_
      rintro e w3 ⟨rfl, n3⟩
      have b2 := b1.new n3
      obtain ⟨b', c', u1', e1, -, -, hc1, hf1, -⟩ := b2.at Hl1.out
      simp only [Value.slice.injEq, Option.some.injEq, Addr.mk.injEq] at e1
      obtain ⟨⟨rfl, -, -⟩, -, rfl⟩ := e1
      have b3 := b2.putTxt Hl1.out ml1
      rw [Hm1.out] at b3
      have cs2 := chg_set1 w3 b (j * 2 + 1) (txt T1)
      have cc2 : Chg S w (w3.setCell ⟨b, j * 2 + 1, none⟩ (txt T1)) := (cc1.step n3 (fun _ _ hf => hf.elim)).step cs2 (fun i _ hi => by rw [hi]; exact hS)
      clear b1 b2 cc1 cs1 cs2
      unfold txt at b3 cc2
      go_wp2_with fail
      go_roundg (os.length - (j + 1))
      case measure => rw [Hgk.out]; omega
      case rel =>
        refine ⟨j + 1, rfl, by omega, by go_num, ?_, cc2, ?_⟩
        · rw [show (j + 1) * 2 = j * 2 + 1 + 1 by omega, Hs1.out]; go_num
        · rw [show (j + 1) * 2 = j * 2 + 1 + 1 by omega]; exact b3
    · have ej : j = os.length := by omega
      rw [ej, markedF_all _ _ (by rw [len_holdFlds]; exact Nat.le_refl _)] at hb
      have e2 : (holdFlds os).take (j * 2) = holdFlds os := List.take_of_length_le (by rw [len_holdFlds]; omega)
      rw [e2]
      clear e2 ej
      go_wp2_with fail
      go_ret
      exact ⟨rfl, hw, hb⟩

set_option maxRecDepth 4000 in
set_option maxHeartbeats 1000000 in
theorem heldHolds {S : Nat → Prop} (v : Value) (os : List HoldR) (k : Int) (w : World) (h : Recs 2 S w v os.length (markF k (holdFlds os))) (hk0 : 0 ≤ k) (hk1 : k ≤ 576460752303423488) (hr : sizes (holdFlds os) ≤ 288230376151711744) :
    Calls Try.prog 29 #[v, .int .i64 k] w fun e w' => e = .returned (.int .i64 (k + sizes (holdFlds os))) ∧ New w w' := by
  have h0 := h
  obtain ⟨-, a, c, rfl, h1, h2, -⟩ := h
  unfold maxLen at h2
  go_enter Try.func29, Try.ntmps29
  go_wp2
  go_loopg [1, 5] os.length (fun gk q i wr => ∃ (j : Nat), gk = os.length - j ∧ j ≤ os.length ∧ i = .int .i64 j ∧ q = .int .i64 (k + sizes ((holdFlds os).take (j * 2))) ∧ New w wr)
  case atStart => exact ⟨0, by omega, Nat.zero_le _, rfl, by simp [sizes], New.refl _⟩
  case round =>
    obtain ⟨j, hgk, hj, rfl, rfl, hnw⟩ := hrel
    have Hgk := Lib.hid hgk
    clear hgk
    by_cases hlt : j < os.length
    · obtain ⟨o, hx⟩ := get_of hlt
      obtain ⟨g0, g1⟩ := holdFlds_get hx
      have m0 := markF_get (k := k) g0
      have m1 := markF_get (k := k) g1
      have s0 := sizes_take g0
      have s1 := sizes_take g1
      have sl := sizes_le (holdFlds os) (j * 2 + 1 + 1)
      simp only [Fld.mark, Fld.size] at m0 m1 s0 s1
      rw [s0] at m1 s1
      rw [show ∀ q : Nat, k + ((q + 1 : Nat) : Int) = k + q + 1 from fun q => by omega] at m1
      rw [s1] at sl
      generalize hq : sizes ((holdFlds os).take (j * 2)) = q at *
      obtain ⟨b, off, c', e1, hS, hlb, hcs⟩ := (h0.new hnw).head (by omega)
      simp only [Value.slice.injEq] at e1
      obtain ⟨rfl, -, rfl⟩ := e1
      obtain ⟨u0, hc0, rfl, -⟩ := hcs _ _ m0
      obtain ⟨u1, hc1, rfl, -⟩ := hcs _ _ m1
      rw [← Nat.add_assoc] at hc1
      have hcall := fun W => markText (k + q) W (by omega)
      have hcall2 := fun W => markText (k + q + 1) W (by omega)
      unfold txt at hcall hcall2 hc0 hc1
      generalize hT0 : markT (k + q) = T0 at *
      generalize hT1 : markT (k + q + 1) = T1 at *
      have Hcall := Lib.hid hcall
      have Hcall2 := Lib.hid hcall2
      have Hs1 := Lib.hid s1
      have n1 : New w wr.drew := hnw.drew
      have k0 : wr.drew.cell? ⟨b, off + j * 2, none⟩ = some (.string ⟨T0.toArray⟩) := hc0
      have k1 : wr.drew.cell? ⟨b, off + j * 2 + 1, none⟩ = some (.string ⟨T1.toArray⟩) := hc1
      clear hcall hcall2 m0 m1 s0 s1 g0 g1 hx hq hcs hc0 hc1 hT0 hT1
      go_wp2_with fail
      go_region_held3 (fun w' => w'.cell? ⟨b, off + j * 2, none⟩ = some (.string ⟨T0.toArray⟩)) (first | exact k0 | exact n2.cell k0)
        (first
          | (go_at_call 47; refine (Hcall.out _).mono ?_; rintro e w2 ⟨rfl, n2⟩))
      have k1' := n2.cell k1
      have n3 := n1.trans n2
      go_wp2_with fail
      have k2 : w2.drew.cell? ⟨b, off + j * 2 + 1, none⟩ = some (.string ⟨T1.toArray⟩) := k1'
      have n4 := n3.drew
      go_region_held3 (fun w' => w'.cell? ⟨b, off + j * 2 + 1, none⟩ = some (.string ⟨T1.toArray⟩)) (first | exact k2 | exact n5.cell k2)
        (first
          | (go_at_call 47; refine (Hcall2.out _).mono ?_; rintro e w5 ⟨rfl, n5⟩))
      have n6 := n4.trans n5
      go_wp2_with fail
      go_roundg (os.length - (j + 1))
      case measure => rw [Hgk.out]; omega
      case rel =>
        refine ⟨j + 1, rfl, by omega, by go_num, ?_, n6⟩
        rw [show (j + 1) * 2 = j * 2 + 1 + 1 by omega, Hs1.out]; go_num
    · have e2 : (holdFlds os).take (j * 2) = holdFlds os := List.take_of_length_le (by rw [len_holdFlds]; omega)
      rw [e2]
      clear e2
      go_wp2_with fail
      go_ret
      exact ⟨rfl, hnw⟩
end Go.Proofs.Ytapobonfnjgnoaa
