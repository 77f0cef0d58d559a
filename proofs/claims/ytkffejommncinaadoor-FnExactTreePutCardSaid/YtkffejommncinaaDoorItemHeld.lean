/- heldItemS. -/
import Derived.Test.YtkffejommncinaaDoorItemMark
import Derived.Deep.RegionHeld3
namespace Go.Proofs.YtkffejommncinaaDoor
open Go.RowKit

set_option maxRecDepth 4000 in
set_option maxHeartbeats 1000000 in
theorem heldItems {S : Nat → Prop} (v : Value) (os : List ItemR) (k : Int) (w : World) (h : Recs 3 S w v os.length (markF k (itemFlds os))) (hk0 : 0 ≤ k) (hk1 : k ≤ 576460752303423488) (hr : sizes (itemFlds os) ≤ 288230376151711744) :
    Calls Tryd.prog 28 #[v, .int .i64 k] w fun e w' => e = .returned (.int .i64 (k + sizes (itemFlds os))) ∧ New w w' := by
  have h0 := h
  obtain ⟨-, a, c, rfl, h1, h2, -⟩ := h
  unfold maxLen at h2
  go_enter Tryd.func28, Tryd.ntmps28
  go_wp2
  go_loopg [1, 5] os.length (fun gk q i wr => ∃ (j : Nat), gk = os.length - j ∧ j ≤ os.length ∧ i = .int .i64 j ∧ q = .int .i64 (k + sizes ((itemFlds os).take (j * 3))) ∧ New w wr)
  case atStart => exact ⟨0, by omega, Nat.zero_le _, rfl, by simp [sizes], New.refl _⟩
  case round =>
    obtain ⟨j, hgk, hj, rfl, rfl, hnw⟩ := hrel
    have Hgk := Lib.hid hgk
    clear hgk
    by_cases hlt : j < os.length
    · obtain ⟨o, hx⟩ := get_of hlt
      obtain ⟨g0, g1, g2⟩ := itemFlds_get hx
      have m0 := markF_get (k := k) g0
      have m1 := markF_get (k := k) g1
      have m2 := markF_get (k := k) g2
      have s0 := sizes_take g0
      have s1 := sizes_take g1
      have s2 := sizes_take g2
      have sl := sizes_le (itemFlds os) (j * 3 + 2 + 1)
      simp only [Fld.mark, Fld.size] at m0 m1 m2 s0 s1 s2
      rw [s0] at m1 s1
      rw [s1] at m2 s2
      rw [show ∀ q : Nat, k + ((q + 1 : Nat) : Int) = k + q + 1 from fun q => by omega] at m1
      rw [show ∀ q : Nat, k + ((q + 1 + 1 : Nat) : Int) = k + q + 1 + 1 from fun q => by omega] at m2
      rw [s2] at sl
      generalize hq : sizes ((itemFlds os).take (j * 3)) = q at *
      obtain ⟨b, off, c', e1, hS, hlb, hcs⟩ := (h0.new hnw).head (by omega)
      simp only [Value.slice.injEq] at e1
      obtain ⟨rfl, -, rfl⟩ := e1
      obtain ⟨u0, hc0, rfl, -⟩ := hcs _ _ m0
      obtain ⟨u1, hc1, e1⟩ := hcs _ _ m1
      obtain ⟨u2, hc2, r2⟩ := hcs _ _ m2
      rw [← Nat.add_assoc] at hc1 hc2
      obtain rfl : u1 = .bool (decide ((k + q + 1) % 3 = 0)) := e1
      have hcall := fun W => markText (k + q) W (by omega)
      unfold txt at hcall hc0
      generalize hT0 : markT (k + q) = T0 at *
      obtain ⟨B0, hB0, hB1⟩ : ∃ B0, decide ((k + q + 1) % 3 = 0) = B0 ∧ ((k + q + 1) % 3 == 0) = B0 := ⟨_, rfl, rfl⟩
      rw [hB0] at hc1
      have hil : (o.ids.length : Int) ≤ 288230376151711744 := by omega
      have hh := fun (W : World) (n : New wr W) => heldInts u2 o.ids.length (k + q + 1 + 1) W (Nums.new r2 n) (by omega) (by omega) (by omega)
      have Hh := Lib.hid hh
      have Hcall := Lib.hid hcall
      have Hs2 := Lib.hid s2
      have n1 : New wr wr.drew := (New.refl _).drew
      have k0 : wr.drew.cell? ⟨b, off + j * 3, none⟩ = some (.string ⟨T0.toArray⟩) := hc0
      have C1 := Lib.hid hc1
      have C2 := Lib.hid hc2
      obtain ⟨a2, c2, e2, -⟩ := id r2
      rw [length_upTo] at e2
      subst e2
      have hneg : ¬ (k + (q : Int) + 1 + 1 + (o.ids.length : Int) < 0) := by omega
      have hbb : (T0 != T0) = false := by simp
      have hbb2 : (B0 != B0) = false := by simp
      clear hcall m0 m1 m2 s0 s1 s2 g0 g1 g2 hx hq hcs hc0 hc1 hc2 hT0 hB0 hh r2
      go_wp2_with fail
      go_region_held3 (fun w' => w'.cell? ⟨b, off + j * 3, none⟩ = some (.string ⟨T0.toArray⟩)) (first | exact k0 | exact n2.cell k0)
        (first
          | (go_at_call 56; refine (Hcall.out _).mono ?_; rintro e w2 ⟨rfl, n2⟩))
      have n3 := n1.trans n2
      have c1 := n3.cell C1.out
      have c2' := n3.cell C2.out
      go_wp2_with fail
      refine (Hh.out _ n3).mono ?_
      rintro e w4 ⟨rfl, rfl⟩
      go_wp2_with fail
      go_roundg (os.length - (j + 1))
      case measure => rw [Hgk.out]; omega
      case rel =>
        refine ⟨j + 1, rfl, by omega, by go_num, ?_, hnw.trans n3⟩
        rw [show (j + 1) * 3 = j * 3 + 2 + 1 by omega, Hs2.out]; go_num
    · have e2 : (itemFlds os).take (j * 3) = itemFlds os := List.take_of_length_le (by rw [len_itemFlds]; omega)
      rw [e2]
      clear e2
      go_wp2_with fail
      go_ret
      exact ⟨rfl, hnw⟩
end Go.Proofs.YtkffejommncinaaDoor
