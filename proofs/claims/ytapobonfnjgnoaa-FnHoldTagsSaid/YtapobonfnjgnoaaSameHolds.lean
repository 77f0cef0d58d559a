/- sameHolds. -/
import Derived.Test.YtapobonfnjgnoaaHolds
namespace Go.Proofs.Ytapobonfnjgnoaa
open Go.RowKit

set_option maxRecDepth 4000 in
set_option maxHeartbeats 400000 in
theorem sameHolds {S T : Nat → Prop} (v u : Value) (xs ys : List HoldR) (w : World) (h : Holds S w v xs) (g : Holds T w u ys) :
    Calls Try.prog 13 #[v, u] w fun e w' => e = .returned (.bool (decide (xs = ys))) ∧ New w w' := by
  have h0 := h
  have g0 := g
  obtain ⟨-, a, c, rfl, h1, h2, -⟩ := h
  obtain ⟨-, a', c', rfl, g1, g2, -⟩ := g
  unfold maxLen at h2 g2
  by_cases hl : xs.length = ys.length
  · have e0 := eqLs_is xs ys hl
    have E0 := Lib.hid e0
    have hne : (((xs.length : Int) != (ys.length : Int))) = false := by simp [hl]
    have Hl := Lib.hid hl
    have hat := fun (W : World) (n : New w W) (k : Nat) (o : HoldR) (ho : xs[k]? = some o) => Holds.at (Recs.new h0 n) ho
    have gat := fun (W : World) (n : New w W) (k : Nat) (o : HoldR) (ho : ys[k]? = some o) => Holds.at (Recs.new g0 n) ho
    have Hat := Lib.hid hat
    have Gat := Lib.hid gat
    clear e0 hl hat gat
    go_enter Try.func13, Try.ntmps13
    go_wp2
    go_loopg [5] xs.length (fun gk i wr => ∃ (k : Nat), gk = xs.length - k ∧ k ≤ xs.length ∧ i = .int .i64 k ∧ New w wr ∧ eqLs HoldR xs ys = eqLs HoldR (xs.drop k) (ys.drop k))
    case atStart => exact ⟨0, by omega, Nat.zero_le _, rfl, New.refl _, rfl⟩
    case round =>
      obtain ⟨k, hgk, hk, rfl, hw, he⟩ := hrel
      have Hgk := Lib.hid hgk
      have He := Lib.hid he
      clear he hgk
      by_cases hlt : k < xs.length
      · obtain ⟨x, hx⟩ := get_of hlt
        have hlt2 : k < ys.length := by rw [← Hl.out]; exact hlt
        obtain ⟨y, hy⟩ := get_of hlt2
        obtain ⟨b, off, cb, e1, -, c0, c1, -, -⟩ := Hat.out wr hw k x hx
        obtain ⟨b', off', cb', e2, -, d0, d1, -, -⟩ := Gat.out wr hw k y hy
        simp only [Value.slice.injEq] at e1 e2
        obtain ⟨rfl, -, rfl⟩ := e1
        obtain ⟨rfl, -, rfl⟩ := e2
        have Hx := Lib.hid (drop_of hx)
        have Hy := Lib.hid (drop_of hy)
        unfold txt at c0 c1 d0 d1
        clear hx hy
        by_cases hxy : x = y
        · subst hxy
          go_wp2
          go_quiet (fail)
          go_wp2
          go_roundg (xs.length - (k + 1))
          case measure => rw [Hgk.out]; omega
          case rel => exact ⟨k + 1, rfl, by omega, by go_num, by first | exact hw.drewN _ | exact hw.drew | exact hw, by rw [He.out, Hx.out, Hy.out, eqLs, if_pos rfl]⟩
        · have Hxy := Lib.hid hxy
          have hne : ¬ (x.snap = y.snap ∧ x.tag = y.tag) := by
            rintro ⟨e1, e2⟩
            apply hxy
            obtain ⟨a1, a2⟩ := x
            obtain ⟨b1, b2⟩ := y
            simp only at e1 e2
            rw [e1, e2]
          by_cases hs : x.snap = y.snap
          · have ht : ¬ x.tag = y.tag := fun e => hne ⟨hs, e⟩
            have ht2 : (x.tag == y.tag) = false := by simp [ht]
            have ht3 : (x.tag != y.tag) = true := by simp [ht]
            have hs2 : (x.snap == y.snap) = true := by simp [hs]
            have hs3 : (x.snap != y.snap) = false := by simp [hs]
            clear hne hs ht hxy
            go_wp2
            go_quiet (fail)
            go_wp2
            go_ret
            exact ⟨ret_bool (by rw [← E0.out, He.out, Hx.out, Hy.out, eqLs, if_neg Hxy.out]), by first | exact hw.drewN _ | exact hw.drew | exact hw⟩
          · have ht2 : (x.snap == y.snap) = false := by simp [hs]
            have ht3 : (x.snap != y.snap) = true := by simp [hs]
            clear hne hs hxy
            go_wp2
            go_quiet (fail)
            go_wp2
            go_ret
            exact ⟨ret_bool (by rw [← E0.out, He.out, Hx.out, Hy.out, eqLs, if_neg Hxy.out]), by first | exact hw.drewN _ | exact hw.drew | exact hw⟩
      · go_wp2
        go_ret
        exact ⟨ret_bool (by rw [← E0.out, He.out, drop_end hlt]; simp [eqLs]), hw⟩
  · have hne : (((xs.length : Int) != (ys.length : Int))) = true := by simp; omega
    have Hl := Lib.hid hl
    clear hl
    go_enter Try.func13, Try.ntmps13
    go_wp2
    go_ret
    exact ⟨ret_bool (by simp; intro e; exact Hl.out (by rw [e])), New.refl _⟩
end Go.Proofs.Ytapobonfnjgnoaa
