/- Slices of strings: eqStringS, sameTexts, markStringS, heldStringS. -/
import Derived.Test.YtnpblnkjdebedaaDoorTreeKit
import Derived.Test.YtnpblnkjdebedaaDoorTexts0
import Derived.Deep.RegionHeld3
namespace Go.Proofs.YtnpblnkjdebedaaDoor
open Go.RowKit

def strFlds (os : List (List UInt8)) : List Fld := os.map .txt
/-- a slice that reads as texts -/
def Strs (S : Nat → Prop) (w : World) (v : Value) (os : List (List UInt8)) : Prop := Recs 1 S w v os.length (strFlds os)
def OwnStrs (S : Nat → Prop) (w : World) (v : Value) (os : List (List UInt8)) : Prop := OwnRecs 9 1 S w v os.length (strFlds os)
theorem strFlds_get {os : List (List UInt8)} {j : Nat} {o : List UInt8} (h : os[j]? = some o) : (strFlds os)[j]? = some (.txt o) := by simp [strFlds, h]
theorem len_strFlds (os : List (List UInt8)) : (strFlds os).length = os.length := by simp [strFlds]
theorem sizes_str : ∀ os : List (List UInt8), sizes (strFlds os) = os.length
  | [] => rfl
  | o :: r => by
    show sizes ([.txt o] ++ strFlds r) = _
    rw [sizes_append, sizes_str r]
    simp [sizes, Fld.size]; omega
theorem Strs.at {S : Nat → Prop} {w : World} {v : Value} {os : List (List UInt8)} (h : Strs S w v os) {i : Nat} {o : List UInt8} (ho : os[i]? = some o) :
    ∃ b off c, v = .slice (some ⟨b, off, none⟩) os.length c ∧ b < w.heap.size ∧ w.cell? ⟨b, off + i, none⟩ = some (txt o) ∧ o.length ≤ maxLen := by
  obtain ⟨b, off, c, rfl, hS, hb, hc⟩ := h.head (by have := (List.getElem?_eq_some_iff.1 ho).1; omega)
  obtain ⟨u0, c0, r0, l0⟩ := hc i (.txt o) (strFlds_get ho)
  subst r0
  exact ⟨b, off, c, rfl, hb, c0, l0⟩

set_option maxRecDepth 4000 in
set_option maxHeartbeats 400000 in
theorem eqStrs {S T : Nat → Prop} (v u : Value) (xs ys : List (List UInt8)) (w : World) (h : Strs S w v xs) (g : Strs T w u ys) :
    Calls Tryd.prog 31 #[v, u] w fun e w' => e = .returned (.bool (decide (xs = ys))) ∧ New w w' := by
  have h0 := h
  have g0 := g
  obtain ⟨-, a, c, rfl, h1, h2, -⟩ := h
  obtain ⟨-, a', c', rfl, g1, g2, -⟩ := g
  unfold maxLen at h2 g2
  by_cases hl : xs.length = ys.length
  · have e0 := eqLs_is xs ys hl
    have E0 := Lib.hid e0
    have hne : (((xs.length : Int) != (ys.length : Int))) = false := by simp [hl]
    have Hl := Lib.hid hl
    have hat := fun (W : World) (n : New w W) (k : Nat) (o : List UInt8) (ho : xs[k]? = some o) => Strs.at (Recs.new h0 n) ho
    have gat := fun (W : World) (n : New w W) (k : Nat) (o : List UInt8) (ho : ys[k]? = some o) => Strs.at (Recs.new g0 n) ho
    have Hat := Lib.hid hat
    have Gat := Lib.hid gat
    clear e0 hl hat gat
    go_enter Tryd.func31, Tryd.ntmps31
    go_wp2
    go_loopg [5] xs.length (fun gk i wr => ∃ (k : Nat), gk = xs.length - k ∧ k ≤ xs.length ∧ i = .int .i64 k ∧ New w wr ∧ eqLs (List UInt8) xs ys = eqLs (List UInt8) (xs.drop k) (ys.drop k))
    case atStart => exact ⟨0, by omega, Nat.zero_le _, rfl, New.refl _, rfl⟩
    case round =>
      obtain ⟨k, hgk, hk, rfl, hw, he⟩ := hrel
      have Hgk := Lib.hid hgk
      have He := Lib.hid he
      clear he hgk
      by_cases hlt : k < xs.length
      · obtain ⟨x, hx⟩ := get_of hlt
        have hlt2 : k < ys.length := by rw [← Hl.out]; exact hlt
        obtain ⟨y, hy⟩ := get_of hlt2
        obtain ⟨b, off, cb, e1, -, c0, -⟩ := Hat.out wr hw k x hx
        obtain ⟨b', off', cb', e2, -, d0, -⟩ := Gat.out wr hw k y hy
        simp only [Value.slice.injEq] at e1 e2
        obtain ⟨rfl, -, rfl⟩ := e1
        obtain ⟨rfl, -, rfl⟩ := e2
        have Hx := Lib.hid (drop_of hx)
        have Hy := Lib.hid (drop_of hy)
        unfold txt at c0 d0
        clear hx hy
        by_cases hxy : x = y
        · subst hxy
          go_wp2
          go_quiet (fail)
          go_wp2
          go_roundg (xs.length - (k + 1))
          case measure => rw [Hgk.out]; omega
          case rel => exact ⟨k + 1, rfl, by omega, by go_num, by first | exact hw.drewN _ | exact hw.drew | exact hw, by rw [He.out, Hx.out, Hy.out, eqLs, if_pos rfl]⟩
        · have hd : (x != y) = true := by simp [hxy]
          have hd2 : (x == y) = false := by simp [hxy]
          have Hxy := Lib.hid hxy
          clear hxy
          go_wp2
          go_quiet (fail)
          go_wp2
          go_ret
          exact ⟨ret_bool (by rw [← E0.out, He.out, Hx.out, Hy.out, eqLs, if_neg Hxy.out]), by first | exact hw.drewN _ | exact hw.drew | exact hw⟩
      · go_wp2
        go_ret
        exact ⟨ret_bool (by rw [← E0.out, He.out, drop_end hlt]; simp [eqLs]), hw⟩
  · have hne : (((xs.length : Int) != (ys.length : Int))) = true := by simp; omega
    have Hl := Lib.hid hl
    clear hl
    go_enter Tryd.func31, Tryd.ntmps31
    go_wp2
    go_ret
    exact ⟨ret_bool (by simp; intro e; exact Hl.out (by rw [e])), New.refl _⟩
set_option maxRecDepth 4000 in
set_option maxHeartbeats 400000 in
theorem sameTexts {S T : Nat → Prop} (v u : Value) (xs ys : List (List UInt8)) (w : World) (h : Strs S w v xs) (g : Strs T w u ys) :
    Calls Tryd.prog 26 #[v, u] w fun e w' => e = .returned (.bool (decide (xs = ys))) ∧ New w w' := by
  have h0 := h
  have g0 := g
  obtain ⟨-, a, c, rfl, h1, h2, -⟩ := h
  obtain ⟨-, a', c', rfl, g1, g2, -⟩ := g
  unfold maxLen at h2 g2
  by_cases hl : xs.length = ys.length
  · have e0 := eqLs_is xs ys hl
    have E0 := Lib.hid e0
    have hne : (((xs.length : Int) != (ys.length : Int))) = false := by simp [hl]
    have Hl := Lib.hid hl
    have hat := fun (W : World) (n : New w W) (k : Nat) (o : List UInt8) (ho : xs[k]? = some o) => Strs.at (Recs.new h0 n) ho
    have gat := fun (W : World) (n : New w W) (k : Nat) (o : List UInt8) (ho : ys[k]? = some o) => Strs.at (Recs.new g0 n) ho
    have Hat := Lib.hid hat
    have Gat := Lib.hid gat
    clear e0 hl hat gat
    go_enter Tryd.func26, Tryd.ntmps26
    go_wp2
    go_loopg [5] xs.length (fun gk i wr => ∃ (k : Nat), gk = xs.length - k ∧ k ≤ xs.length ∧ i = .int .i64 k ∧ New w wr ∧ eqLs (List UInt8) xs ys = eqLs (List UInt8) (xs.drop k) (ys.drop k))
    case atStart => exact ⟨0, by omega, Nat.zero_le _, rfl, New.refl _, rfl⟩
    case round =>
      obtain ⟨k, hgk, hk, rfl, hw, he⟩ := hrel
      have Hgk := Lib.hid hgk
      have He := Lib.hid he
      clear he hgk
      by_cases hlt : k < xs.length
      · obtain ⟨x, hx⟩ := get_of hlt
        have hlt2 : k < ys.length := by rw [← Hl.out]; exact hlt
        obtain ⟨y, hy⟩ := get_of hlt2
        obtain ⟨b, off, cb, e1, -, c0, -⟩ := Hat.out wr hw k x hx
        obtain ⟨b', off', cb', e2, -, d0, -⟩ := Gat.out wr hw k y hy
        simp only [Value.slice.injEq] at e1 e2
        obtain ⟨rfl, -, rfl⟩ := e1
        obtain ⟨rfl, -, rfl⟩ := e2
        have Hx := Lib.hid (drop_of hx)
        have Hy := Lib.hid (drop_of hy)
        unfold txt at c0 d0
        clear hx hy
        by_cases hxy : x = y
        · subst hxy
          go_wp2
          go_quiet (fail)
          go_wp2
          go_roundg (xs.length - (k + 1))
          case measure => rw [Hgk.out]; omega
          case rel => exact ⟨k + 1, rfl, by omega, by go_num, by first | exact hw.drewN _ | exact hw.drew | exact hw, by rw [He.out, Hx.out, Hy.out, eqLs, if_pos rfl]⟩
        · have hd : (x != y) = true := by simp [hxy]
          have hd2 : (x == y) = false := by simp [hxy]
          have Hxy := Lib.hid hxy
          clear hxy
          go_wp2
          go_quiet (fail)
          go_wp2
          go_ret
          exact ⟨ret_bool (by rw [← E0.out, He.out, Hx.out, Hy.out, eqLs, if_neg Hxy.out]), by first | exact hw.drewN _ | exact hw.drew | exact hw⟩
      · go_wp2
        go_ret
        exact ⟨ret_bool (by rw [← E0.out, He.out, drop_end hlt]; simp [eqLs]), hw⟩
  · have hne : (((xs.length : Int) != (ys.length : Int))) = true := by simp; omega
    have Hl := Lib.hid hl
    clear hl
    go_enter Tryd.func26, Tryd.ntmps26
    go_wp2
    go_ret
    exact ⟨ret_bool (by simp; intro e; exact Hl.out (by rw [e])), New.refl _⟩

set_option maxRecDepth 4000 in
set_option maxHeartbeats 1000000 in
theorem markStrs {S : Nat → Prop} (v : Value) (os : List (List UInt8)) (k : Int) (w : World) (h : OwnStrs S w v os) (hk0 : 0 ≤ k) (hk1 : k ≤ 576460752303423488) (hr : sizes (strFlds os) ≤ 288230376151711744) :
    Calls Tryd.prog 32 #[v, .int .i64 k] w fun e w' => e = .returned (.int .i64 (k + sizes (strFlds os))) ∧ Chg S w w' ∧ OwnRecs 9 1 S w' v os.length (markF k (strFlds os)) := by
  have h0 := h
  obtain ⟨a, c, rfl, h1, h2, -⟩ := h.shape
  unfold maxLen at h2
  go_enter Tryd.func32, Tryd.ntmps32
  go_wp2
  go_loopg [1, 5] os.length (fun gk q i wr => ∃ (j : Nat), gk = os.length - j ∧ j ≤ os.length ∧ i = .int .i64 j ∧ q = .int .i64 (k + sizes ((strFlds os).take j)) ∧ Chg S w wr ∧ OwnRecs 9 1 S wr (.slice a os.length c) os.length (markedF k (strFlds os) j))
  case atStart => exact ⟨0, by omega, Nat.zero_le _, rfl, by simp [sizes], Chg.refl _ _, by rw [markedF_zero]; exact h0⟩
  case round =>
    obtain ⟨j, hgk, hj, rfl, rfl, hw, hb⟩ := hrel
    have Hgk := Lib.hid hgk
    clear hgk
    by_cases hlt : j < os.length
    · obtain ⟨o, hx⟩ := get_of hlt
      have g0 := strFlds_get hx
      have m0 := markedF_step (k := k) g0
      have s0 := sizes_take g0
      have sl := sizes_le (strFlds os) (j + 1)
      have l0 : (markedF k (strFlds os) j)[j]? = _ := (markedF_later (k := k) (Nat.le_refl _)).trans g0
      simp only [Fld.mark, Fld.size] at m0 s0
      rw [s0] at sl
      generalize hq : sizes ((strFlds os).take j) = q at *
      obtain ⟨b, c', u0, e1, hS, hlb, hc0, hf0, ho0⟩ := hb.at l0
      simp only [Value.slice.injEq] at e1
      obtain ⟨rfl, -, rfl⟩ := e1
      have hcall := fun W => markText (k + q) W (by omega)
      have ml0 := markT_len (k := k + q) (by omega)
      unfold txt at hcall
      generalize hT0 : markT (k + q) = T0 at *
      have Hcall := Lib.hid hcall
      have Hm0 := Lib.hid m0
      have Hs0 := Lib.hid s0
      have Hl0 := Lib.hid l0
      clear hcall m0 s0 l0 g0 hx hq ho0 hc0 hf0 hT0
      go_wp2_with fail
      refine (Hcall.out _).mono ?_
      rintro e w2 ⟨rfl, n2⟩
      have b0 := hb.new n2
      obtain ⟨b', c', u0', e1, -, -, hc0, hf0, -⟩ := b0.at Hl0.out
      simp only [Value.slice.injEq, Option.some.injEq, Addr.mk.injEq] at e1
      obtain ⟨⟨rfl, -, -⟩, -, rfl⟩ := e1
      have b1 := b0.putTxt Hl0.out ml0
      rw [Hm0.out] at b1
      have cs1 := chg_set1 w2 b j (txt T0)
      have cc1 : Chg S w (w2.setCell ⟨b, j, none⟩ (txt T0)) := (hw.step n2 (fun _ _ hf => hf.elim)).step cs1 (fun i _ hi => by rw [hi]; exact hS)
      clear hb b0
      clear cs1
      unfold txt at b1 cc1
      go_wp2_with fail
      go_roundg (os.length - (j + 1))
      case measure => rw [Hgk.out]; omega
      case rel =>
        refine ⟨j + 1, rfl, by omega, by go_num, ?_, cc1, ?_⟩
        · rw [Hs0.out]; go_num
        · exact b1
    · have ej : j = os.length := by omega
      rw [ej, markedF_all _ _ (by rw [len_strFlds]; exact Nat.le_refl _)] at hb
      have e2 : (strFlds os).take j = strFlds os := List.take_of_length_le (by rw [len_strFlds]; omega)
      rw [e2]
      clear e2 ej
      go_wp2_with fail
      go_ret
      exact ⟨rfl, hw, hb⟩

set_option maxRecDepth 4000 in
set_option maxHeartbeats 1000000 in
theorem heldStrs {S : Nat → Prop} (v : Value) (os : List (List UInt8)) (k : Int) (w : World) (h : Recs 1 S w v os.length (markF k (strFlds os))) (hk0 : 0 ≤ k) (hk1 : k ≤ 576460752303423488) (hr : sizes (strFlds os) ≤ 288230376151711744) :
    Calls Tryd.prog 33 #[v, .int .i64 k] w fun e w' => e = .returned (.int .i64 (k + sizes (strFlds os))) ∧ New w w' := by
  have h0 := h
  obtain ⟨-, a, c, rfl, h1, h2, -⟩ := h
  unfold maxLen at h2
  go_enter Tryd.func33, Tryd.ntmps33
  go_wp2
  go_loopg [1, 5] os.length (fun gk q i wr => ∃ (j : Nat), gk = os.length - j ∧ j ≤ os.length ∧ i = .int .i64 j ∧ q = .int .i64 (k + sizes ((strFlds os).take j)) ∧ New w wr)
  case atStart => exact ⟨0, by omega, Nat.zero_le _, rfl, by simp [sizes], New.refl _⟩
  case round =>
    obtain ⟨j, hgk, hj, rfl, rfl, hnw⟩ := hrel
    have Hgk := Lib.hid hgk
    clear hgk
    by_cases hlt : j < os.length
    · obtain ⟨o, hx⟩ := get_of hlt
      have g0 := strFlds_get hx
      have m0 := markF_get (k := k) g0
      have s0 := sizes_take g0
      have sl := sizes_le (strFlds os) (j + 1)
      simp only [Fld.mark, Fld.size] at m0 s0
      rw [s0] at sl
      generalize hq : sizes ((strFlds os).take j) = q at *
      obtain ⟨b, off, c', e1, hS, hlb, hcs⟩ := (h0.new hnw).head (by omega)
      simp only [Value.slice.injEq] at e1
      obtain ⟨rfl, -, rfl⟩ := e1
      obtain ⟨u0, hc0, rfl, -⟩ := hcs _ _ m0
      have hcall := fun W => markText (k + q) W (by omega)
      unfold txt at hcall hc0
      generalize hT0 : markT (k + q) = T0 at *
      have Hcall := Lib.hid hcall
      have Hs0 := Lib.hid s0
      have n1 : New w wr.drew := hnw.drew
      have k0 : wr.drew.cell? ⟨b, off + j, none⟩ = some (.string ⟨T0.toArray⟩) := hc0
      clear hcall m0 s0 g0 hx hq hcs hc0 hT0
      go_wp2_with fail
      go_region_held3 (fun w' => w'.cell? ⟨b, off + j, none⟩ = some (.string ⟨T0.toArray⟩)) (first | exact k0 | exact n2.cell k0)
        (first
          | (go_at_call 50; refine (Hcall.out _).mono ?_; rintro e w2 ⟨rfl, n2⟩))
      have n3 := n1.trans n2
      have n6 := n3
      go_wp2_with fail
      go_roundg (os.length - (j + 1))
      case measure => rw [Hgk.out]; omega
      case rel =>
        refine ⟨j + 1, rfl, by omega, by go_num, ?_, n6⟩
        rw [Hs0.out]; go_num
    · have e2 : (strFlds os).take j = strFlds os := List.take_of_length_le (by rw [len_strFlds]; omega)
      rw [e2]
      clear e2
      go_wp2_with fail
      go_ret
      exact ⟨rfl, hnw⟩
end Go.Proofs.YtnpblnkjdebedaaDoor
