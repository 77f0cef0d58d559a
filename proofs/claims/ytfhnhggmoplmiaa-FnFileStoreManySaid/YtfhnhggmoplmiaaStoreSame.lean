/- The statements' helpers sameHeld, sameStore, usesOf. -/
import Derived.Test.YtfhnhggmoplmiaaStoreLaw
namespace Go.Proofs.Ytfhnhggmoplmiaa
open Go.RowKit

set_option maxRecDepth 4000 in
set_option maxHeartbeats 400000 in
theorem sameHeld {S T : Nat → Prop} (o p : HeldR) (u t : Value) (w : World) (h : Ints S w u o.bytes) (g : Ints T w t p.bytes) :
    Calls Try.prog 58 #[.agg #[.int .i64 o.id, u, .int .i64 o.uses], .agg #[.int .i64 p.id, t, .int .i64 p.uses]] w fun e w' => e = .returned (.bool (decide (o = p))) ∧ New w w' := by
  obtain ⟨k, xs, l⟩ := o
  obtain ⟨k', ys, l'⟩ := p
  simp only at h g ⊢
  have hn : ∀ (W : World) (o o' : Obj), New W ((W.alloc o).alloc o') := fun W o o' => ((New.refl W).alloc o).alloc o'
  have Hn := Lib.hid hn
  have heq := fun (W : World) (n : New w W) => sameInts u t xs ys W (h.new n) (g.new n)
  have Heq := Lib.hid heq
  obtain ⟨a, c, rfl, h1, ⟨h2, -⟩, -, -⟩ := h
  obtain ⟨a', c', rfl, g1, ⟨g2, -⟩, -, -⟩ := g
  unfold maxLen at h2 g2
  clear hn heq
  by_cases hk : k = k'
  · subst hk
    by_cases hl : l = l'
    · subst hl
      have hd : decide (HeldR.mk k xs l = HeldR.mk k ys l) = decide (xs = ys) := by by_cases e : xs = ys <;> simp [e]
      rw [hd]
      generalize decide (xs = ys) = r at Heq ⊢
      go_enter Try.func58, Try.ntmps58
      go_wp2_with fail
      refine (Heq.out _ (Hn.out _ _ _)).mono ?_
      rintro e w1 ⟨rfl, d1⟩
      have n1 := (Hn.out w _ _).trans d1.new
      clear d1
      go_wp2_with fail
      go_ret
      exact ⟨rfl, n1⟩
    · have hd : decide (HeldR.mk k xs l = HeldR.mk k ys l') = false := by simp [hl]
      have hb2 : (l == l') = false := by simp [hl]
      rw [hd]
      clear hd hl
      go_enter Try.func58, Try.ntmps58
      go_wp2_with fail
      go_ret
      exact ⟨rfl, Hn.out _ _ _⟩
  · have hd : decide (HeldR.mk k xs l = HeldR.mk k' ys l') = false := by simp [hk]
    have hb2 : (k == k') = false := by simp [hk]
    rw [hd]
    clear hd hk
    go_enter Try.func58, Try.ntmps58
    go_wp2_with fail
    go_ret
    exact ⟨rfl, Hn.out _ _ _⟩

set_option maxRecDepth 4000 in
set_option maxHeartbeats 400000 in
theorem sameStore {S T : Nat → Prop} (v u : Value) (xs ys : List HeldR) (w : World) (h : Helds S w v xs) (g : Helds T w u ys) :
    Calls Try.prog 31 #[v, u] w fun e w' => e = .returned (.bool (decide (xs = ys))) ∧ New w w' := by
  have h0 := h
  have g0 := g
  obtain ⟨-, a, c, rfl, h1, h2, -⟩ := h
  obtain ⟨-, a', c', rfl, g1, g2, -⟩ := g
  unfold maxLen at h2 g2
  by_cases hl : xs.length = ys.length
  · have e0 := eqLs_is xs ys hl
    have E0 := Lib.hid e0
    have hne : (((xs.length : Int) != (ys.length : Int))) = false := by simp [hl]
    have Hl := Lib.hid hl
    have hat := fun (W : World) (n : New w W) (k : Nat) (o : HeldR) (ho : xs[k]? = some o) => Helds.at (Recs.new h0 n) ho
    have gat := fun (W : World) (n : New w W) (k : Nat) (o : HeldR) (ho : ys[k]? = some o) => Helds.at (Recs.new g0 n) ho
    have Hat := Lib.hid hat
    have Gat := Lib.hid gat
    clear e0 hl hat gat
    go_enter Try.func31, Try.ntmps31
    go_wp2
    go_loopg [5] xs.length (fun gk i wr => ∃ (k : Nat), gk = xs.length - k ∧ k ≤ xs.length ∧ i = .int .i64 k ∧ New w wr ∧ eqLs HeldR xs ys = eqLs HeldR (xs.drop k) (ys.drop k))
    case atStart => exact ⟨0, by omega, Nat.zero_le _, rfl, New.refl _, rfl⟩
    case round =>
      obtain ⟨k, hgk, hk, rfl, hw, he⟩ := hrel
      have Hgk := Lib.hid hgk
      have He := Lib.hid he
      clear he hgk
      by_cases hlt : k < xs.length
      · obtain ⟨x, hx⟩ := get_of hlt
        have hlt2 : k < ys.length := by rw [← Hl.out]; exact hlt
        obtain ⟨y, hy⟩ := get_of hlt2
        obtain ⟨b, off, cb, r, e1, -, c0, c2, c1, -, -, r2⟩ := Hat.out wr hw k x hx
        obtain ⟨b', off', cb', r', e2, -, d0, d2, d1, -, -, s2⟩ := Gat.out wr hw k y hy
        simp only [Value.slice.injEq] at e1 e2
        obtain ⟨rfl, -, rfl⟩ := e1
        obtain ⟨rfl, -, rfl⟩ := e2
        have Hx := Lib.hid (drop_of hx)
        have Hy := Lib.hid (drop_of hy)
        have n3 : New wr (wr.drewN 1) := (New.refl _).drewN 1
        have hcall := sameHeld x y r r' (wr.drewN 1) (r2.new n3) (s2.new n3)
        have C0 : (wr.drewN 1).cell? ⟨b, off + k * 3, none⟩ = some (.int .i64 x.id) := c0
        have C1 : (wr.drewN 1).cell? ⟨b, off + k * 3 + 2, none⟩ = some (.int .i64 x.uses) := c1
        have C2 : (wr.drewN 1).cell? ⟨b, off + k * 3 + 1, none⟩ = some r := c2
        have D0 : (wr.drewN 1).cell? ⟨b', off' + k * 3, none⟩ = some (.int .i64 y.id) := d0
        have D1 : (wr.drewN 1).cell? ⟨b', off' + k * 3 + 2, none⟩ = some (.int .i64 y.uses) := d1
        have D2 : (wr.drewN 1).cell? ⟨b', off' + k * 3 + 1, none⟩ = some r' := d2
        have Hcall := Lib.hid hcall
        clear hcall hx hy r2 s2 c0 c1 c2 d0 d1 d2
        by_cases hxy : x = y
        · have hd : decide (x = y) = true := by simp [hxy]
          rw [hd] at Hcall
          have Hxy := Lib.hid hxy
          clear hd hxy
          go_wp2
          refine wp_region_still_tail 8 (by kernel_rfl) (by kernel_rfl) ?_
          simp only [List.take_succ_cons, List.take_zero, List.drop_succ_cons, List.drop_zero]
          change wpStill _ _ (wr.drewN 1) (fun a' => wpList _ _ _ _ a' (wr.drewN 1)) _ _
          generalize hw3 : wr.drewN 1 = w3 at *
          have Hw3 := Lib.hid hw3
          clear hw3
          iterate 8 still_step
          refine wpStill_nil ?_
          go_wp2_with fail
          refine Hcall.out.mono ?_
          rintro e w4 ⟨rfl, n4⟩
          go_wp2_with fail
          go_roundg (xs.length - (k + 1))
          case measure => rw [Hgk.out]; omega
          case rel => exact ⟨k + 1, rfl, by omega, by go_num, (hw.trans n3).trans n4, by rw [He.out, Hx.out, Hy.out, eqLs, if_pos Hxy.out]⟩
        · have hd : decide (x = y) = false := by simp [hxy]
          rw [hd] at Hcall
          have Hxy := Lib.hid hxy
          clear hd hxy
          go_wp2
          refine wp_region_still_tail 8 (by kernel_rfl) (by kernel_rfl) ?_
          simp only [List.take_succ_cons, List.take_zero, List.drop_succ_cons, List.drop_zero]
          change wpStill _ _ (wr.drewN 1) (fun a' => wpList _ _ _ _ a' (wr.drewN 1)) _ _
          generalize hw3 : wr.drewN 1 = w3 at *
          have Hw3 := Lib.hid hw3
          clear hw3
          iterate 8 still_step
          refine wpStill_nil ?_
          go_wp2_with fail
          refine Hcall.out.mono ?_
          rintro e w4 ⟨rfl, n4⟩
          go_wp2_with fail
          go_ret
          exact ⟨ret_bool (by rw [← E0.out, He.out, Hx.out, Hy.out, eqLs, if_neg Hxy.out]), (hw.trans n3).trans n4⟩
      · go_wp2
        go_ret
        exact ⟨ret_bool (by rw [← E0.out, He.out, drop_end hlt]; simp [eqLs]), hw⟩
  · have hne : (((xs.length : Int) != (ys.length : Int))) = true := by simp; omega
    have Hl := Lib.hid hl
    clear hl
    go_enter Try.func31, Try.ntmps31
    go_wp2
    go_ret
    exact ⟨ret_bool (by simp; intro e; exact Hl.out (by rw [e])), New.refl _⟩

set_option maxRecDepth 4000 in
set_option maxHeartbeats 1000000 in
theorem usesOf {S : Nat → Prop} (v : Value) (os : List HeldR) (k : Int) (w : World) (h : Helds S w v os) :
    Calls Try.prog 34 #[v, .int .i64 k] w fun e w' => e = .returned (.int .i64 (usesH k os)) ∧ w = w' := by
  have h0 := h
  obtain ⟨-, a, c, rfl, h1, h2, -⟩ := h
  unfold maxLen at h2
  have hat := fun (j : Nat) (o : HeldR) (ho : os[j]? = some o) => Helds.at h0 ho
  have Hat := Lib.hid hat
  clear hat
  go_enter Try.func34, Try.ntmps34
  go_wp2
  go_loopg [5] os.length (fun gk i wr => ∃ (j : Nat), gk = os.length - j ∧ j ≤ os.length ∧ i = .int .i64 j ∧ w = wr ∧ ∀ q, q < j → ∀ x, os[q]? = some x → x.id ≠ k)
  case atStart => exact ⟨0, by omega, Nat.zero_le _, rfl, rfl, fun q hq => by omega⟩
  case round =>
    obtain ⟨j, hgk, hj, rfl, rfl, hf⟩ := hrel
    have Hgk := Lib.hid hgk
    have Hf := Lib.hid hf
    clear hgk hf
    by_cases hlt : j < os.length
    · obtain ⟨o, ho⟩ := get_of hlt
      obtain ⟨b, off, c', u, e1, hb, c0, c1, c2, i0, i2, r2⟩ := Hat.out j o ho
      simp only [Value.slice.injEq] at e1
      obtain ⟨rfl, -, rfl⟩ := e1
      have Ho := Lib.hid ho
      clear ho
      by_cases hk : o.id = k
      · have ha := atH_first Ho.out hk Hf.out
        have Ha := Lib.hid ha
        subst hk
        clear ha
        go_wp2_with fail
        go_ret
        exact ⟨ret_int (by rw [usesH, Ha.out]; simp [Ho.out]), rfl⟩
      · have hb2 : (o.id == k) = false := by simpa using hk
        have Hk := Lib.hid hk
        clear hk
        go_wp2_with fail
        go_roundg (os.length - (j + 1))
        case measure => rw [Hgk.out]; omega
        case rel =>
          refine ⟨j + 1, rfl, by omega, by go_num, rfl, fun q hq x hx => ?_⟩
          rcases Nat.lt_or_ge q j with h | h
          · exact Hf.out q h x hx
          · obtain rfl : q = j := by omega
            rw [Ho.out] at hx
            obtain rfl := Option.some.inj hx
            exact Hk.out
    · have ha : atH k os = none := atH_none fun o ho => by
        obtain ⟨q, hq, rfl⟩ := List.mem_iff_getElem.1 ho
        exact Hf.out q (by omega) _ (List.getElem?_eq_getElem hq)
      have Ha := Lib.hid ha
      clear ha
      go_wp2_with fail
      go_ret
      exact ⟨ret_int (by rw [usesH, Ha.out]), rfl⟩

end Go.Proofs.Ytfhnhggmoplmiaa
