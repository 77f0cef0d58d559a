/- Blocks of a store: the statements' helpers toHeldS, eqHeldS, szHeldS. -/
import Derived.Test.YtipligidnoajfaaDoorRecs
import Derived.Test.YtipligidnoajfaaDoorInts
import Derived.Deep.LoopGhost
import Derived.StillTailTactics
namespace Go.Proofs.YtipligidnoajfaaDoor
open Go.RowKit

structure HeldR where
  id : Int
  bytes : List Int
  uses : Int
  deriving DecidableEq
def HeldR.flds (o : HeldR) : List Fld := [.int o.id, .nums o.bytes, .int o.uses]
def heldFlds (os : List HeldR) : List Fld := os.flatMap HeldR.flds
/-- a slice that reads as blocks -/
def Helds (S : Nat → Prop) (w : World) (v : Value) (os : List HeldR) : Prop := Recs 3 S w v os.length (heldFlds os)
def OwnHelds (S : Nat → Prop) (w : World) (v : Value) (os : List HeldR) : Prop := OwnRecs 47 3 S w v os.length (heldFlds os)
theorem Helds.at {S : Nat → Prop} {w : World} {v : Value} {os : List HeldR} (h : Helds S w v os) {i : Nat} {o : HeldR} (ho : os[i]? = some o) :
    ∃ b off c u, v = .slice (some ⟨b, off, none⟩) os.length c ∧ b < w.heap.size ∧ w.cell? ⟨b, off + i * 3, none⟩ = some (.int .i64 o.id) ∧ w.cell? ⟨b, off + i * 3 + 1, none⟩ = some u ∧ w.cell? ⟨b, off + i * 3 + 2, none⟩ = some (.int .i64 o.uses) ∧
      I64 o.id ∧ I64 o.uses ∧ Ints S w u o.bytes := by
  obtain ⟨b, off, c, rfl, hS, hb, hc⟩ := h.head (by have := (List.getElem?_eq_some_iff.1 ho).1; omega)
  have g := fun j hj => flds_get HeldR.flds 3 (fun _ => rfl) os (j := j) ho hj
  obtain ⟨u0, c0, r0, i0⟩ := hc (i * 3 + 0) (.int o.id) (g 0 (by omega))
  obtain ⟨u1, c1, r1⟩ := hc (i * 3 + 1) (.nums o.bytes) (g 1 (by omega))
  obtain ⟨u2, c2, r2, i2⟩ := hc (i * 3 + 2) (.int o.uses) (g 2 (by omega))
  subst r0 r2
  exact ⟨b, off, c, u1, rfl, hb, c0, c1, c2, i0, i2, r1⟩

theorem szInts {S : Nat → Prop} (v : Value) (xs : List Int) (l : Int) (w : World) (h : Ints S w v xs) (hl0 : 0 ≤ l) (hl1 : l ≤ 1048576) :
    Calls Tryd.prog 15 #[v, .int .i64 l] w fun e w' => e = .returned (.int .i64 (if l < xs.length then -1 else l - xs.length)) ∧ w = w' := by
  obtain ⟨a, c, rfl, h1, ⟨h2, -⟩, -, -⟩ := h
  unfold maxLen at h2
  by_cases hlt : l < xs.length
  · rw [if_pos hlt]
    have h5 : l - (xs.length : Int) < 0 := by omega
    go_enter Tryd.func15, Tryd.ntmps15
    go_wp2
    go_ret
    exact ⟨rfl, rfl⟩
  · rw [if_neg hlt]
    have h5 : ¬ (l - (xs.length : Int) < 0) := by omega
    go_enter Tryd.func15, Tryd.ntmps15
    go_wp2
    go_ret
    exact ⟨rfl, rfl⟩

/-- how much a block holds -/
def HeldR.size (o : HeldR) : Nat := o.bytes.length
set_option maxRecDepth 4000 in
set_option maxHeartbeats 400000 in
theorem szHeld {S : Nat → Prop} (o : HeldR) (u : Value) (l : Int) (w : World) (h : Ints S w u o.bytes) (hl0 : 0 ≤ l) (hl1 : l ≤ 1048576) :
    Calls Tryd.prog 14 #[.agg #[.int .i64 o.id, u, .int .i64 o.uses], .int .i64 l] w fun e w' => e = .returned (.int .i64 (if l < o.size then -1 else l - o.size)) ∧ New w w' := by
  unfold HeldR.size
  have hn : ∀ (W : World) (o : Obj), New W (W.alloc o) := fun W o => (New.refl W).alloc o
  have Hn := Lib.hid hn
  have hsz := fun (W : World) (n : New w W) => szInts u o.bytes l W (h.new n) hl0 hl1
  have Hsz := Lib.hid hsz
  obtain ⟨a, c, rfl, h1, ⟨h2, -⟩, -, -⟩ := h
  unfold maxLen at h2
  clear hn hsz
  by_cases h7 : l < o.bytes.length
  · rw [if_pos h7]
    go_enter Tryd.func14, Tryd.ntmps14
    go_wp2_with fail
    refine (Hsz.out _ (Hn.out _ _)).mono ?_
    rw [if_pos (by omega)]
    rintro e w1 ⟨rfl, rfl⟩
    go_wp2_with fail
    go_ret
    exact ⟨rfl, Hn.out _ _⟩
  · rw [if_neg h7]
    have h9 : ¬ (l - (o.bytes.length : Int) < 0) := by omega
    go_enter Tryd.func14, Tryd.ntmps14
    go_wp2_with fail
    refine (Hsz.out _ (Hn.out _ _)).mono ?_
    rw [if_neg (by omega)]
    rintro e w1 ⟨rfl, rfl⟩
    go_wp2_with fail
    go_ret
    exact ⟨rfl, Hn.out _ _⟩

def SzPost (os : List HeldR) (w : World) (e : Ending) (w' : World) : Prop :=
  ∃ r : Int, e = .returned (.int .i64 r) ∧ (0 ≤ r → os.length ≤ 1048576 ∧ ∀ o ∈ os, o.size ≤ 1048576) ∧ New w w'

set_option maxRecDepth 4000 in
set_option maxHeartbeats 400000 in
theorem szHelds {S : Nat → Prop} (v : Value) (os : List HeldR) (w : World) (h : Helds S w v os) :
    Calls Tryd.prog 5 #[v, .int .i64 1048576] w (SzPost os w) := by
  have h0 := h
  obtain ⟨-, a, c, rfl, h1, h2, -⟩ := h
  unfold maxLen at h2
  by_cases hl : 1048576 < os.length
  · have h5 : (1048576 : Int) - (os.length : Int) < 0 := by omega
    go_enter Tryd.func5, Tryd.ntmps5
    go_wp2
    go_ret
    exact ⟨-1, rfl, fun h => by omega, New.refl _⟩
  · have h5 : ¬ ((1048576 : Int) - (os.length : Int) < 0) := by omega
    have hat := fun (W : World) (n : New w W) (k : Nat) (o : HeldR) (ho : os[k]? = some o) => Helds.at (Recs.new h0 n) ho
    have Hat := Lib.hid hat
    clear hat
    go_enter Tryd.func5, Tryd.ntmps5
    go_wp2
    go_loopg [1, 5] os.length (fun gk s1 s5 wr => ∃ (k : Nat) (r : Int), gk = os.length - k ∧ k ≤ os.length ∧ s5 = .int .i64 k ∧ s1 = .int .i64 r ∧ 0 ≤ r ∧ r ≤ 1048576 ∧ (∀ o ∈ os.take k, o.size ≤ 1048576) ∧ New w wr)
    case atStart => exact ⟨0, 1048576 - os.length, by omega, by omega, rfl, rfl, by omega, by omega, by simp, New.refl _⟩
    case round =>
      obtain ⟨k, r, hgk, hk, rfl, rfl, hr0, hr1, hall, hn⟩ := hrel
      have Hgk := Lib.hid hgk
      have Hall := Lib.hid hall
      clear hgk hall
      by_cases hlt : k < os.length
      · obtain ⟨o, ho⟩ := get_of hlt
        obtain ⟨b, off, c', u, e1, hb, c0, c1, c2, i0, i2, r2⟩ := Hat.out wr hn k o ho
        simp only [Value.slice.injEq] at e1
        obtain ⟨rfl, -, rfl⟩ := e1
        have hsz := szHeld o u r wr r2 hr0 hr1
        have Hsz := Lib.hid hsz
        have Ho := Lib.hid ho
        clear hsz ho
        go_wp2_with fail
        refine Hsz.out.mono ?_
        by_cases hb1 : r < o.size
        · rw [if_pos hb1]
          rintro e w1 ⟨rfl, n1⟩
          go_wp2_with fail
          go_ret
          exact ⟨-1, rfl, fun h => by omega, hn.trans n1⟩
        · rw [if_neg hb1]
          rintro e w1 ⟨rfl, n1⟩
          have hge : ¬ (r - (o.size : Int) < 0) := by omega
          have hos : o.size ≤ 1048576 := by omega
          go_wp2_with fail
          go_roundg (os.length - (k + 1))
          case measure => rw [Hgk.out]; omega
          case rel =>
            refine ⟨k + 1, r - o.size, rfl, by omega, by go_num, rfl, by omega, by omega, fun x hx => ?_, hn.trans n1⟩
            rw [List.take_succ_eq_append_getElem hlt, List.mem_append, List.mem_singleton] at hx
            rcases hx with hx | rfl
            · exact Hall.out x hx
            · have := (List.getElem?_eq_some_iff.1 Ho.out).2
              rw [this]; exact hos
      · go_wp2_with fail
        go_ret
        refine ⟨r, rfl, fun _ => ⟨by omega, fun o ho => ?_⟩, hn⟩
        have := Hall.out
        rw [List.take_of_length_le (by omega)] at this
        exact this o ho

set_option maxRecDepth 4000 in
set_option maxHeartbeats 400000 in
theorem eqHeld {S T : Nat → Prop} (o p : HeldR) (u t : Value) (w : World) (h : Ints S w u o.bytes) (g : Ints T w t p.bytes) :
    Calls Tryd.prog 25 #[.agg #[.int .i64 o.id, u, .int .i64 o.uses], .agg #[.int .i64 p.id, t, .int .i64 p.uses]] w fun e w' => e = .returned (.bool (decide (o = p))) ∧ New w w' := by
  obtain ⟨k, xs, l⟩ := o
  obtain ⟨k', ys, l'⟩ := p
  simp only at h g ⊢
  have hn : ∀ (W : World) (o o' : Obj), New W ((W.alloc o).alloc o') := fun W o o' => ((New.refl W).alloc o).alloc o'
  have Hn := Lib.hid hn
  have heq := fun (W : World) (n : New w W) => eqInts u t xs ys W (h.new n) (g.new n)
  have Heq := Lib.hid heq
  obtain ⟨a, c, rfl, h1, ⟨h2, -⟩, -, -⟩ := h
  obtain ⟨a', c', rfl, g1, ⟨g2, -⟩, -, -⟩ := g
  unfold maxLen at h2 g2
  clear hn heq
  by_cases hk : k = k'
  · subst hk
    by_cases hx : xs = ys
    · have hd2 : decide (xs = ys) = true := by simp [hx]
      rw [hd2] at Heq
      by_cases hl : l = l'
      · subst hl
        have hd : decide (HeldR.mk k xs l = HeldR.mk k ys l) = true := by simp [hx]
        rw [hd]
        clear hd hd2 hx
        go_enter Tryd.func25, Tryd.ntmps25
        go_wp2_with fail
        refine (Heq.out _ (Hn.out _ _ _)).mono ?_
        rintro e w1 ⟨rfl, d1⟩
        have n1 := (Hn.out w _ _).trans d1.new
        obtain ⟨m, rfl⟩ := d1
        go_wp2_with fail
        go_ret
        exact ⟨rfl, n1⟩
      · have hd : decide (HeldR.mk k xs l = HeldR.mk k ys l') = false := by simp [hl]
        have hb2 : (l != l') = true := by simp [hl]
        rw [hd]
        clear hd hd2 hx hl
        go_enter Tryd.func25, Tryd.ntmps25
        go_wp2_with fail
        refine (Heq.out _ (Hn.out _ _ _)).mono ?_
        rintro e w1 ⟨rfl, d1⟩
        have n1 := (Hn.out w _ _).trans d1.new
        obtain ⟨m, rfl⟩ := d1
        go_wp2_with fail
        go_ret
        exact ⟨rfl, n1⟩
    · have hd : decide (HeldR.mk k xs l = HeldR.mk k ys l') = false := by simp [hx]
      have hd2 : decide (xs = ys) = false := by simp [hx]
      rw [hd]
      rw [hd2] at Heq
      clear hd hd2 hx
      go_enter Tryd.func25, Tryd.ntmps25
      go_wp2_with fail
      refine (Heq.out _ (Hn.out _ _ _)).mono ?_
      rintro e w1 ⟨rfl, d1⟩
      have n1 := (Hn.out w _ _).trans d1.new
      clear d1
      go_wp2_with fail
      go_ret
      exact ⟨rfl, n1⟩
  · have hd : decide (HeldR.mk k xs l = HeldR.mk k' ys l') = false := by simp [hk]
    have hb2 : (k != k') = true := by simp [hk]
    rw [hd]
    clear hd hk
    go_enter Tryd.func25, Tryd.ntmps25
    go_wp2_with fail
    go_ret
    exact ⟨rfl, Hn.out _ _ _⟩

def eqLs (α : Type) [DecidableEq α] : List α → List α → Bool
  | x :: xs, y :: ys => if x = y then eqLs α xs ys else false
  | [], _ => true
  | _ :: _, [] => true
theorem eqLs_is {α : Type} [DecidableEq α] : ∀ (xs ys : List α), xs.length = ys.length → eqLs α xs ys = decide (xs = ys)
  | [], [], _ => by simp [eqLs]
  | x :: xs, y :: ys, h => by
    rw [eqLs, eqLs_is xs ys (by simpa using h)]
    by_cases e : x = y <;> simp [e]

set_option maxRecDepth 4000 in
set_option maxHeartbeats 400000 in
theorem eqHelds {S T : Nat → Prop} (v u : Value) (xs ys : List HeldR) (w : World) (h : Helds S w v xs) (g : Helds T w u ys) :
    Calls Tryd.prog 11 #[v, u] w fun e w' => e = .returned (.bool (decide (xs = ys))) ∧ New w w' := by
  have h0 := h
  have g0 := g
  obtain ⟨-, a, c, rfl, h1, h2, -⟩ := h
  obtain ⟨-, a', c', rfl, g1, g2, -⟩ := g
  unfold maxLen at h2 g2
  by_cases hl : xs.length = ys.length
  · have e0 := eqLs_is xs ys hl
    have E0 := Lib.hid e0
    have hne : (((xs.length : Int) != (ys.length : Int))) = false := by simp [hl]
    have Hl := Lib.hid hl
    have hat := fun (W : World) (n : New w W) (k : Nat) (o : HeldR) (ho : xs[k]? = some o) => Helds.at (Recs.new h0 n) ho
    have gat := fun (W : World) (n : New w W) (k : Nat) (o : HeldR) (ho : ys[k]? = some o) => Helds.at (Recs.new g0 n) ho
    have Hat := Lib.hid hat
    have Gat := Lib.hid gat
    clear e0 hl hat gat
    go_enter Tryd.func11, Tryd.ntmps11
    go_wp2
    go_loopg [5] xs.length (fun gk i wr => ∃ (k : Nat), gk = xs.length - k ∧ k ≤ xs.length ∧ i = .int .i64 k ∧ New w wr ∧ eqLs HeldR xs ys = eqLs HeldR (xs.drop k) (ys.drop k))
    case atStart => exact ⟨0, by omega, Nat.zero_le _, rfl, New.refl _, rfl⟩
    case round =>
      obtain ⟨k, hgk, hk, rfl, hw, he⟩ := hrel
      have Hgk := Lib.hid hgk
      have He := Lib.hid he
      clear he hgk
      by_cases hlt : k < xs.length
      · obtain ⟨x, hx⟩ := get_of hlt
        have hlt2 : k < ys.length := by rw [← Hl.out]; exact hlt
        obtain ⟨y, hy⟩ := get_of hlt2
        obtain ⟨b, off, cb, r, e1, -, c0, c2, c1, -, -, r2⟩ := Hat.out wr hw k x hx
        obtain ⟨b', off', cb', r', e2, -, d0, d2, d1, -, -, s2⟩ := Gat.out wr hw k y hy
        simp only [Value.slice.injEq] at e1 e2
        obtain ⟨rfl, -, rfl⟩ := e1
        obtain ⟨rfl, -, rfl⟩ := e2
        have Hx := Lib.hid (drop_of hx)
        have Hy := Lib.hid (drop_of hy)
        have n3 : New wr (wr.drewN 1) := (New.refl _).drewN 1
        have hcall := eqHeld x y r r' (wr.drewN 1) (r2.new n3) (s2.new n3)
        have C0 : (wr.drewN 1).cell? ⟨b, off + k * 3, none⟩ = some (.int .i64 x.id) := c0
        have C1 : (wr.drewN 1).cell? ⟨b, off + k * 3 + 2, none⟩ = some (.int .i64 x.uses) := c1
        have C2 : (wr.drewN 1).cell? ⟨b, off + k * 3 + 1, none⟩ = some r := c2
        have D0 : (wr.drewN 1).cell? ⟨b', off' + k * 3, none⟩ = some (.int .i64 y.id) := d0
        have D1 : (wr.drewN 1).cell? ⟨b', off' + k * 3 + 2, none⟩ = some (.int .i64 y.uses) := d1
        have D2 : (wr.drewN 1).cell? ⟨b', off' + k * 3 + 1, none⟩ = some r' := d2
        have Hcall := Lib.hid hcall
        clear hcall hx hy r2 s2 c0 c1 c2 d0 d1 d2
        by_cases hxy : x = y
        · have hd : decide (x = y) = true := by simp [hxy]
          rw [hd] at Hcall
          have Hxy := Lib.hid hxy
          clear hd hxy
          go_wp2
          refine wp_region_still_tail 8 (by kernel_rfl) (by kernel_rfl) ?_
          simp only [List.take_succ_cons, List.take_zero, List.drop_succ_cons, List.drop_zero]
          change wpStill _ _ (wr.drewN 1) (fun a' => wpList _ _ _ _ a' (wr.drewN 1)) _ _
          generalize hw3 : wr.drewN 1 = w3 at *
          have Hw3 := Lib.hid hw3
          clear hw3
          iterate 8 still_step
          refine wpStill_nil ?_
          go_wp2_with fail
          refine Hcall.out.mono ?_
          rintro e w4 ⟨rfl, n4⟩
          go_wp2_with fail
          go_roundg (xs.length - (k + 1))
          case measure => rw [Hgk.out]; omega
          case rel => exact ⟨k + 1, rfl, by omega, by go_num, (hw.trans n3).trans n4, by rw [He.out, Hx.out, Hy.out, eqLs, if_pos Hxy.out]⟩
        · have hd : decide (x = y) = false := by simp [hxy]
          rw [hd] at Hcall
          have Hxy := Lib.hid hxy
          clear hd hxy
          go_wp2
          refine wp_region_still_tail 8 (by kernel_rfl) (by kernel_rfl) ?_
          simp only [List.take_succ_cons, List.take_zero, List.drop_succ_cons, List.drop_zero]
          change wpStill _ _ (wr.drewN 1) (fun a' => wpList _ _ _ _ a' (wr.drewN 1)) _ _
          generalize hw3 : wr.drewN 1 = w3 at *
          have Hw3 := Lib.hid hw3
          clear hw3
          iterate 8 still_step
          refine wpStill_nil ?_
          go_wp2_with fail
          refine Hcall.out.mono ?_
          rintro e w4 ⟨rfl, n4⟩
          go_wp2_with fail
          go_ret
          exact ⟨ret_bool (by rw [← E0.out, He.out, Hx.out, Hy.out, eqLs, if_neg Hxy.out]), (hw.trans n3).trans n4⟩
      · go_wp2
        go_ret
        exact ⟨ret_bool (by rw [← E0.out, He.out, drop_end hlt]; simp [eqLs]), hw⟩
  · have hne : (((xs.length : Int) != (ys.length : Int))) = true := by simp; omega
    have Hl := Lib.hid hl
    clear hl
    go_enter Tryd.func11, Tryd.ntmps11
    go_wp2
    go_ret
    exact ⟨ret_bool (by simp; intro e; exact Hl.out (by rw [e])), New.refl _⟩

def ToHeldPost (o : HeldR) (w : World) (e : Ending) (w' : World) : Prop :=
  ∃ u, e = .returned (.agg #[.int .i64 o.id, u, .int .i64 o.uses]) ∧ OwnInts 3 (fun j => w.heap.size ≤ j) w' u o.bytes ∧ New w w'

set_option maxRecDepth 4000 in
set_option maxHeartbeats 400000 in
theorem toHeld {S : Nat → Prop} (o : HeldR) (u : Value) (w : World) (h : Ints S w u o.bytes) (hl : o.bytes.length ≤ 1048576) :
    Calls Tryd.prog 20 #[.agg #[.int .i64 o.id, u, .int .i64 o.uses]] w (ToHeldPost o w) := by
  have hto := fun (W : World) (n : New w W) => toInts u o.bytes W (h.new n) (by omega)
  have Hto := Lib.hid hto
  obtain ⟨a, c, rfl, h1, ⟨h2, -⟩, -, -⟩ := h
  unfold maxLen at h2
  clear hto
  go_enter Tryd.func20, Tryd.ntmps20
  go_wp2_with fail
  refine (Hto.out _ ?_).mono ?_
  · exact (((New.refl w).alloc _).alloc _).alloc _
  rintro e w1 ⟨u', rfl, n1, o1⟩
  have hb0 : w1.heap[w.heap.size]? = some (.cells #[.int .i64 o.id, .slice a o.bytes.length c, .int .i64 o.uses] 42) := by
    refine n1.heap ?_
    have := heap_alloc_new w (.cells #[.int .i64 o.id, .slice a o.bytes.length c, .int .i64 o.uses] 42)
    have h2 := ((New.refl (w.alloc (.cells #[.int .i64 o.id, .slice a o.bytes.length c, .int .i64 o.uses] 42))).alloc (.cells #[.int .i64 0, .slice none 0 0, .int .i64 0] 47)).alloc (.cells #[.int .i64 o.id, .slice none 0 0, .int .i64 0] 47)
    exact h2.heap this
  have hb1 : w1.heap[w.heap.size + 1]? = some (.cells #[.int .i64 0, .slice none 0 0, .int .i64 0] 47) := by
    refine n1.heap ?_
    have := heap_alloc_new (w.alloc (.cells #[.int .i64 o.id, .slice a o.bytes.length c, .int .i64 o.uses] 42)) (.cells #[.int .i64 0, .slice none 0 0, .int .i64 0] 47)
    have h2 := (New.refl ((w.alloc (.cells #[.int .i64 o.id, .slice a o.bytes.length c, .int .i64 o.uses] 42)).alloc (.cells #[.int .i64 0, .slice none 0 0, .int .i64 0] 47))).alloc (.cells #[.int .i64 o.id, .slice none 0 0, .int .i64 0] 47)
    have h3 := h2.heap this
    simpa using h3
  have hb2 : w1.heap[w.heap.size + 1 + 1]? = some (.cells #[.int .i64 o.id, .slice none 0 0, .int .i64 0] 47) := by
    refine n1.heap ?_
    have := heap_alloc_new ((w.alloc (.cells #[.int .i64 o.id, .slice a o.bytes.length c, .int .i64 o.uses] 42)).alloc (.cells #[.int .i64 0, .slice none 0 0, .int .i64 0] 47)) (.cells #[.int .i64 o.id, .slice none 0 0, .int .i64 0] 47)
    simpa using this
  have c02 : w1.cell? ⟨w.heap.size, 2, none⟩ = some (.int .i64 o.uses) := by simp [World.cell?, hb0]
  have c20 : w1.cell? ⟨w.heap.size + 1 + 1, 0, none⟩ = some (.int .i64 o.id) := by simp [World.cell?, hb2]
  have c21 : w1.cell? ⟨w.heap.size + 1 + 1, 1, none⟩ = some (.slice none 0 0) := by simp [World.cell?, hb2]
  have c22 : w1.cell? ⟨w.heap.size + 1 + 1, 2, none⟩ = some (.int .i64 0) := by simp [World.cell?, hb2]
  have f21 : w1.frozen? ⟨w.heap.size + 1 + 1, 1, none⟩ = false := by simp [World.frozen?, hb2]
  have f22 : w1.frozen? ⟨w.heap.size + 1 + 1, 2, none⟩ = false := by simp [World.frozen?, hb2]
  have c10 : w1.cell? ⟨w.heap.size + 1, 0, none⟩ = some (.int .i64 0) := by simp [World.cell?, hb1]
  have c11 : w1.cell? ⟨w.heap.size + 1, 1, none⟩ = some (.slice none 0 0) := by simp [World.cell?, hb1]
  have c12 : w1.cell? ⟨w.heap.size + 1, 2, none⟩ = some (.int .i64 0) := by simp [World.cell?, hb1]
  have f10 : w1.frozen? ⟨w.heap.size + 1, 0, none⟩ = false := by simp [World.frozen?, hb1]
  have f11 : w1.frozen? ⟨w.heap.size + 1, 1, none⟩ = false := by simp [World.frozen?, hb1]
  have f12 : w1.frozen? ⟨w.heap.size + 1, 2, none⟩ = false := by simp [World.frozen?, hb1]
  have hs1 := n1.size
  simp only [World.size_alloc] at hs1
  have hn1 : New w w1 := ((((New.refl w).alloc _).alloc _).alloc _).trans n1
  obtain ⟨a', ca', rfl, -, -⟩ := o1.shape
  clear hb0 hb1 hb2 n1
  go_wp2_with fail
  have cs : Chg (fun k => k = w.heap.size + 1 ∨ k = w.heap.size + 1 + 1) w1 (((((w1.setCell ⟨w.heap.size + 1 + 1, 1, none⟩ (.slice a' o.bytes.length ca')).setCell ⟨w.heap.size + 1 + 1, 2, none⟩ (.int .i64 o.uses)).setCell ⟨w.heap.size + 1, 0, none⟩ (.int .i64 o.id)).setCell ⟨w.heap.size + 1, 1, none⟩ (.slice a' o.bytes.length ca')).setCell ⟨w.heap.size + 1, 2, none⟩ (.int .i64 o.uses)) :=
    (((((Chg.refl _ _).setCell _ (fun _ => .inr rfl)).setCell _ (fun _ => .inr rfl)).setCell _ (fun _ => .inl rfl)).setCell _ (fun _ => .inl rfl)).setCell _ (fun _ => .inl rfl)
  refine bodyPost_ret (v := .agg #[.int .i64 o.id, .slice a' o.bytes.length ca', .int .i64 o.uses]) (by simp [results, Tryd.results20, go_sem, c10, c11, c12]) rfl ⟨_, rfl, ?_, hn1.trans_chg cs (fun j hj hh => by omega)⟩
  refine (o1.chg cs (fun j _ hj hh => ?_)).mono (fun j _ hj => ?_)
  · simp at hj; omega
  · simp at hj; omega


theorem slHeld : SliceOf Tryd.prog 29 47 (.agg #[.int .i64 0, .slice none 0 0, .int .i64 0]) 3 40 := by refine ⟨by kernel_rfl, by kernel_rfl, rfl, by decide⟩

def ToHeldsPost (os : List HeldR) (w : World) (e : Ending) (w' : World) : Prop :=
  ∃ v, e = .returned v ∧ OwnHelds (fun j => w.heap.size ≤ j) w' v os ∧ New w w'

set_option maxRecDepth 4000 in
set_option maxHeartbeats 400000 in
theorem toHelds {S : Nat → Prop} (v : Value) (os : List HeldR) (w : World) (h : Helds S w v os) (hl : os.length ≤ 1048576) (hall : ∀ o ∈ os, o.size ≤ 1048576) :
    Calls Tryd.prog 8 #[v] w (ToHeldsPost os w) := by
  have h0 := h
  obtain ⟨-, a, c, rfl, h1, h2, -⟩ := h
  unfold maxLen at h2
  have hat := fun (W : World) (n : New w W) (k : Nat) (o : HeldR) (ho : os[k]? = some o) => Helds.at (Recs.new h0 n) ho
  have Hat := Lib.hid hat
  have Hall := Lib.hid hall
  clear hat hall
  go_enter Tryd.func8, Tryd.ntmps8
  go_wp2_with (at_make; refine wpRow_make slHeld _ _ rfl rfl .i64 .i64 os.length rfl rfl (by omega) (by unfold maxLen; omega) ?_; intro w1 hrow hn1 hlt1)
  go_loopg [4] os.length (fun gk i wr => ∃ (k : Nat) (us : List Value), gk = os.length - k ∧ k ≤ os.length ∧ i = .int .i64 k ∧ us.length = os.length * 3 ∧ New w wr ∧ Row 47 3 (fun j => j = w.heap.size) wr (.slice (some ⟨w.heap.size, 0, none⟩) os.length os.length) os.length us ∧
    Fields (fun j => w.heap.size < j) wr (us.take (k * 3)) (heldFlds (os.take k)))
  case atStart => exact ⟨0, _, by omega, by omega, rfl, by simpa using hrow.1.1, hn1, hrow, by simp [heldFlds, Fields]⟩
  case round =>
    obtain ⟨k, us, hgk, hk, rfl, hul, hn, hr, hf⟩ := hrel
    have Hgk := Lib.hid hgk
    have Hul := Lib.hid hul
    clear hgk hul
    by_cases hlt : k < os.length
    · obtain ⟨o, ho⟩ := get_of hlt
      obtain ⟨b, off, c', u, e1, hb, c0, c1, c2, i0, i2, r2⟩ := Hat.out wr hn k o ho
      simp only [Value.slice.injEq] at e1
      obtain ⟨rfl, -, rfl⟩ := e1
      have hos := Hall.out o (List.mem_of_getElem? ho)
      have htake : os.take (k + 1) = os.take k ++ [o] := by
        obtain ⟨hk', e⟩ := List.getElem?_eq_some_iff.1 ho
        rw [List.take_succ_eq_append_getElem hk', e]
      have Htake := Lib.hid htake
      have hcall := toHeld o u wr r2 (by unfold HeldR.size at hos; exact hos)
      have Hcall := Lib.hid hcall
      have hix : ∀ j, j < 3 → k * 3 + j < us.length := fun j hj => by rw [Hul.out]; omega
      have Hix := Lib.hid hix
      clear hcall ho r2 htake hix
      go_wp2_with fail
      refine Hcall.out.mono ?_
      rintro e w2 ⟨u', rfl, o1, n2⟩
      obtain ⟨a', ca', rfl, -, -⟩ := o1.shape
      have hr2 := hr.new n2
      obtain ⟨x0, hx0⟩ := get_of (Hix.out 0 (by omega))
      obtain ⟨x1, hx1⟩ := get_of (Hix.out 1 (by omega))
      obtain ⟨x2, hx2⟩ := get_of (Hix.out 2 (by omega))
      have g0 := hr2.cellAt hx0
      have g1 := hr2.cellAt hx1
      have g2 := hr2.cellAt hx2
      have f0 := hr2.frozenAt (k * 3)
      have f1 := hr2.frozenAt (k * 3 + 1)
      have f2 := hr2.frozenAt (k * 3 + 2)
      rw [Nat.add_zero] at g0
      have hf2' := (hf.old).new n2
      have hnn := hn.trans n2
      have hsz := hn.size
      have hsz2 := n2.size
      have hposr : w.heap.size < wr.heap.size := hr.lt w.heap.size rfl
      clear hx0 hx1 hx2 hr hf
      go_wp2_with fail
      have hr3 := ((hr2.set (k * 3) (.int .i64 o.id)).set (k * 3 + 1) (.slice a' o.bytes.length ca')).set (k * 3 + 2) (.int .i64 o.uses)
      have cs := chg_set3 w2 w.heap.size (k * 3) (k * 3 + 1) (k * 3 + 2) (.int .i64 o.id) (.slice a' o.bytes.length ca') (.int .i64 o.uses)
      go_roundg (os.length - (k + 1))
      case measure => rw [Hgk.out]; omega
      case rel =>
        refine ⟨k + 1, _, rfl, by omega, by go_num, by simp [Hul.out], hnn.trans_chg cs (fun j hj hh => by omega), hr3, ?_⟩
        have e3 : (k + 1) * 3 = k * 3 + 3 := by omega
        have hpos : w.heap.size < wr.heap.size := by
          exact hposr
        rw [e3, take_set3 (Hix.out 2 (by omega)), Htake.out]
        unfold heldFlds
        rw [List.flatMap_append]
        have f1 : Fields (fun j => wr.heap.size ≤ j) w2 [.int .i64 o.id, .slice a' o.bytes.length ca', .int .i64 o.uses] o.flds := by
          refine ⟨⟨rfl, i0⟩, (OwnI.of o1).mono (fun j _ hj => ⟨hj, by simp [blk]⟩), ⟨rfl, i2⟩, trivial⟩
        have f2 := Fields.append f1 hf2' (fun j hj hT => by omega)
        refine (f2.chg cs (fun j _ hj hh => by rcases hj with hj | hj <;> omega)).mono (fun j _ hj => by rcases hj with hj | hj <;> omega)
    · go_wp2_with fail
      go_ret
      have hf' := hf
      rw [List.take_of_length_le (by rw [Hul.out]; omega), List.take_of_length_le (by omega)] at hf'
      exact ⟨_, rfl, ⟨us, hr.mono (fun j _ hj => by omega), hf'.mono (fun j _ hj => ⟨by omega, by simp [Value.ownBlock]; omega⟩)⟩, hn⟩

end Go.Proofs.YtipligidnoajfaaDoor
