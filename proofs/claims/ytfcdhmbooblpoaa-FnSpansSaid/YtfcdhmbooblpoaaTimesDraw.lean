/- Walks of l92Times and of the four draws of times: what they hand back is a row of numbers of their own. -/
import Derived.Test.YtfcdhmbooblpoaaDraw
namespace Go.Proofs.Ytfcdhmbooblpoaa
open Go.RowKit

/-- A drawn list: at most 21 numbers, each from 0 to 9999. -/
def Small (xs : List Int) : Prop := xs.length ≤ 21 ∧ ∀ x ∈ xs, 0 ≤ x ∧ x ≤ 9999
theorem Small.fits {xs : List Int} (h : Small xs) : ∀ x ∈ xs, I64 x := fun x hx => I64.mk (by have := h.2 x hx; omega) (by have := h.2 x hx; omega)

/-- What the reader's call leaves, and what is kept across it. -/
theorem OwnNums.pick {k : IntKind} {e : TypeId} {S : Nat → Prop} {w w' : World} {v : Value} {xs : List Int} {g : Nat} (h : OwnNums k e S w v xs) (c : Chg (fun j => j = g) w w') (hg : ∀ j, S j → j ≠ g) : OwnNums k e S w' v xs :=
  h.chg c fun j _ hs e => hg j hs e

def TimesPost (g m : Nat) (w : World) (e : Ending) (w' : World) : Prop :=
  ∃ v xs, e = .returned v ∧ Small xs ∧ OwnInts 3 (fun k => w.heap.size ≤ k) w' v xs ∧ Rd g w' (m + 100) ∧ Chg (fun k => k = g) w w'

set_option maxHeartbeats 1000000 in
theorem l92Times (g m : Nat) (w : World) (h : Rd g w m) (hm : m ≤ 900000) :
    Calls Try.prog 34 #[.pointer (some ⟨g, 0, none⟩)] w fun e w' =>
      TimesPost g m w e w' := by
  have hg := h.lt
  have c0 : New w (w.alloc (.cells #[] 3)) := (New.refl w).alloc _
  have o0 : OwnInts 3 (fun k => k = w.heap.size) (w.alloc (.cells #[] 3)) (.slice (some ⟨w.heap.size, 0, none⟩) 0 0) [] := OwnNums.empty _ _ _
  go_enter Try.func34, Try.ntmps34
  go_wp2_with fail
  refine (pick g m 30 _ (h.new c0) (by omega) (by omega) (by omega)).mono ?_
  rintro e w1 ⟨at0, rfl, ha0, ha1, h1, c1⟩
  go_wp2_with fail
  refine (pick g (m + 1) 9 _ h1 (by omega) (by omega) (by omega)).mono ?_
  rintro e w2 ⟨n0, rfl, hn0, hn1, h2, c2⟩
  go_wp2_with fail
  refine (pick g (m + 2) 16 _ h2 (by omega) (by omega) (by omega)).mono ?_
  rintro e w3 ⟨q0, rfl, hq0, hq1, h3, c3⟩
  have c03 : Chg (fun k => k = g) w w3 := (((c0.chg _).trans c1).trans c2).trans c3
  have o3 := ((o0.pick c1 (by intro j hj; omega)).pick c2 (by intro j hj; omega)).pick c3 (by intro j hj; omega)
  clear c0 c1 c2 c3 o0 h1 h2
  go_upto_if 14 with fail
  go_cut [5] (fun s5 wx => ∃ n : Nat, s5 = .int .i64 n ∧ n ≤ 21 ∧ Chg (fun k => k = g) w wx ∧ Rd g wx (m + 4) ∧ OwnInts 3 (fun k => k = w.heap.size) wx (.slice (some ⟨w.heap.size, 0, none⟩) 0 0) [])
  case first =>
    by_cases hq : q0 = 0
    · subst hq
      go_wp2_with fail
      refine (pick g (m + 3) 2 _ h3 (by omega) (by omega) (by omega)).mono ?_
      rintro e w4 ⟨q1, rfl, hq10, hq11, h4, c4⟩
      go_wp2
      go_meet
      case rel => exact ⟨(20 + q1).toNat, by rw [Int.toNat_of_nonneg (by omega)], by omega, c03.trans c4, h4, o3.pick c4 (by intro j hj; omega)⟩
    · have hq' : (q0 == 0) = false := by simp [hq]
      go_wp2
      go_meet
      case rel => exact ⟨n0.toNat, by rw [Int.toNat_of_nonneg (by omega)], by omega, c03, h3.mono (by omega), o3⟩
  case rest =>
    clear c03 o3 h3
    obtain ⟨n, rfl, hn, c4, h4, o4⟩ := hcut
    go_wp2_with fail
    go_loopw [3, 4, 6] (fun v at' i wr => ∃ (k : Nat) (q : Int) (xs : List Int), k ≤ n ∧ i = .int .i64 k ∧ at' = .int .i64 q ∧ 0 ≤ q ∧ q ≤ 31 * (k + 1) ∧ xs.length = k ∧ (∀ x ∈ xs, 0 ≤ x ∧ x ≤ 9999) ∧ OwnInts 3 (fun k => w.heap.size ≤ k) wr v xs ∧ Rd g wr (m + 4 + k) ∧ Chg (fun k => k = g) w wr) (fun _ _ i _ => n - (intOf i).toNat)
    case atStart => exact ⟨0, at0, [], Nat.zero_le _, rfl, rfl, ha0, by omega, rfl, by simp, o4.mono (by intro k _ hk; omega), h4, c4⟩
    case round =>
      obtain ⟨k, q, xs, hk, rfl, rfl, hq0, hq1, hl, hxs, ho, hr, hc⟩ := hrel
      rename World => wr
      have Hl := Lib.hid hl
      clear hl
      by_cases hlt : k < n
      · go_wp2_with (at_builtin; refine wpNums_append slInt _ _ rfl rfl _ xs q _ rfl ho (I64.mk (by omega) (by omega)) rfl (by rw [Hl.out]; omega) (by decide) ?_; intro v' w1 ho' hc')
        have hsz : w.heap.size ≤ wr.heap.size := hc.size
        have hbl : ∀ j, u3.ownBlock = some j → w.heap.size ≤ j ∧ j < wr.heap.size := fun j hj => ⟨(ho.lt j hj).2, (ho.lt j hj).1⟩
        have hr1 : Rd g w1 (m + 4 + k) := hr.chg hc' (fun j hj => by have := (hbl j hj).1; omega)
        have hcw : Chg (fun k => k = g) w w1 := hc.step hc' (fun j hj hjj => by have := (hbl j hjj).1; omega)
        have ho1 : OwnInts 3 (fun k => w.heap.size ≤ k) w1 v' (xs ++ [q]) := ho'.mono fun j _ hj => by
          rcases hj with hj | hj
          · exact (hbl j hj).1
          · omega
        clear ho ho' hc hc' hr hbl
        go_wp2_with fail
        refine (pick g (m + 4 + k) 30 _ hr1 (by omega) (by omega) (by omega)).mono ?_
        rintro e w2 ⟨r, rfl, hr0, hr1', h5, c5⟩
        go_wp2
        go_roundw
        case rel =>
          refine ⟨k + 1, q + 1 + r, xs ++ [q], by omega, by go_num, rfl, by omega, by omega, by simp [Hl.out], ?_, ho1.pick c5 (by intro j hj; omega), h5.mono (by omega), hcw.trans c5⟩
          intro x hx
          simp only [List.mem_append, List.mem_singleton] at hx
          rcases hx with hx | rfl
          · exact hxs x hx
          · omega
        case measure => simp [intOf]; omega
      · have ek : k = n := by omega
        have hsm : Small xs := ⟨by rw [Hl.out]; omega, hxs⟩
        by_cases h1n : 1 < n
        · go_wp2_with fail
          refine (pick g (m + 4 + k) 24 _ hr (by omega) (by omega) (by omega)).mono ?_
          rintro e w5 ⟨r, rfl, hr0, hr1, h5, c5⟩
          have ho5 := ho.pick c5 (by intro j hj; omega)
          have hc5 := hc.trans c5
          have h5' := h5.mono (show m + 4 + k + 1 ≤ m + 100 by omega)
          clear ho hc h5 c5 hr
          by_cases hr : r = 0
          · subst hr
            obtain ⟨gb, cap, ev, hSg, hgl, _, _⟩ := ho5.1.head (by rw [Hl.out]; omega)
            subst ev
            obtain ⟨x0, hx0⟩ := get_of (show 0 < xs.length by rw [Hl.out]; omega)
            obtain ⟨x1, hx1⟩ := get_of (show 1 < xs.length by rw [Hl.out]; omega)
            have hc0 := ho5.1.cellAt (i := 0) (u := .int .i64 x0) (by simp [hx0])
            have hc1 := ho5.1.cellAt (i := 1) (u := .int .i64 x1) (by simp [hx1])
            have hf1 := ho5.1.frozenAt 1
            have Hx0 := Lib.hid hx0
            clear hx0 hx1
            have hl1 : 1 < xs.length := by rw [Hl.out]; omega
            go_wp2
            go_ret
            have hsm' : Small (xs.set 1 x0) := by
              refine ⟨by simp [hsm.1], fun x hx => ?_⟩
              rcases List.mem_or_eq_of_mem_set hx with hx | rfl
              · exact hsm.2 x hx
              · exact hsm.2 _ (List.mem_of_getElem? Hx0.out)
            refine ⟨_, xs.set 1 x0, rfl, hsm', ⟨?_, hsm'.fits⟩, ?_, hc5.setCell _ ?_⟩
            · rw [List.length_set, List.map_set]
              exact ho5.1.set 1 _
            · exact h5'.chg ((Chg.refl (fun j => j = gb) _).setCell (a := ⟨gb, 1, none⟩) _ (fun _ => rfl)) (fun j hj => by omega)
            · intro hb
              exact absurd hb (by simp; exact hSg)
          · have hr' : (r == 0) = false := by simp [hr]
            go_wp2
            go_ret
            exact ⟨_, xs, rfl, hsm, ho5, h5', hc5⟩
        · go_wp2
          go_ret
          exact ⟨_, xs, rfl, hsm, ho, hr.mono (by omega), hc⟩


def DrawnTimes (w : World) (e : Ending) (w' : World) : Prop :=
  ∃ v xs, e = .returned v ∧ Small xs ∧ OwnInts 3 (fun k => w.heap.size ≤ k) w' v xs ∧ New w w'

theorem drawTimesValid {S : Nat → Prop} (v : Value) (bs : List Int) (w : World) (h : Nums .u8 S w v bs) :
    Calls Try.prog 20 #[v] w (DrawnTimes w) := by
  go_enter Try.func20, Try.ntmps20
  go_wp2_with fail
  refine (l6Open v bs w h).mono ?_
  rintro e w1 ⟨g, rfl, hg, hr, n1⟩
  go_wp2_with fail
  refine (l92Times g 0 w1 hr (by omega)).mono ?_
  rintro e w2 ⟨v2, xs, rfl, hs, ho, hr2, c2⟩
  go_wp2_with fail
  go_ret
  exact ⟨v2, xs, rfl, hs, ho.mono (fun k _ hk => Nat.le_trans n1.size hk), n1.trans_chg c2 (fun k hk e => by omega)⟩

def DrawnTimesInt (w : World) (e : Ending) (w' : World) : Prop :=
  ∃ v xs, ∃ n : Int, e = .returned (.tuple #[v, .int .i64 n]) ∧ Small xs ∧ -1000 ≤ n ∧ n ≤ 1000 ∧ OwnInts 3 (fun k => w.heap.size ≤ k) w' v xs ∧ New w w'

theorem drawKeepNewest {S : Nat → Prop} (v : Value) (bs : List Int) (w : World) (h : Nums .u8 S w v bs) :
    Calls Try.prog 27 #[v] w (DrawnTimesInt w) := by
  go_enter Try.func27, Try.ntmps27
  go_wp2_with fail
  refine (l6Open v bs w h).mono ?_
  rintro e w1 ⟨g, rfl, hg, hr, n1⟩
  go_wp2_with fail
  refine (l92Times g 0 w1 hr (by omega)).mono ?_
  rintro e w2 ⟨v2, xs, rfl, hs, ho, hr2, c2⟩
  have hgl := hr.lt
  go_wp2_with fail
  refine (pick g _ 8 _ hr2 (by omega) (by omega) (by omega)).mono ?_
  rintro e w3 ⟨a, rfl, ha0, ha1, hr3, c3⟩
  have ho3 := ho.pick c3 (fun j hj => by omega)
  go_wp2_with fail
  refine (pick g _ 24 _ hr3 (by omega) (by omega) (by omega)).mono ?_
  rintro e w4 ⟨b, rfl, hb0, hb1, hr4, c4⟩
  have ho4 := ho3.pick c4 (fun j hj => by omega)
  have n4 : New w w4 := ((n1.trans_chg c2 (fun k hk e => by omega)).trans_chg c3 (fun k hk e => by omega)).trans_chg c4 (fun k hk e => by omega)
  have ho5 := ho4.mono (T := fun k => w.heap.size ≤ k) (fun k _ hk => Nat.le_trans n1.size hk)
  go_wp2_with fail
  go_ret2
  exact ⟨v2, xs, a - b / 23 * 8, rfl, hs, by omega, by omega, ho5, n4⟩

def DrawnTwice (w : World) (e : Ending) (w' : World) : Prop :=
  ∃ v u xs ys, e = .returned (.tuple #[v, u]) ∧ Small xs ∧ Small ys ∧ OwnInts 3 (fun k => w.heap.size ≤ k) w' v xs ∧ OwnInts 3 (fun k => w.heap.size ≤ k) w' u ys ∧ New w w'

theorem drawKeepBoth {S : Nat → Prop} (v : Value) (bs : List Int) (w : World) (h : Nums .u8 S w v bs) :
    Calls Try.prog 32 #[v] w (DrawnTwice w) := by
  go_enter Try.func32, Try.ntmps32
  go_wp2_with fail
  refine (l6Open v bs w h).mono ?_
  rintro e w1 ⟨g, rfl, hg, hr, n1⟩
  have hgl := hr.lt
  have hsz := n1.size
  go_wp2_with fail
  refine (l92Times g 0 w1 hr (by omega)).mono ?_
  rintro e w2 ⟨v2, xs, rfl, hs, ho, hr2, c2⟩
  have hsz2 := c2.size
  go_wp2_with fail
  refine (l92Times g _ w2 hr2 (by omega)).mono ?_
  rintro e w3 ⟨v3, ys, rfl, hs3, ho3, hr3, c3⟩
  have ho4 := (ho.pick c3 (fun j hj => by omega)).mono (T := fun k => w.heap.size ≤ k) (fun k _ hk => by omega)
  have ho5 := ho3.mono (T := fun k => w.heap.size ≤ k) (fun k _ hk => by omega)
  have n4 : New w w3 := (n1.trans_chg c2 (fun k hk e => by omega)).trans_chg c3 (fun k hk e => by omega)
  go_wp2_with fail
  go_ret2
  exact ⟨v2, v3, xs, ys, rfl, hs, hs3, ho4, ho5, n4⟩

end Go.Proofs.Ytfcdhmbooblpoaa
