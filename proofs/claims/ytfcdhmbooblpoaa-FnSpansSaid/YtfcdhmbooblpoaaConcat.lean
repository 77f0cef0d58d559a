/- Walks of slices.Grow (of nil), slices.Concat, slices.Reverse at []int, and of heapOf. -/
import Derived.Test.YtfcdhmbooblpoaaHeapOps
import Derived.Lib.AppendZeros
namespace Go.Proofs.Ytfcdhmbooblpoaa
open Go.RowKit

def GrowPost (w : World) (e : Ending) (w' : World) : Prop := ∃ v, e = .returned v ∧ Row 3 1 (fun k => k = w.heap.size) w' v 0 [] ∧ New w w'

set_option maxHeartbeats 400000 in
theorem growNil (n : Nat) (w : World) (hn : n ≤ 1048576) : Calls Try.prog 46 #[.slice none 0 0, .int .i64 n] w (GrowPost w) := by
  by_cases h0 : n = 0
  · subst h0
    go_enter Try.func46, Try.ntmps46
    go_wp2_with fail
    go_ret
    exact ⟨_, rfl, Row.nil _ _ _ _, New.refl _⟩
  · obtain ⟨i, hi, hz0, hz1, hz2⟩ := info_parts slInt.2.1
    have hrun := Lib.run_append_nil_zeros (P := Try.prog) w 22 3 22 3 i (.int .i64 0) .i64 .i64 slInt.1 (by kernel_rfl) hi hz0 n (by omega) (by omega) (by omega) (by rw [hz2]; omega)
    have Hrun := Lib.hid hrun
    clear hrun
    go_enter Try.func46, Try.ntmps46
    go_wp2_with (at_builtin; refine Lib.wpList_append_run _ rfl _ _ _ _ rfl _ _ rfl rfl _ _ Hrun.out ?_)
    go_ret
    refine ⟨_, rfl, ?_, ((New.refl _).alloc _).drew⟩
    have hge := grownCap_ge w n 0 3
    refine ⟨World.ownsRow_made w _ _ (Nat.zero_le _) (grownCap_le_maxLen w n 0 3 (by unfold maxLen; omega)) ?_, fun k hk => own_some hk⟩
    simp [size_zeroCells]; omega

/-- Slices of numbers side by side in a block. -/
def Lists (w : World) (b : Nat) (us : List Value) (xss : List (List Int)) : Prop :=
  us.length = xss.length ∧ (∀ (i : Nat) u, us[i]? = some u → w.cell? ⟨b, i, none⟩ = some u) ∧ ∀ (i : Nat) u xs, us[i]? = some u → xss[i]? = some xs → Ints Any w u xs
def flat (xss : List (List Int)) : List Int := xss.flatten
theorem Lists.new {w w' : World} {b : Nat} {us : List Value} {xss : List (List Int)} (h : Lists w b us xss) (n : New w w') : Lists w' b us xss :=
  ⟨h.1, fun i u hu => n.cell (h.2.1 i u hu), fun i u xs hu hx => (h.2.2 i u xs hu hx).new n⟩
theorem flat_take {xss : List (List Int)} {k : Nat} {xs : List Int} (h : xss[k]? = some xs) : flat (xss.take (k + 1)) = flat (xss.take k) ++ xs := by
  obtain ⟨hk, rfl⟩ := List.getElem?_eq_some_iff.1 h
  unfold flat
  rw [List.take_succ_eq_append_getElem hk, List.flatten_append]; simp
theorem flat_le (xss : List (List Int)) (k : Nat) : (flat (xss.take k)).length ≤ (flat xss).length := by
  unfold flat
  conv => rhs; rw [← List.take_append_drop k xss, List.flatten_append, List.length_append]
  omega

def ConcatPost (w : World) (xss : List (List Int)) (e : Ending) (w' : World) : Prop := ∃ v, e = .returned v ∧ OwnInts 3 (fun k => w.heap.size ≤ k) w' v (flat xss) ∧ New w w'

set_option maxHeartbeats 1000000 in
theorem concat (b : Nat) (us : List Value) (xss : List (List Int)) (w : World) (h : Lists w b us xss) (hl : (flat xss).length ≤ 1000000) (hk : us.length ≤ 1000) :
    Calls Try.prog 43 #[.slice (some ⟨b, 0, none⟩) us.length us.length] w (ConcatPost w xss) := by
  obtain ⟨e1, e2, e3⟩ := h
  have E1 := Lib.hid e1
  clear e1
  go_enter Try.func43, Try.ntmps43
  go_wp2_with fail
  go_loop [3, 11] (fun s i => ∃ (k : Nat), k ≤ us.length ∧ i = .int .i64 k ∧ s = .int .i64 ((flat (xss.take k)).length : Nat)) (fun _ i => us.length - (intOf i).toNat)
  case atStart => exact ⟨0, Nat.zero_le _, rfl, rfl⟩
  case round =>
    obtain ⟨k, hk1, rfl, rfl⟩ := hrel
    by_cases hlt : k < us.length
    · obtain ⟨u, hu⟩ := get_of hlt
      obtain ⟨xs, hx⟩ := get_of (show k < xss.length by rw [← E1.out]; exact hlt)
      have hcell := e2 k u hu
      have hi := e3 k u xs hu hx
      have hfl := flat_take hx
      have hle := flat_le xss (k + 1)
      rw [hfl, List.length_append] at hle
      have Hfl := Lib.hid hfl
      obtain ⟨a, c, rfl, x1, ⟨x2, -⟩, x3, -⟩ := hi
      unfold maxLen at x2
      clear e2 e3 hu hx hfl x3
      generalize hq : (flat (xss.take k)).length = q at hle ⊢
      have Hq := Lib.hid hq
      clear hq
      go_wp2_with fail
      go_round
      case rel => exact ⟨k + 1, by omega, by go_num, by rw [Hfl.out, List.length_append, Hq.out]; simp⟩
      case measure => simp [intOf]; omega
    · have ek : k = us.length := by omega
      have hall : xss.take k = xss := List.take_of_length_le (by rw [← E1.out]; omega)
      rw [hall]
      have hgrow := growNil (flat xss).length w (by omega)
      have Hgrow := Lib.hid hgrow
      have E2 := Lib.hid e2
      have E3 := Lib.hid e3
      clear hgrow ek hall e2 e3
      go_wp2_with fail
      refine Hgrow.out.mono ?_
      rintro e w1 ⟨v1, rfl, r1, n1⟩
      go_wp2_with fail
      go_loopw [6, 27] (fun v i wr => ∃ (k : Nat), k ≤ us.length ∧ i = .int .i64 k ∧ OwnInts 3 (fun k => w.heap.size ≤ k) wr v (flat (xss.take k)) ∧ New w wr) (fun _ i _ => us.length - (intOf i).toNat)
      case atStart => exact ⟨0, Nat.zero_le _, rfl, ⟨by simpa [flat] using r1.mono (fun k _ hk => by omega), by simp [flat]⟩, n1⟩
      case round =>
        obtain ⟨j, hj1, rfl, ho, hn⟩ := hrel
        rename World => wr
        by_cases hlt : j < us.length
        · obtain ⟨u, hu⟩ := get_of hlt
          obtain ⟨xs, hx⟩ := get_of (show j < xss.length by rw [← E1.out]; exact hlt)
          have hcell := hn.cell (E2.out j u hu)
          have hi := (E3.out j u xs hu hx).new hn
          have hfl := flat_take hx
          have hle := flat_le xss (j + 1)
          rw [hfl, List.length_append] at hle
          have Hfl := Lib.hid hfl
          have hi' := hi
          obtain ⟨a, c, rfl, x1, ⟨x2, -⟩, x3, -⟩ := hi
          unfold maxLen at x2
          clear hu hx hfl
          generalize hq : flat (xss.take j) = q at hle ho Hfl
          have Hq := Lib.hid hq
          clear hq
          go_wp2_with (at_builtin; refine wpRow_append slInt _ _ rfl rfl _ q.length (q.map (Value.int .i64)) rfl ho.1 _ xs.length c (xs.map (Value.int .i64)) rfl hi'.src (oneCells _ _) (by unfold maxLen; omega) (by omega) ?_; intro v' w2 ho' hc')
          have hbl := ho.lt
          have o2 := OwnNums.of_append (xs := q) (ys := xs) ho' ho.2 x3
          go_roundw
          case rel =>
            refine ⟨j + 1, by omega, by go_num, ?_, hn.trans_chg hc' (fun k hk e => by have := (hbl k e).2; omega)⟩
            rw [Hfl.out]
            exact o2.mono fun k _ hk => by
              rcases hk with hk | hk
              · exact (hbl k hk).2
              · have := hn.size; omega
          case measure => simp [intOf]; omega
        · have ek : j = us.length := by omega
          have hall : xss.take j = xss := List.take_of_length_le (by rw [← E1.out]; omega)
          rw [hall] at ho
          clear hall
          go_wp2_with fail
          go_ret
          exact ⟨_, rfl, ho, hn⟩

def HeapOfPost (w : World) (xss : List (List Int)) (e : Ending) (w' : World) : Prop :=
  ∃ g, e = .returned (.pointer (some ⟨g, 0, none⟩)) ∧ w.heap.size ≤ g ∧ HeapD g (fun k => w.heap.size ≤ k ∧ k ≠ g) w' (desc (flat xss)) ∧ New w w'

set_option maxHeartbeats 400000 in
theorem heapOf (b : Nat) (us : List Value) (xss : List (List Int)) (w : World) (h : Lists w b us xss) (hl : (flat xss).length ≤ 1000000) (hk : us.length ≤ 1000) :
    Calls Try.prog 37 #[.slice (some ⟨b, 0, none⟩) us.length us.length] w (HeapOfPost w xss) := by
  have hcon := concat b us xss w h hl hk
  have Hcon := Lib.hid hcon
  clear hcon
  go_enter Try.func37, Try.ntmps37
  go_wp2_with fail
  refine Hcon.out.mono ?_
  rintro e w1 ⟨v1, rfl, o1, n1⟩
  obtain ⟨a, c, rfl, c1, c2⟩ := o1.shape
  have hfl : (flat xss).length ≤ 1000000 := hl
  go_wp2_with fail
  have hmem : HeapM w1.heap.size (fun k => w.heap.size ≤ k ∧ k ≠ w1.heap.size) (w1.alloc (.cells #[.slice a (flat xss).length c] 55)) (flat xss) := by
    refine ⟨_, heap_alloc_new w1 _, ?_, fun h => h.2 rfl⟩
    refine (o1.new ((New.refl w1).alloc _)).mono' (fun j hj => ?_)
    have := o1.lt j hj
    exact ⟨this.2, by omega⟩
  have hin := heapInit w1.heap.size _ (flat xss) _ hmem (by omega)
  refine hin.mono ?_
  rintro e w2 ⟨hs', rfl, hm2, hperm, hp2, hc2⟩
  go_wp2_with fail
  go_ret
  have hsz := n1.size
  exact ⟨_, rfl, hsz, ⟨hs', hm2, hp2, hperm.trans (desc_perm _).symm, desc_desc _⟩, ((n1.trans ((New.refl w1).alloc _))).trans_chg hc2 (fun k hk e => by omega)⟩

/-! ### slices.Reverse -/
def RevPost (v : Value) (S : Nat → Prop) (w : World) (xs : List Int) (e : Ending) (w' : World) : Prop :=
  e = .returned (.tuple #[]) ∧ OwnInts 3 S w' v xs.reverse ∧ Chg (fun k => v.ownBlock = some k) w w'

/-- reversed but for i to j -/
def RevTo (xs cur : List Int) (i : Nat) (j : Int) : Prop :=
  cur.length = xs.length ∧ (i : Int) + j + 1 = xs.length ∧ ∀ k, k < xs.length → at0 cur k = if (k : Int) < i ∨ j < k then at0 xs (xs.length - 1 - k) else at0 xs k

theorem at0_ext {xs ys : List Int} (hl : xs.length = ys.length) (h : ∀ k, k < xs.length → at0 xs k = at0 ys k) : xs = ys := by
  refine List.ext_getElem? fun k => ?_
  by_cases hk : k < xs.length
  · rw [at0_some hk, at0_some (by omega), h k hk]
  · rw [List.getElem?_eq_none (by omega), List.getElem?_eq_none (by omega)]
theorem at0_rev {xs : List Int} {k : Nat} (hk : k < xs.length) : at0 xs.reverse k = at0 xs (xs.length - 1 - k) := by
  unfold at0
  rw [List.getElem?_reverse hk]
theorem RevTo.done {xs cur : List Int} {i : Nat} {j : Int} (h : RevTo xs cur i j) (hj : j ≤ i) : cur = xs.reverse := by
  obtain ⟨h1, h2, h3⟩ := h
  refine at0_ext (by simpa using h1) fun k hk => ?_
  rw [at0_rev (by omega), h3 k (by omega)]
  split
  · rfl
  · congr 1; omega
theorem RevTo.step {xs cur : List Int} {i j : Nat} (h : RevTo xs cur i j) (hj : i < j) : RevTo xs (sw cur i j) (i + 1) ((j : Int) - 1) := by
  obtain ⟨h1, h2, h3⟩ := h
  refine ⟨by simpa using h1, by omega, fun k hk => ?_⟩
  rw [at0_sw (by omega) (by omega)]
  by_cases e1 : k = j
  · subst e1
    rw [if_pos rfl, if_pos (by omega), h3 i (by omega), if_neg (by omega)]
    congr 1; omega
  · rw [if_neg e1]
    by_cases e2 : k = i
    · subst e2
      rw [if_pos rfl, if_pos (by omega), h3 j (by omega), if_neg (by omega)]
      congr 1; omega
    · rw [if_neg e2, h3 k hk]
      by_cases e3 : (k : Int) < i ∨ (j : Int) < k
      · rw [if_pos e3, if_pos (by omega)]
      · rw [if_neg e3, if_neg (by omega)]

set_option maxHeartbeats 1000000 in
theorem reverse (v : Value) (S : Nat → Prop) (xs : List Int) (w : World) (h : OwnInts 3 S w v xs) (hl : xs.length ≤ 1048576) :
    Calls Try.prog 40 #[v] w (RevPost v S w xs) := by
  obtain ⟨a, c, rfl, h1, h2⟩ := h.shape
  go_enter Try.func40, Try.ntmps40
  go_wp2_with fail
  go_loopw [2, 3] (fun s t wr => ∃ (i : Nat) (j : Int) (cur : List Int), s = .int .i64 i ∧ t = .int .i64 j ∧ -1 ≤ j ∧ RevTo xs cur i j ∧ OwnInts 3 S wr (.slice a xs.length c) cur ∧ Chg (fun k => Value.ownBlock (.slice a xs.length c) = some k) w wr) (fun s t _ => (intOf t - intOf s + 1).toNat)
  case atStart => exact ⟨0, (xs.length : Int) - 1, xs, rfl, rfl, by omega, ⟨rfl, by omega, fun k hk => by rw [if_neg (by omega)]⟩, h, Chg.refl _ _⟩
  case round =>
    obtain ⟨i, j, cur, rfl, rfl, hj, hr, ho, hc⟩ := hrel
    rename World => wr
    have Hlen := Lib.hid hr.1
    have hsum := hr.2.1
    have Hsum := Lib.hid hsum
    by_cases hij : (i : Int) < j
    · obtain ⟨j, rfl⟩ := Int.eq_ofNat_of_zero_le (show 0 ≤ j by omega)
      have hil : i < xs.length := by omega
      have hjl : j < xs.length := by omega
      have hij' : i < j := by omega
      clear hsum
      obtain ⟨b, cap, e1, hSb, hb, -, -⟩ := ho.1.head (by rw [Hlen.out]; omega)
      simp only [Value.slice.injEq] at e1
      obtain ⟨rfl, -, rfl⟩ := e1
      have hx : wr.cell? ⟨b, i, none⟩ = some (.int .i64 (at0 cur i)) := by
        have := ho.1; rw [Hlen.out] at this
        exact this.cellAt (by rw [List.getElem?_map, at0_some (by rw [Hlen.out]; exact hil)]; rfl)
      have hy : wr.cell? ⟨b, j, none⟩ = some (.int .i64 (at0 cur j)) := by
        have := ho.1; rw [Hlen.out] at this
        exact this.cellAt (by rw [List.getElem?_map, at0_some (by rw [Hlen.out]; exact hjl)]; rfl)
      have row := ho.1
      rw [Hlen.out] at row
      have fx := row.frozenAt i
      have fy := row.frozenAt j
      obtain ⟨y', hy'⟩ := cell_set_some (w := wr) (p := ⟨b, i, none⟩) (x := .int .i64 (at0 cur j)) (q := ⟨b, j, none⟩) (v := .int .i64 (at0 cur j)) hy
      obtain ⟨x', hx'⟩ := cell_set_some (w := wr) (p := ⟨b, j, none⟩) (x := .int .i64 (at0 cur i)) (q := ⟨b, i, none⟩) (v := .int .i64 (at0 cur i)) hx
      have hi2 : (0 : Int) ≤ (j : Int) - 1 := by omega
      go_wp2_with fail
      go_region
      all_goals (go_wp2_with fail)
      all_goals go_roundw
      case rel =>
        refine ⟨i + 1, (j : Int) - 1, sw cur i j, by go_num, rfl, by omega, hr.step hij', ?_, ((hc.setCell (a := ⟨b, i, none⟩) _ (fun _ => rfl)).setCell (a := ⟨b, j, none⟩) _ (fun _ => rfl)).drew⟩
        refine ⟨?_, fun x hx => ho.2 x ((sw_perm (by rw [Hlen.out]; exact hil) (by rw [Hlen.out]; exact hjl)).subset hx)⟩
        have r2 := ((row.set i (.int .i64 (at0 cur j))).set j (.int .i64 (at0 cur i))).new ((New.refl _).drew)
        rw [← List.map_set, ← List.map_set] at r2
        rw [length_sw, Hlen.out]
        exact r2
      case measure => simp [intOf]; omega
    · have hji : j ≤ i := by omega
      have hd := hr.done hji
      go_wp2_with fail
      go_end0
      rw [hd] at ho
      exact ⟨rfl, ho, hc⟩

end Go.Proofs.Ytfcdhmbooblpoaa
