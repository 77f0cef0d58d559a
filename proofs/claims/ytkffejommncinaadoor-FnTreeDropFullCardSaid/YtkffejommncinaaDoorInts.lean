/- Walks of the small functions on slices of numbers that the statements use: toIntS, eqIntS, sameInts, markIntS, heldIntS. -/
import Derived.Test.YtkffejommncinaaDoorBase
namespace Go.Proofs.YtkffejommncinaaDoor
open Go.RowKit

theorem slInt : SliceOf Tryd.prog 26 3 (.int .i64 0) 1 8 := by refine ⟨by kernel_rfl, by kernel_rfl, rfl, by decide⟩

theorem set_prefix {xs : List Value} {cur : List Value} {k : Nat} {x : Value} (hl : cur.length = xs.length) (hc : cur.take k = xs.take k) (hx : xs[k]? = some x) : (cur.set k x).take (k + 1) = xs.take (k + 1) := by
  obtain ⟨hk, rfl⟩ := List.getElem?_eq_some_iff.1 hx
  rw [List.take_succ_eq_append_getElem (by simp; omega), List.take_succ_eq_append_getElem hk]
  simp [hc, List.take_set_of_le]

set_option maxRecDepth 4000 in
set_option maxHeartbeats 400000 in
theorem toInts {S : Nat → Prop} (v : Value) (xs : List Int) (w : World) (h : Ints S w v xs) (hr : xs.length ≤ 17592186044416) :
    Calls Tryd.prog 60 #[v] w fun e w' => ∃ v', e = .returned v' ∧ New w w' ∧ OwnInts 3 (fun k => w.heap.size ≤ k) w' v' xs := by
  have h0 := h
  obtain ⟨a, c, rfl, h1, h2, h3, h4⟩ := h
  replace h2 := h2.1
  unfold maxLen at h2
  go_enter Tryd.func60, Tryd.ntmps60
  go_wp2_with (at_make; refine wpRow_make slInt _ _ rfl rfl .i64 .i64 xs.length rfl rfl (by omega) (by unfold maxLen; omega) ?_; intro w1 hrow hn hlt)
  go_loopw [4] (fun i wr => ∃ (k : Nat) (cur : List Value), k ≤ xs.length ∧ i = .int .i64 k ∧ New w wr ∧ Row 3 1 (fun k => k = w.heap.size) wr (.slice (some ⟨w.heap.size, 0, none⟩) xs.length xs.length) xs.length cur ∧ cur.length = xs.length ∧ cur.take k = (xs.map (Value.int .i64)).take k) (fun i _ => xs.length - (intOf i).toNat)
  case atStart => exact ⟨0, _, Nat.zero_le _, rfl, hn, hrow, by simpa using hrow.1.1, by simp⟩
  case round =>
    obtain ⟨k, cur, hk, rfl, hw, hrw, hl, hcur⟩ := hrel
    rename World => wr
    have Hl := Lib.hid hl
    have Hcur := Lib.hid hcur
    clear hl hcur
    by_cases hlt : k < xs.length
    · obtain ⟨x, hx⟩ := get_of hlt
      rcases h4 with rfl | ⟨b, off, rfl, _, hb, hc⟩
      · simp at hlt
      have hcell : wr.cell? ⟨b, off + k, none⟩ = some (.int .i64 x) := hw.cell (hc k x hx)
      have hcell2 : ∃ u, wr.cell? ⟨w.heap.size, k, none⟩ = some u := by
        obtain ⟨u, hu⟩ := get_of (show k < cur.length by rw [Hl.out]; exact hlt)
        exact ⟨u, hrw.cellAt hu⟩
      obtain ⟨u, hcu⟩ := hcell2
      have hfr := hrw.frozenAt k
      have Hx := Lib.hid hx
      clear hc hx
      go_wp2
      go_roundw
      case rel => exact ⟨k + 1, cur.set k (.int .i64 x), by omega, by go_num, hw.setCell _ (by simp), hrw.set _ _, by simp [Hl.out], set_prefix (by simp [Hl.out]) Hcur.out (by simp [Hx.out])⟩
      case measure => simp [intOf]; omega
    · go_wp2
      go_ret
      have e1 : cur = xs.map (Value.int .i64) := by
        have := Hcur.out
        rwa [List.take_of_length_le (by rw [Hl.out]; omega), List.take_of_length_le (by simp; omega)] at this
      refine ⟨_, rfl, hw, ?_, h3⟩
      rw [← e1]
      exact hrw.mono fun k _ hk => by omega

/-- are two lists equal from here on -/
def eqFrom : List Int → List Int → Bool
  | x :: xs, y :: ys => if x = y then eqFrom xs ys else false
  | [], _ => true
  | _ :: _, [] => true
theorem eqFrom_is : ∀ (xs ys : List Int), xs.length = ys.length → eqFrom xs ys = decide (xs = ys)
  | [], [], _ => by simp [eqFrom]
  | x :: xs, y :: ys, h => by
    rw [eqFrom, eqFrom_is xs ys (by simpa using h)]
    by_cases e : x = y <;> simp [e]

set_option maxRecDepth 4000 in
set_option maxHeartbeats 400000 in
theorem eqInts {S T : Nat → Prop} (v u : Value) (xs ys : List Int) (w : World) (h : Ints S w v xs) (g : Ints T w u ys) :
    Calls Tryd.prog 61 #[v, u] w fun e w' => e = .returned (.bool (decide (xs = ys))) ∧ Drew w w' := by
  obtain ⟨a, c, rfl, h1, h2, h3, h4⟩ := h
  obtain ⟨a', c', rfl, g1, g2, g3, g4⟩ := g
  replace h2 := h2.1
  replace g2 := g2.1
  unfold maxLen at h2 g2
  by_cases hl : xs.length = ys.length
  · have e0 := eqFrom_is xs ys hl
    have E0 := Lib.hid e0
    have hne : (((xs.length : Int) != (ys.length : Int))) = false := by simp [hl]
    have Hl := Lib.hid hl
    clear e0 hl
    go_enter Tryd.func61, Tryd.ntmps61
    go_wp2
    go_loopw [5] (fun i wr => ∃ (k : Nat), k ≤ xs.length ∧ i = .int .i64 k ∧ Drew w wr ∧ eqFrom xs ys = eqFrom (xs.drop k) (ys.drop k)) (fun i _ => xs.length - (intOf i).toNat)
    case atStart => exact ⟨0, Nat.zero_le _, rfl, Drew.refl _, rfl⟩
    case round =>
      obtain ⟨k, hk, rfl, hw, he⟩ := hrel
      rename World => wr
      have He := Lib.hid he
      clear he
      by_cases hlt : k < xs.length
      · obtain ⟨x, hx⟩ := get_of hlt
        have hlt2 : k < ys.length := by rw [← Hl.out]; exact hlt
        obtain ⟨y, hy⟩ := get_of hlt2
        rcases h4 with rfl | ⟨b, off, rfl, _, hb, hc⟩
        · simp at hlt
        rcases g4 with rfl | ⟨b', off', rfl, _, hb', hc'⟩
        · simp at hlt2
        have hcx : wr.cell? ⟨b, off + k, none⟩ = some (.int .i64 x) := by rw [hw.cell]; exact hc k x hx
        have hcy : wr.cell? ⟨b', off' + k, none⟩ = some (.int .i64 y) := by rw [hw.cell]; exact hc' k y hy
        have Hx := Lib.hid (drop_of hx)
        have Hy := Lib.hid (drop_of hy)
        clear hc hx hc' hy
        by_cases hxy : x = y
        · subst hxy
          go_wp2
          go_quiet (fail)
          go_wp2
          go_roundw
          case rel => exact ⟨k + 1, by omega, by go_num, hw.drewN _, by rw [He.out, Hx.out, Hy.out]; simp [eqFrom]⟩
          case measure => simp [intOf]; omega
        · have hxy' : (x != y) = true := by simpa using hxy
          go_wp2
          go_quiet (fail)
          go_wp2
          go_ret
          exact ⟨ret_bool (by rw [← E0.out, He.out, Hx.out, Hy.out]; simp [eqFrom, hxy]), hw.drewN _⟩
      · go_wp2
        go_ret
        exact ⟨ret_bool (by rw [← E0.out, He.out, drop_end hlt]; simp [eqFrom]), hw⟩
  · have hne : (((xs.length : Int) != (ys.length : Int))) = true := by simp; omega
    have Hl := Lib.hid hl
    clear hl
    go_enter Tryd.func61, Tryd.ntmps61
    go_wp2
    go_ret
    exact ⟨ret_bool (by simp; intro e; exact Hl.out (by rw [e])), Drew.refl _⟩
set_option maxRecDepth 4000 in
set_option maxHeartbeats 400000 in
theorem sameInts {S T : Nat → Prop} (v u : Value) (xs ys : List Int) (w : World) (h : Ints S w v xs) (g : Ints T w u ys) :
    Calls Tryd.prog 45 #[v, u] w fun e w' => e = .returned (.bool (decide (xs = ys))) ∧ Drew w w' := by
  obtain ⟨a, c, rfl, h1, h2, h3, h4⟩ := h
  obtain ⟨a', c', rfl, g1, g2, g3, g4⟩ := g
  replace h2 := h2.1
  replace g2 := g2.1
  unfold maxLen at h2 g2
  by_cases hl : xs.length = ys.length
  · have e0 := eqFrom_is xs ys hl
    have E0 := Lib.hid e0
    have hne : (((xs.length : Int) != (ys.length : Int))) = false := by simp [hl]
    have Hl := Lib.hid hl
    clear e0 hl
    go_enter Tryd.func45, Tryd.ntmps45
    go_wp2
    go_loopw [5] (fun i wr => ∃ (k : Nat), k ≤ xs.length ∧ i = .int .i64 k ∧ Drew w wr ∧ eqFrom xs ys = eqFrom (xs.drop k) (ys.drop k)) (fun i _ => xs.length - (intOf i).toNat)
    case atStart => exact ⟨0, Nat.zero_le _, rfl, Drew.refl _, rfl⟩
    case round =>
      obtain ⟨k, hk, rfl, hw, he⟩ := hrel
      rename World => wr
      have He := Lib.hid he
      clear he
      by_cases hlt : k < xs.length
      · obtain ⟨x, hx⟩ := get_of hlt
        have hlt2 : k < ys.length := by rw [← Hl.out]; exact hlt
        obtain ⟨y, hy⟩ := get_of hlt2
        rcases h4 with rfl | ⟨b, off, rfl, _, hb, hc⟩
        · simp at hlt
        rcases g4 with rfl | ⟨b', off', rfl, _, hb', hc'⟩
        · simp at hlt2
        have hcx : wr.cell? ⟨b, off + k, none⟩ = some (.int .i64 x) := by rw [hw.cell]; exact hc k x hx
        have hcy : wr.cell? ⟨b', off' + k, none⟩ = some (.int .i64 y) := by rw [hw.cell]; exact hc' k y hy
        have Hx := Lib.hid (drop_of hx)
        have Hy := Lib.hid (drop_of hy)
        clear hc hx hc' hy
        by_cases hxy : x = y
        · subst hxy
          go_wp2
          go_quiet (fail)
          go_wp2
          go_roundw
          case rel => exact ⟨k + 1, by omega, by go_num, hw.drewN _, by rw [He.out, Hx.out, Hy.out]; simp [eqFrom]⟩
          case measure => simp [intOf]; omega
        · have hxy' : (x != y) = true := by simpa using hxy
          go_wp2
          go_quiet (fail)
          go_wp2
          go_ret
          exact ⟨ret_bool (by rw [← E0.out, He.out, Hx.out, Hy.out]; simp [eqFrom, hxy]), hw.drewN _⟩
      · go_wp2
        go_ret
        exact ⟨ret_bool (by rw [← E0.out, He.out, drop_end hlt]; simp [eqFrom]), hw⟩
  · have hne : (((xs.length : Int) != (ys.length : Int))) = true := by simp; omega
    have Hl := Lib.hid hl
    clear hl
    go_enter Tryd.func45, Tryd.ntmps45
    go_wp2
    go_ret
    exact ⟨ret_bool (by simp; intro e; exact Hl.out (by rw [e])), Drew.refl _⟩

/-- k, k + 1, .. : what markIntS writes -/
def upTo (k : Int) (n : Nat) : List Int := (List.range n).map fun (i : Nat) => k + (i : Int)
@[simp] theorem length_upTo (k : Int) (n : Nat) : (upTo k n).length = n := by simp [upTo]
theorem upTo_get {k : Int} {n i : Nat} (h : i < n) : (upTo k n)[i]? = some (k + i) := by simp [upTo, h]
theorem upTo_fits {k : Int} {n : Nat} (h0 : 0 ≤ k) (h1 : k + n ≤ 4611686018427387904) : ∀ x ∈ upTo k n, I64 x := by
  intro x hx
  simp only [upTo, List.mem_map, List.mem_range] at hx
  obtain ⟨i, hi, rfl⟩ := hx
  exact I64.mk (by omega) (by omega)

set_option maxRecDepth 4000 in
set_option maxHeartbeats 400000 in
theorem markInts {S : Nat → Prop} (v : Value) (xs : List Int) (k : Int) (w : World) (h : OwnInts 3 S w v xs) (hk0 : 0 ≤ k) (hk1 : k ≤ 1152921504606846976) (hr : xs.length ≤ 1152921504606846976) :
    Calls Tryd.prog 57 #[v, .int .i64 k] w fun e w' => e = .returned (.int .i64 (k + xs.length)) ∧ Chg (fun j => v.ownBlock = some j) w w' ∧ OwnInts 3 S w' v (upTo k xs.length) := by
  have h0 := h
  obtain ⟨a, c, rfl, h1, h2, -⟩ := h.1.shape
  unfold maxLen at h2
  have hup := upTo_fits (n := xs.length) hk0 (by omega)
  have Hup := Lib.hid hup
  clear hup
  go_enter Tryd.func57, Tryd.ntmps57
  go_wp2
  go_loopw [1, 5] (fun q i wr => ∃ (j : Nat) (cur : List Value), j ≤ xs.length ∧ i = .int .i64 j ∧ q = .int .i64 (k + j) ∧ Chg (fun b => Value.ownBlock (.slice a xs.length c) = some b) w wr ∧ Row 3 1 S wr (.slice a xs.length c) xs.length cur ∧ cur.length = xs.length ∧ cur.take j = ((upTo k xs.length).map (Value.int .i64)).take j) (fun _ i _ => xs.length - (intOf i).toNat)
  case atStart => exact ⟨0, _, Nat.zero_le _, rfl, by simp, Chg.refl _ _, h.1, by simp, by simp⟩
  case round =>
    obtain ⟨j, cur, hj, rfl, rfl, hw, hrw, hl, hcur⟩ := hrel
    rename World => wr
    have Hl := Lib.hid hl
    have Hcur := Lib.hid hcur
    clear hl hcur
    by_cases hlt : j < xs.length
    · obtain ⟨g, cap, e1, hSg, hg, _, _⟩ := hrw.head (by omega)
      simp only [Value.slice.injEq] at e1
      obtain ⟨rfl, -, rfl⟩ := e1
      have hcell2 : ∃ u, wr.cell? ⟨g, j, none⟩ = some u := by
        obtain ⟨u, hu⟩ := get_of (show j < cur.length by rw [Hl.out]; exact hlt)
        exact ⟨u, hrw.cellAt hu⟩
      obtain ⟨u, hcu⟩ := hcell2
      have hfr := hrw.frozenAt j
      go_wp2
      go_roundw
      case rel => exact ⟨j + 1, cur.set j (.int .i64 (k + j)), by omega, by go_num, by go_num, hw.setCell _ (fun _ => rfl), hrw.set _ _, by simp [Hl.out], set_prefix (by simp [Hl.out]) Hcur.out (by simp [upTo_get hlt])⟩
      case measure => simp [intOf]; omega
    · go_wp2
      go_ret
      have e1 : cur = (upTo k xs.length).map (Value.int .i64) := by
        have := Hcur.out
        rwa [List.take_of_length_le (by rw [Hl.out]; omega), List.take_of_length_le (by simp; omega)] at this
      have e2 : j = xs.length := by omega
      refine ⟨ret_int (by rw [e2]), hw, ?_, Hup.out⟩
      rw [← e1, length_upTo]
      exact hrw

set_option maxRecDepth 4000 in
set_option maxHeartbeats 400000 in
theorem heldInts {S : Nat → Prop} (v : Value) (n : Nat) (k : Int) (w : World) (h : Ints S w v (upTo k n)) (hk0 : 0 ≤ k) (hk1 : k ≤ 1152921504606846976) (hr : n ≤ 1152921504606846976) :
    Calls Tryd.prog 58 #[v, .int .i64 k] w fun e w' => e = .returned (.int .i64 (k + n)) ∧ w = w' := by
  obtain ⟨a, c, rfl, h1, h2, h3, h4⟩ := h
  replace h2 := h2.1
  unfold maxLen at h2
  rw [length_upTo] at h1 ⊢
  go_enter Tryd.func58, Tryd.ntmps58
  go_wp2
  go_loop [1, 5] (fun q i => ∃ (j : Nat), j ≤ n ∧ i = .int .i64 j ∧ q = .int .i64 (k + j)) (fun _ i => n - (intOf i).toNat)
  case atStart => exact ⟨0, Nat.zero_le _, rfl, by simp⟩
  case round =>
    obtain ⟨j, hj, rfl, rfl⟩ := hrel
    by_cases hlt : j < n
    · rcases h4 with h4 | ⟨b, off, rfl, _, hb, hc⟩
      · have := congrArg List.length h4; simp at this; omega
      have hcell := hc j _ (upTo_get hlt)
      clear hc
      go_wp2
      go_round
      case rel => exact ⟨j + 1, by omega, by go_num, by go_num⟩
      case measure => simp [intOf]; omega
    · go_wp2
      go_ret
      have e2 : j = n := by omega
      exact ⟨ret_int (by rw [e2]), rfl⟩

end Go.Proofs.YtkffejommncinaaDoor
