/- Lists of blocks (slices of slices of numbers): eqIntSS, sameBlocks, markIntSS, heldIntSS. -/
import Derived.Test.YtepoaoimappcbaaBytes
namespace Go.Proofs.Ytepoaoimappcbaa
open Go.RowKit

theorem slInts : SliceOf Try.prog 23 22 (.slice none 0 0) 1 24 := by refine ⟨by kernel_rfl, by kernel_rfl, rfl, by decide⟩

theorem Row.chg' {e sz : Nat} {S T : Nat → Prop} {w w' : World} {v : Value} {n : Nat} {xs : List Value} (h : Row e sz S w v n xs) (g : Chg T w w') (hd : ∀ j, v.ownBlock = some j → ¬ T j) : Row e sz S w' v n xs :=
  (Row.chg (S := fun j => S j ∧ v.ownBlock = some j) ⟨h.1, fun j hj => ⟨h.2 j hj, hj⟩⟩ g (fun j _ hj => hd j hj.2)).mono fun _ _ hj => hj.1

/-- A slice of slices of numbers of the call's own; no two of its rows share. -/
def Blocks (S : Nat → Prop) (w : World) (v : Value) (xss : List (List Int)) : Prop :=
  ∃ vs, Row 22 1 S w v xss.length vs ∧ Rows 3 (fun j => S j ∧ v.ownBlock ≠ some j) w vs xss

theorem Blocks.nil (S : Nat → Prop) (w : World) : Blocks S w (.slice none 0 0) [] := ⟨[], Row.nil _ _ _ _, trivial⟩
theorem Blocks.empty (w : World) : Blocks (fun k => w.heap.size ≤ k) (w.alloc (.cells #[] 22)) (.slice (some ⟨w.heap.size, 0, none⟩) 0 0) [] := ⟨[], (Row.empty _ _ _).mono (fun _ _ h => by omega), trivial⟩
theorem Blocks.mono {S T : Nat → Prop} {w : World} {v : Value} {xss : List (List Int)} (h : Blocks S w v xss) (hs : ∀ j, j < w.heap.size → S j → T j) : Blocks T w v xss := by
  obtain ⟨vs, h1, h2⟩ := h
  exact ⟨vs, h1.mono hs, h2.mono fun j hj hh => ⟨hs j hj hh.1, hh.2⟩⟩
theorem Blocks.chg {S T : Nat → Prop} {w w' : World} {v : Value} {xss : List (List Int)} (h : Blocks S w v xss) (g : Chg T w w') (hs : ∀ j, j < w.heap.size → S j → ¬ T j) : Blocks S w' v xss := by
  obtain ⟨vs, h1, h2⟩ := h
  exact ⟨vs, h1.chg g hs, h2.chg g fun j hj hh => hs j hj hh.1⟩
theorem Blocks.new {S : Nat → Prop} {w w' : World} {v : Value} {xss : List (List Int)} (h : Blocks S w v xss) (g : New w w') : Blocks S w' v xss := h.chg g fun _ _ _ hf => hf
theorem Blocks.old {S : Nat → Prop} {w : World} {v : Value} {xss : List (List Int)} (h : Blocks S w v xss) : Blocks (fun j => S j ∧ j < w.heap.size) w v xss := h.mono fun _ hj hs => ⟨hs, hj⟩
theorem Blocks.shape {S : Nat → Prop} {w : World} {v : Value} {xss : List (List Int)} (h : Blocks S w v xss) : ∃ a c, v = .slice a xss.length c ∧ xss.length ≤ c ∧ c ≤ maxLen := by
  obtain ⟨vs, h1, _⟩ := h
  obtain ⟨a, c, e, h2, h3, _⟩ := h1.shape
  exact ⟨a, c, e, h2, h3⟩
/-- its i-th cell, and the row there -/
theorem Blocks.at {S : Nat → Prop} {w : World} {v : Value} {xss : List (List Int)} (h : Blocks S w v xss) {i : Nat} {xs : List Int} (hx : xss[i]? = some xs) :
    ∃ b c u, v = .slice (some ⟨b, 0, none⟩) xss.length c ∧ S b ∧ b < w.heap.size ∧ w.cell? ⟨b, i, none⟩ = some u ∧ OwnInts 3 (fun j => S j ∧ j ≠ b) w u xs := by
  obtain ⟨vs, h1, h2⟩ := h
  have hl := (List.getElem?_eq_some_iff.1 hx).1
  obtain ⟨b, c, rfl, hS, hb, _, _⟩ := h1.head (by omega)
  obtain ⟨u, hu, ho⟩ := h2.at hx
  exact ⟨b, c, u, rfl, hS, hb, h1.cellAt hu, ho.mono fun j _ hj => ⟨hj.1, fun e => hj.2 (by simp [Value.ownBlock, e])⟩⟩
/-- the i-th row is written -/
theorem Blocks.put {S : Nat → Prop} {w w' : World} {v u : Value} {xss : List (List Int)} {ys : List Int} {i b c : Nat} (h : Blocks S w v xss) (hv : v = .slice (some ⟨b, 0, none⟩) xss.length c) (hi : i < xss.length) (hc : w.cell? ⟨b, i, none⟩ = some u)
    (g : Chg (fun j => u.ownBlock = some j) w w') (ho : ∀ S', OwnInts 3 S' w u (xss.getD i []) → OwnInts 3 S' w' u ys) : Blocks S w' v (xss.set i ys) := by
  subst hv
  obtain ⟨vs, h1, h2⟩ := h
  have hl : i < vs.length := by rw [h2.length]; exact hi
  obtain ⟨u', hu'⟩ := get_of hl
  have e := h1.cellAt hu'
  rw [hc] at e
  obtain rfl := Option.some.inj e
  obtain ⟨xs, hx, hox⟩ := h2.get hu'
  refine ⟨vs, ?_, h2.put g hu' ho⟩
  rw [List.length_set]
  exact h1.chg' g fun j hj he => (hox.1.2 j he).2 hj


/-- One more row. -/
theorem Blocks.snoc {S T : Nat → Prop} {w w' : World} {v v' u : Value} {xss : List (List Int)} {xs : List Int} {vs : List Value} (h2 : Rows 3 (fun j => S j ∧ v.ownBlock ≠ some j) w vs xss) (hu : OwnInts 3 T w u xs)
    (h1 : Row 22 1 (fun k => v.ownBlock = some k ∨ w.heap.size < k) w' v' (xss.length + 1) (vs ++ [u])) (g : Chg (fun k => v.ownBlock = some k) w w') (hS : ∀ j, v.ownBlock = some j → S j ∧ j < w.heap.size) (hT : ∀ j, S j → ¬ T j) :
    Blocks (fun j => (S j ∧ j < w.heap.size) ∨ (T j ∧ j < w.heap.size) ∨ w.heap.size < j) w' v' (xss ++ [xs]) := by
  refine ⟨vs ++ [u], ?_, ?_⟩
  · rw [List.length_append, List.length_singleton]
    exact h1.mono fun j _ hj => by
      rcases hj with hj | hj
      · exact .inl (hS j hj)
      · exact .inr (.inr hj)
  · have r := (Rows.snoc hu.old h2.old (fun j hj hT' => hT j hj.1.1 hT'.1)).chg g (fun j _ hj he => by
      rcases hj with hj | hj
      · exact hj.1.2 he
      · exact hT j (hS j he).1 hj.1)
    refine r.mono fun j hj hh => ?_
    have hlt : j < w.heap.size := by rcases hh with hh | hh <;> exact hh.2
    refine ⟨?_, fun e => ?_⟩
    · rcases hh with hh | hh
      · exact .inl ⟨hh.1.1, hh.2⟩
      · exact .inr (.inl ⟨hh.1, hh.2⟩)
    · have := h1.2 j e
      rcases this with h | h
      · rcases hh with hh | hh
        · exact hh.1.2 h
        · exact hT j (hS j h).1 hh.1
      · omega

def eqL {α : Type} [DecidableEq α] : List α → List α → Bool
  | x :: xs, y :: ys => if x = y then eqL xs ys else false
  | [], _ => true
  | _ :: _, [] => true
theorem eqL_is {α : Type} [DecidableEq α] : ∀ (xs ys : List α), xs.length = ys.length → eqL xs ys = decide (xs = ys)
  | [], [], _ => by simp [eqL]
  | x :: xs, y :: ys, h => by
    rw [eqL, eqL_is xs ys (by simpa using h)]
    by_cases e : x = y <;> simp [e]

set_option maxHeartbeats 400000 in
theorem eqIntSS {S T : Nat → Prop} (v u : Value) (xs ys : List (List Int)) (w : World) (h : Blocks S w v xs) (g : Blocks T w u ys) :
    Calls Try.prog 8 #[v, u] w fun e w' => e = .returned (.bool (decide (xs = ys))) ∧ Drew w w' := by
  have h0 := h
  have g0 := g
  obtain ⟨a, c, rfl, h1, h2⟩ := h.shape
  obtain ⟨a', c', rfl, g1, g2⟩ := g.shape
  unfold maxLen at h2 g2
  by_cases hl : xs.length = ys.length
  · have e0 := eqL_is xs ys hl
    have E0 := Lib.hid e0
    have hne : (((xs.length : Int) != (ys.length : Int))) = false := by simp [hl]
    have Hl := Lib.hid hl
    clear e0 hl
    go_enter Try.func8, Try.ntmps8
    go_wp2
    go_loopw [5] (fun i wr => ∃ (k : Nat), k ≤ xs.length ∧ i = .int .i64 k ∧ Drew w wr ∧ eqL xs ys = eqL (xs.drop k) (ys.drop k)) (fun i _ => xs.length - (intOf i).toNat)
    case atStart => exact ⟨0, Nat.zero_le _, rfl, Drew.refl _, rfl⟩
    case round =>
      obtain ⟨k, hk, rfl, hw, he⟩ := hrel
      rename World => wr
      have He := Lib.hid he
      clear he
      by_cases hlt : k < xs.length
      · obtain ⟨x, hx⟩ := get_of hlt
        have hlt2 : k < ys.length := by rw [← Hl.out]; exact hlt
        obtain ⟨y, hy⟩ := get_of hlt2
        obtain ⟨b, cb, r, e1, _, hb, hcx, hrx⟩ := (h0.new hw.new).at hx
        obtain ⟨b', cb', r', e2, _, hb', hcy, hry⟩ := (g0.new hw.new).at hy
        simp only [Value.slice.injEq] at e1 e2
        obtain ⟨rfl, -, rfl⟩ := e1
        obtain ⟨rfl, -, rfl⟩ := e2
        have Hx := Lib.hid (drop_of hx)
        have Hy := Lib.hid (drop_of hy)
        have hcall : ∀ n, Calls Try.prog 9 #[r, r'] (wr.drewN n) fun e w'' => e = .returned (.bool (decide (x = y))) ∧ ∃ m, w'' = wr.drewN m := fun n => quiet_of_drew (eqInts _ _ x y _ (hrx.nums.new ((New.refl _).drewN n)) (hry.nums.new ((New.refl _).drewN n)))
        have Hcall := Lib.hid hcall
        clear hcall hx hy hrx hry
        by_cases hxy : x = y
        · have hd : decide (x = y) = true := by simp [hxy]
          rw [hd] at Hcall
          have Hxy := Lib.hid hxy
          clear hd hxy
          go_wp2
          go_quiet ((go_at_call 9; exact Hcall.out _))
          go_wp2
          go_roundw
          case rel => exact ⟨k + 1, by omega, by go_num, hw.drewN _, by rw [He.out, Hx.out, Hy.out, eqL, if_pos Hxy.out]⟩
          case measure => simp [intOf]; omega
        · have hd : decide (x = y) = false := by simp [hxy]
          rw [hd] at Hcall
          have Hxy := Lib.hid hxy
          clear hd hxy
          go_wp2
          go_quiet ((go_at_call 9; exact Hcall.out _))
          go_wp2
          go_ret
          exact ⟨ret_bool (by rw [← E0.out, He.out, Hx.out, Hy.out, eqL, if_neg Hxy.out]), hw.drewN _⟩
      · go_wp2
        go_ret
        exact ⟨ret_bool (by rw [← E0.out, He.out, drop_end hlt]; simp [eqL]), hw⟩
  · have hne : (((xs.length : Int) != (ys.length : Int))) = true := by simp; omega
    have Hl := Lib.hid hl
    clear hl
    go_enter Try.func8, Try.ntmps8
    go_wp2
    go_ret
    exact ⟨ret_bool (by simp; intro e; exact Hl.out (by rw [e])), Drew.refl _⟩
set_option maxHeartbeats 400000 in
theorem sameBlocks {S T : Nat → Prop} (v u : Value) (xs ys : List (List Int)) (w : World) (h : Blocks S w v xs) (g : Blocks T w u ys) :
    Calls Try.prog 14 #[v, u] w fun e w' => e = .returned (.bool (decide (xs = ys))) ∧ Drew w w' := by
  have h0 := h
  have g0 := g
  obtain ⟨a, c, rfl, h1, h2⟩ := h.shape
  obtain ⟨a', c', rfl, g1, g2⟩ := g.shape
  unfold maxLen at h2 g2
  by_cases hl : xs.length = ys.length
  · have e0 := eqL_is xs ys hl
    have E0 := Lib.hid e0
    have hne : (((xs.length : Int) != (ys.length : Int))) = false := by simp [hl]
    have Hl := Lib.hid hl
    clear e0 hl
    go_enter Try.func14, Try.ntmps14
    go_wp2
    go_loopw [5] (fun i wr => ∃ (k : Nat), k ≤ xs.length ∧ i = .int .i64 k ∧ Drew w wr ∧ eqL xs ys = eqL (xs.drop k) (ys.drop k)) (fun i _ => xs.length - (intOf i).toNat)
    case atStart => exact ⟨0, Nat.zero_le _, rfl, Drew.refl _, rfl⟩
    case round =>
      obtain ⟨k, hk, rfl, hw, he⟩ := hrel
      rename World => wr
      have He := Lib.hid he
      clear he
      by_cases hlt : k < xs.length
      · obtain ⟨x, hx⟩ := get_of hlt
        have hlt2 : k < ys.length := by rw [← Hl.out]; exact hlt
        obtain ⟨y, hy⟩ := get_of hlt2
        obtain ⟨b, cb, r, e1, _, hb, hcx, hrx⟩ := (h0.new hw.new).at hx
        obtain ⟨b', cb', r', e2, _, hb', hcy, hry⟩ := (g0.new hw.new).at hy
        simp only [Value.slice.injEq] at e1 e2
        obtain ⟨rfl, -, rfl⟩ := e1
        obtain ⟨rfl, -, rfl⟩ := e2
        have Hx := Lib.hid (drop_of hx)
        have Hy := Lib.hid (drop_of hy)
        have hcall : ∀ n, Calls Try.prog 16 #[r, r'] (wr.drewN n) fun e w'' => e = .returned (.bool (decide (x = y))) ∧ ∃ m, w'' = wr.drewN m := fun n => quiet_of_drew (sameInts _ _ x y _ (hrx.nums.new ((New.refl _).drewN n)) (hry.nums.new ((New.refl _).drewN n)))
        have Hcall := Lib.hid hcall
        clear hcall hx hy hrx hry
        by_cases hxy : x = y
        · have hd : decide (x = y) = true := by simp [hxy]
          rw [hd] at Hcall
          have Hxy := Lib.hid hxy
          clear hd hxy
          go_wp2
          go_quiet ((go_at_call 16; exact Hcall.out _))
          go_wp2
          go_roundw
          case rel => exact ⟨k + 1, by omega, by go_num, hw.drewN _, by rw [He.out, Hx.out, Hy.out, eqL, if_pos Hxy.out]⟩
          case measure => simp [intOf]; omega
        · have hd : decide (x = y) = false := by simp [hxy]
          rw [hd] at Hcall
          have Hxy := Lib.hid hxy
          clear hd hxy
          go_wp2
          go_quiet ((go_at_call 16; exact Hcall.out _))
          go_wp2
          go_ret
          exact ⟨ret_bool (by rw [← E0.out, He.out, Hx.out, Hy.out, eqL, if_neg Hxy.out]), hw.drewN _⟩
      · go_wp2
        go_ret
        exact ⟨ret_bool (by rw [← E0.out, He.out, drop_end hlt]; simp [eqL]), hw⟩
  · have hne : (((xs.length : Int) != (ys.length : Int))) = true := by simp; omega
    have Hl := Lib.hid hl
    clear hl
    go_enter Try.func14, Try.ntmps14
    go_wp2
    go_ret
    exact ⟨ret_bool (by simp; intro e; exact Hl.out (by rw [e])), Drew.refl _⟩

/-- what markIntSS writes -/
def upTos (k : Int) : List (List Int) → List (List Int)
  | [] => []
  | xs :: r => upTo k xs.length :: upTos (k + xs.length) r
def total (xss : List (List Int)) : Nat := (xss.map List.length).sum

@[simp] theorem length_upTos : ∀ (k : Int) (xss : List (List Int)), (upTos k xss).length = xss.length
  | _, [] => rfl
  | k, xs :: r => by simp [upTos, length_upTos]
theorem total_cons (xs : List Int) (r : List (List Int)) : total (xs :: r) = xs.length + total r := by simp [total]
theorem total_append (a b : List (List Int)) : total (a ++ b) = total a + total b := by simp [total]
theorem upTos_append : ∀ (k : Int) (a b : List (List Int)), upTos k (a ++ b) = upTos k a ++ upTos (k + total a) b
  | k, [], b => by simp [upTos, total]
  | k, xs :: r, b => by
    rw [List.cons_append, upTos, upTos_append, upTos, total_cons]
    simp [Int.add_assoc]
theorem total_take {xss : List (List Int)} {j : Nat} {xs : List Int} (h : xss[j]? = some xs) : total (xss.take (j + 1)) = total (xss.take j) + xs.length := by
  obtain ⟨hk, rfl⟩ := List.getElem?_eq_some_iff.1 h
  rw [List.take_succ_eq_append_getElem hk, total_append]; simp [total]
theorem total_le (xss : List (List Int)) (j : Nat) : total (xss.take j) ≤ total xss := by
  conv => rhs; rw [← List.take_append_drop j xss, total_append]
  omega
/-- what stands there after j rounds -/
def markedTo (k : Int) (xss : List (List Int)) (j : Nat) : List (List Int) := upTos k (xss.take j) ++ xss.drop j
theorem length_marked (k : Int) (xss : List (List Int)) (j : Nat) : (markedTo k xss j).length = xss.length := by simp [markedTo]; omega
theorem marked_get {k : Int} {xss : List (List Int)} {j : Nat} {xs : List Int} (h : xss[j]? = some xs) : (markedTo k xss j)[j]? = some xs := by
  obtain ⟨hk, rfl⟩ := List.getElem?_eq_some_iff.1 h
  unfold markedTo
  rw [List.getElem?_append_right (by simp; omega)]
  simp [Nat.min_eq_left (Nat.le_of_lt hk)]
theorem marked_step {k : Int} {xss : List (List Int)} {j : Nat} {xs : List Int} (h : xss[j]? = some xs) : (markedTo k xss j).set j (upTo (k + total (xss.take j)) xs.length) = markedTo k xss (j + 1) := by
  obtain ⟨hk, e⟩ := List.getElem?_eq_some_iff.1 h
  unfold markedTo
  rw [List.take_succ_eq_append_getElem hk, upTos_append, List.set_append_right _ _ (by simp; omega)]
  have e1 : j - (upTos k (List.take j xss)).length = 0 := by simp; omega
  rw [e1, List.drop_eq_getElem_cons hk, List.set_cons_zero, e]
  simp [upTos]
theorem upTos_get {xss : List (List Int)} {j : Nat} {k : Int} {xs : List Int} (h : xss[j]? = some xs) : (upTos k xss)[j]? = some (upTo (k + total (xss.take j)) xs.length) := by
  obtain ⟨hk, e⟩ := List.getElem?_eq_some_iff.1 h
  conv => lhs; rw [← List.take_append_drop j xss, upTos_append]
  rw [List.getElem?_append_right (by simp; omega)]
  have e1 : j - (upTos k (List.take j xss)).length = 0 := by simp; omega
  rw [e1, List.drop_eq_getElem_cons hk, e]
  simp [upTos]

set_option maxHeartbeats 400000 in
theorem markIntSS {S : Nat → Prop} (v : Value) (xss : List (List Int)) (k : Int) (w : World) (h : Blocks S w v xss) (hk0 : 0 ≤ k) (hk1 : k ≤ 576460752303423488) (hr : total xss ≤ 576460752303423488) :
    Calls Try.prog 11 #[v, .int .i64 k] w fun e w' => e = .returned (.int .i64 (k + total xss)) ∧ Chg S w w' ∧ Blocks S w' v (upTos k xss) := by
  have h0 := h
  obtain ⟨a, c, rfl, h1, h2⟩ := h.shape
  unfold maxLen at h2
  go_enter Try.func11, Try.ntmps11
  go_wp2
  go_loopw [1, 5] (fun q i wr => ∃ (j : Nat), j ≤ xss.length ∧ i = .int .i64 j ∧ q = .int .i64 (k + total (xss.take j)) ∧ Chg S w wr ∧ Blocks S wr (.slice a xss.length c) (markedTo k xss j)) (fun _ i _ => xss.length - (intOf i).toNat)
  case atStart => exact ⟨0, Nat.zero_le _, rfl, by simp [total], Chg.refl _ _, by simpa [markedTo, upTos] using h0⟩
  case round =>
    obtain ⟨j, hj, rfl, rfl, hw, hb⟩ := hrel
    rename World => wr
    by_cases hlt : j < xss.length
    · obtain ⟨xs, hx⟩ := get_of hlt
      obtain ⟨b, cb, u, e1, hS, hlb, hcell, hu⟩ := hb.at (marked_get hx)
      rw [length_marked] at e1
      simp only [Value.slice.injEq] at e1
      obtain ⟨rfl, -, rfl⟩ := e1
      have ht := total_take hx
      have htl := total_le xss (j + 1)
      have hst := marked_step (k := k) hx
      have hgm := marked_get (k := k) hx
      have Ht := Lib.hid ht
      have Hst := Lib.hid hst
      have Hx := Lib.hid hx
      have Hgm := Lib.hid hgm
      have hxl : total (xss.take j) + xs.length ≤ total xss := by omega
      clear ht hst hx htl hgm
      generalize hq : total (xss.take j) = q at *
      have Hq := Lib.hid hq
      clear hq
      go_wp2_with fail
      refine (markInts u xs (k + q) wr hu (by omega) (by omega) (by omega)).mono ?_
      rintro e w1 ⟨rfl, c1, o1⟩
      go_wp2_with fail
      have hub := hu.lt
      go_roundw
      case rel =>
        refine ⟨j + 1, by omega, by go_num, ?_, hw.step c1 (fun i _ hi => (hub i hi).2.1), ?_⟩
        · rw [Ht.out]; go_num
        · rw [← Hst.out]
          exact hb.put (by rw [length_marked]) (by rw [length_marked]; exact hlt) hcell c1 (fun S' ho => o1.mono' (fun j hj => ho.1.2 j hj))
      case measure => simp [intOf]; omega
    · have ej : j = xss.length := by omega
      have e1 : markedTo k xss j = upTos k xss := by rw [ej]; simp [markedTo]
      have e2 : xss.take j = xss := List.take_of_length_le (by omega)
      rw [e1] at hb
      rw [e2]
      clear e1 e2 ej
      go_wp2_with fail
      go_ret
      exact ⟨rfl, hw, hb⟩

set_option maxHeartbeats 400000 in
theorem heldIntSS {S : Nat → Prop} (v : Value) (xss : List (List Int)) (k : Int) (w : World) (h : Blocks S w v (upTos k xss)) (hk0 : 0 ≤ k) (hk1 : k ≤ 576460752303423488) (hr : total xss ≤ 576460752303423488) :
    Calls Try.prog 12 #[v, .int .i64 k] w fun e w' => e = .returned (.int .i64 (k + total xss)) ∧ w = w' := by
  have h0 := h
  obtain ⟨a, c, rfl, h1, h2⟩ := h.shape
  unfold maxLen at h2
  rw [length_upTos] at h1 ⊢
  go_enter Try.func12, Try.ntmps12
  go_wp2
  go_loop [1, 5] (fun q i => ∃ (j : Nat), j ≤ xss.length ∧ i = .int .i64 j ∧ q = .int .i64 (k + total (xss.take j))) (fun _ i => xss.length - (intOf i).toNat)
  case atStart => exact ⟨0, Nat.zero_le _, rfl, by simp [total]⟩
  case round =>
    obtain ⟨j, hj, rfl, rfl⟩ := hrel
    by_cases hlt : j < xss.length
    · obtain ⟨xs, hx⟩ := get_of hlt
      obtain ⟨b, cb, u, e1, hS, hlb, hcell, hu⟩ := h0.at (upTos_get (k := k) hx)
      rw [length_upTos] at e1
      simp only [Value.slice.injEq] at e1
      obtain ⟨rfl, -, rfl⟩ := e1
      have ht := total_take hx
      have htl := total_le xss (j + 1)
      have Ht := Lib.hid ht
      have hxl : total (xss.take j) + xs.length ≤ total xss := by omega
      clear ht htl hx
      generalize hq : total (xss.take j) = q at *
      have Hq := Lib.hid hq
      clear hq
      go_wp2_with fail
      refine (heldInts u xs.length (k + q) w hu.nums (by omega) (by omega) (by omega)).mono ?_
      rintro e w1 ⟨rfl, rfl⟩
      have hnn : ¬ (k + (q : Int) + (xs.length : Int) < 0) := by omega
      go_wp2_with fail
      go_round
      case rel => exact ⟨j + 1, by omega, by go_num, by rw [Ht.out]; go_num⟩
      case measure => simp [intOf]; omega
    · have e2 : xss.take j = xss := List.take_of_length_le (by omega)
      rw [e2]
      clear e2
      go_wp2_with fail
      go_ret
      exact ⟨rfl, rfl⟩

end Go.Proofs.Ytepoaoimappcbaa
