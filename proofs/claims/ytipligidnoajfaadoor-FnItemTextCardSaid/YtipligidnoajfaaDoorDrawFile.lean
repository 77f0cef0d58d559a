/- Walk of l91File, which draws the bytes of a file. -/
import Derived.Test.YtipligidnoajfaaDoorDraw
import Derived.Deep.LoopGhost
import Derived.Laws.OwnMore
namespace Go.Proofs.YtipligidnoajfaaDoor
open Go.RowKit

theorem OwnNums.pick {k : IntKind} {e : TypeId} {S : Nat → Prop} {w w' : World} {v : Value} {xs : List Int} {g : Nat} (h : OwnNums k e S w v xs) (c : Chg (fun j => j = g) w w') (hg : ∀ j, S j → j ≠ g) : OwnNums k e S w' v xs :=
  h.chg c fun j _ hs e => hg j hs e

def NumsPost (g m d top : Nat) (w : World) (e : Ending) (w' : World) : Prop :=
  ∃ v xs, e = .returned v ∧ xs.length ≤ top ∧ OwnInts 3 (fun k => w.heap.size ≤ k) w' v xs ∧ Rd g w' (m + d) ∧ Chg (fun k => k = g) w w'

theorem made33 : (madeCells (Value.int .i64 0).cells (33 * 1)).toList = (List.replicate 33 (0 : Int)).map (Value.int .i64) := by
  rw [List.map_replicate]
  exact toList_madeCells_one _ 33

theorem small8 {P : Int → Prop} (h0 : P 0) (h1 : P 1) (h2 : P 2) (h3 : P 3) (h4 : P 4) (h5 : P 5) (h6 : P 6) (h7 : P 7) {r : Int} (hr0 : 0 ≤ r) (hr1 : r < 8) : P r := by
  have : r = 0 ∨ r = 1 ∨ r = 2 ∨ r = 3 ∨ r = 4 ∨ r = 5 ∨ r = 6 ∨ r = 7 := by omega
  rcases this with rfl | rfl | rfl | rfl | rfl | rfl | rfl | rfl <;> assumption

set_option maxRecDepth 4000 in
set_option maxHeartbeats 1000000 in
theorem l91File (g m : Nat) (w : World) (h : Rd g w m) (hm : m ≤ 900000) :
    Calls Tryd.prog 30 #[.pointer (some ⟨g, 0, none⟩)] w (NumsPost g m 200 33 w) := by
  have hg := h.lt
  have c0 : New w ((w.alloc (.cells #[] 3)).alloc (.cells #[.int .i64 0, .int .i64 1, .int .i64 7, .int .i64 8, .int .i64 9, .int .i64 16, .int .i64 17, .int .i64 32] 3)) := ((New.refl w).alloc _).alloc _
  have o0 : OwnInts 3 (fun k => k = w.heap.size) ((w.alloc (.cells #[] 3)).alloc (.cells #[.int .i64 0, .int .i64 1, .int .i64 7, .int .i64 8, .int .i64 9, .int .i64 16, .int .i64 17, .int .i64 32] 3)) (.slice (some ⟨w.heap.size, 0, none⟩) 0 0) [] := (OwnNums.empty _ _ _).new ((New.refl _).alloc _)
  go_enter Tryd.func30, Tryd.ntmps30
  go_wp2_with fail
  refine (pick g m 8 _ (h.new c0) (by omega) (by omega) (by omega)).mono ?_
  rintro e w1 ⟨r0, rfl, hr0, hr1, h1, c1⟩
  have hcell : ∃ n : Nat, w1.cell? ⟨w.heap.size + 1, r0.toNat, none⟩ = some (.int .i64 n) ∧ n ≤ 33 := by
    have hb : ((w.alloc (.cells #[] 3)).alloc (.cells #[.int .i64 0, .int .i64 1, .int .i64 7, .int .i64 8, .int .i64 9, .int .i64 16, .int .i64 17, .int .i64 32] 3)).heap[w.heap.size + 1]? = some (.cells #[.int .i64 0, .int .i64 1, .int .i64 7, .int .i64 8, .int .i64 9, .int .i64 16, .int .i64 17, .int .i64 32] 3) := by
      have := heap_alloc_new (w.alloc (.cells #[] 3)) (.cells #[.int .i64 0, .int .i64 1, .int .i64 7, .int .i64 8, .int .i64 9, .int .i64 16, .int .i64 17, .int .i64 32] 3)
      simpa using this
    have hb1 := c1.heap hb (fun e => by omega)
    have hall : ∀ (i : Nat) (n : Nat), (#[Value.int .i64 0, .int .i64 1, .int .i64 7, .int .i64 8, .int .i64 9, .int .i64 16, .int .i64 17, .int .i64 32] : Array Value)[i]? = some (.int .i64 n) → w1.cell? ⟨w.heap.size + 1, i, none⟩ = some (.int .i64 n) := by
      intro i n hi
      simp only [World.cell?, hb1]
      exact hi
    refine small8 (P := fun r => ∃ n : Nat, w1.cell? ⟨w.heap.size + 1, r.toNat, none⟩ = some (.int .i64 n) ∧ n ≤ 33) ?_ ?_ ?_ ?_ ?_ ?_ ?_ ?_ hr0 hr1
    · exact ⟨0, hall 0 0 rfl, by omega⟩
    · exact ⟨1, hall 1 1 rfl, by omega⟩
    · exact ⟨7, hall 2 7 rfl, by omega⟩
    · exact ⟨8, hall 3 8 rfl, by omega⟩
    · exact ⟨9, hall 4 9 rfl, by omega⟩
    · exact ⟨16, hall 5 16 rfl, by omega⟩
    · exact ⟨17, hall 6 17 rfl, by omega⟩
    · exact ⟨32, hall 7 32 rfl, by omega⟩
  obtain ⟨n0, hcell, hn0⟩ := hcell
  have o1 := o0.pick c1 (by intro j hj; omega)
  have cc1 : Chg (fun k => k = g) w w1 := (c0.chg _).trans c1
  clear c0 c1 o0
  go_wp2_with fail
  refine (pick g (m + 1) 3 _ h1 (by omega) (by omega) (by omega)).mono ?_
  rintro e w2 ⟨r1, rfl, hr10, hr11, h2, c2⟩
  have o2 := o1.pick c2 (by intro j hj; omega)
  have cc2 := cc1.trans c2
  clear o1 c2 cc1 h1 hcell
  go_upto_if 15 with fail
  go_cut [4] (fun s4 wx => ∃ n : Nat, s4 = .int .i64 n ∧ n ≤ 33 ∧ Chg (fun k => k = g) w wx ∧ Rd g wx (m + 3) ∧ OwnInts 3 (fun k => k = w.heap.size) wx (.slice (some ⟨w.heap.size, 0, none⟩) 0 0) [])
  case first =>
    by_cases hq : r1 = 0
    · subst hq
      go_wp2_with fail
      refine (pick g (m + 2) 33 _ h2 (by omega) (by omega) (by omega)).mono ?_
      rintro e w3 ⟨q1, rfl, hq10, hq11, h3, c3⟩
      go_wp2
      go_meet
      case rel => exact ⟨q1.toNat, by rw [Int.toNat_of_nonneg (by omega)], by omega, cc2.trans c3, h3, o2.pick c3 (by intro j hj; omega)⟩
    · have hq' : (r1 == 0) = false := by simp [hq]
      go_wp2
      go_meet
      case rel => exact ⟨n0, rfl, hn0, cc2, h2.mono (by omega), o2⟩
  case rest =>
    clear cc2 o2 h2 hn0
    obtain ⟨n, rfl, hn, c4, h4, o4⟩ := hcut
    go_wp2_with fail
    refine (pick g (m + 3) 3 _ h4 (by omega) (by omega) (by omega)).mono ?_
    rintro e w5 ⟨q, rfl, hq0, hq1, h5, c5⟩
    have o5 := o4.pick c5 (by intro j hj; omega)
    have cc5 := c4.trans c5
    clear c4 h4 o4 c5
    go_wp2_with fail
    go_loopg [3, 6] n (fun gk v i wr => ∃ (k : Nat) (xs : List Int), gk = n - k ∧ k ≤ n ∧ i = .int .i64 k ∧ xs.length = k ∧ OwnInts 3 (fun k => w.heap.size ≤ k) wr v xs ∧ Rd g wr (m + 4 + 2 * k) ∧ Chg (fun k => k = g) w wr)
    case atStart => exact ⟨0, [], by omega, by omega, rfl, rfl, o5.mono (by intro j _ hj; omega), h5, cc5⟩
    case round =>
      obtain ⟨k, xs, hgk, hk, rfl, hl, ho, hr, hc⟩ := hrel
      have Hgk := Lib.hid hgk
      have Hl := Lib.hid hl
      clear hgk hl
      by_cases hlt : k < n
      · go_wp2_with fail
        refine (pick g (m + 4 + 2 * k) 2 _ hr (by omega) (by omega) (by omega)).mono ?_
        rintro e w6 ⟨a, rfl, ha0, ha1, h6, c6⟩
        obtain ⟨t, ht, ht0, ht1⟩ : ∃ t : Int, wrap64 ((k : Int) / 8 * a) = t ∧ 0 ≤ t ∧ t ≤ 8 := by
          have ha : a = 0 ∨ a = 1 := by omega
          rcases ha with rfl | rfl
          · exact ⟨0, by rw [Int.mul_zero]; exact IntWalk.wrap64_in _ (by omega), by omega, by omega⟩
          · exact ⟨(k : Int) / 8, by rw [Int.mul_one]; exact IntWalk.wrap64_in _ (by omega), by omega, by omega⟩
        go_wp2_with fail
        refine (pick g (m + 4 + 2 * k + 1) 6 _ h6 (by omega) (by omega) (by omega)).mono ?_
        rintro e w7 ⟨b, rfl, hb0, hb1, h7, c7⟩
        have ho7 := (ho.pick c6 (by intro j hj; omega)).pick c7 (by intro j hj; omega)
        have cc7 := (hc.trans c6).trans c7
        clear ho hc c6 c7 hr h6 ht
        go_wp2_with (at_builtin; refine wpNums_append slInt _ _ rfl rfl _ xs _ _ rfl ho7 (I64.mk (by omega) (by omega)) rfl (by rw [Hl.out]; omega) (by decide) ?_; intro v' w8 ho8 hc8)
        have hbl : ∀ j, u3.ownBlock = some j → w.heap.size ≤ j ∧ j < w7.heap.size := fun j hj => ⟨(ho7.lt j hj).2, (ho7.lt j hj).1⟩
        have hsz : w.heap.size ≤ w7.heap.size := cc7.size
        go_roundg (n - (k + 1))
        case measure => rw [Hgk.out]; omega
        case rel =>
          refine ⟨k + 1, _, rfl, by omega, by go_num, by rw [List.length_append, Hl.out]; rfl, ho8.mono fun j _ hj => ?_, (h7.chg hc8 (fun j hj => by have := (hbl j hj).1; omega)).mono (by omega), cc7.step hc8 (fun j hj hjj => by have := (hbl j hjj).1; omega)⟩
          rcases hj with hj | hj
          · exact (hbl j hj).1
          · omega
      · have ek : k = n := by omega
        have hxl : xs.length ≤ 33 := by rw [Hl.out]; omega
        have hr' := hr.mono (show m + 4 + 2 * k ≤ m + 80 by omega)
        clear hr
        go_wp2_with fail
        refine (pick g (m + 80) 40 _ hr' (by omega) (by omega) (by omega)).mono ?_
        rintro e w8 ⟨p, rfl, hp0, hp1, h8, c8⟩
        have o8 := ho.pick c8 (by intro j hj; omega)
        have cc8 := hc.trans c8
        clear ho hc c8 hr'
        by_cases hz : p = 0
        · subst hz
          by_cases hn0 : n = 0
          · have hnn : ¬ (0 < (n : Int)) := by omega
            go_wp2_with fail
            go_ret
            exact ⟨_, xs, rfl, hxl, o8, h8.mono (by omega), cc8⟩
          · have hnn : 0 < (n : Int) := by omega
            obtain ⟨gb, cap, ev, hSg, hgl, _, _⟩ := o8.1.head (by rw [Hl.out]; omega)
            subst ev
            have hln : xs.length = n := by rw [Hl.out, ek]
            have Hln := Lib.hid hln
            clear hln ek
            go_wp2_with fail
            refine (pick g _ n _ h8 (by omega) (by omega) (by omega)).mono ?_
            rintro e w9 ⟨t, rfl, ht0, ht1, h9, c9⟩
            have o9 := o8.pick c9 (by intro j hj; omega)
            have cc9 := cc8.trans c9
            obtain ⟨tn, rfl⟩ : ∃ tn : Nat, t = tn := ⟨t.toNat, by omega⟩
            have htl : tn < xs.length := by rw [Hln.out]; omega
            obtain ⟨x0, hx0⟩ := get_of htl
            have hc0 := o9.1.cellAt (i := tn) (u := .int .i64 x0) (by simp [hx0])
            have hf0 := o9.1.frozenAt tn
            clear hx0 o8 cc8 c9 h8
            go_wp2_with fail
            go_ret
            refine ⟨_, xs.set tn 256, rfl, by simpa using hxl, ⟨?_, ?_⟩, ?_, cc9.setCell _ ?_⟩
            · rw [List.length_set, List.map_set]
              exact o9.1.set tn _
            · intro x hx
              rcases List.mem_or_eq_of_mem_set hx with hx | rfl
              · exact o9.2 x hx
              · exact I64.mk (by omega) (by omega)
            · exact (h9.chg ((Chg.refl (fun j => j = gb) _).setCell (a := ⟨gb, tn, none⟩) _ (fun _ => rfl)) (fun j hj => by omega)).mono (by omega)
            · intro hb
              exact absurd hb (by simp; exact hSg)
        · have hz' : (p == 0) = false := by simp [hz]
          by_cases ho : p = 1
          · subst ho
            go_wp2_with (at_make; refine wpRow_make slInt _ _ rfl rfl .i64 .i64 33 rfl rfl (by omega) (by unfold maxLen; omega) ?_; intro w9 hrow hn9 hlt9)
            go_ret
            have hs8 := cc8.size
            have er := made33
            have hr2 : Row 3 1 (fun k => w.heap.size ≤ k) w9 (.slice (some ⟨w8.heap.size, 0, none⟩) 33 33) (List.replicate 33 (0 : Int)).length ((List.replicate 33 (0 : Int)).map (Value.int .i64)) := by
              rw [List.length_replicate, ← er]
              exact hrow.mono (fun j _ hj => by omega)
            refine ⟨_, List.replicate 33 0, rfl, by simp, ⟨hr2, fun x hx => ?_⟩, (h8.new hn9).mono (by omega), cc8.trans (hn9.chg _)⟩
            rw [List.eq_of_mem_replicate hx]
            exact I64.mk (by omega) (by omega)
          · have ho' : (p == 1) = false := by simp [ho]
            go_wp2_with fail
            go_ret
            exact ⟨_, xs, rfl, hxl, o8, h8.mono (by omega), cc8⟩

def DrawnNums (top : Nat) (w : World) (e : Ending) (w' : World) : Prop :=
  ∃ v xs, e = .returned v ∧ xs.length ≤ top ∧ OwnInts 3 (fun k => w.heap.size ≤ k) w' v xs ∧ New w w'

end Go.Proofs.YtipligidnoajfaaDoor
