/- Walks of l91Block, l91Id and the draws of stores with a block or an id. -/
import Derived.Test.YtiakljmdongplaaDrawStore
namespace Go.Proofs.Ytiakljmdongplaa
open Go.RowKit

def BlockAt (g m : Nat) (w : World) (e : Ending) (w' : World) : Prop :=
  ∃ v xs, e = .returned v ∧ xs.length ≤ 16 ∧ Ints (fun j => w.heap.size ≤ j) w' v xs ∧ Rd g w' (m + 100) ∧ Chg (fun k => k = g) w w'

set_option maxRecDepth 4000 in
set_option maxHeartbeats 2000000 in
theorem l91Block (g m : Nat) (w : World) (h : Rd g w m) (hm : m ≤ 900000) :
    Calls Try.prog 62 #[.pointer (some ⟨g, 0, none⟩)] w (BlockAt g m w) := by
  have hg := h.lt
  go_enter Try.func62, Try.ntmps62
  go_wp2_with fail
  have n0 : New w (w.alloc (.cells #[] 3)) := (New.refl w).alloc _
  have o0 : OwnInts 3 (fun j => w.heap.size ≤ j) (w.alloc (.cells #[] 3)) (.slice (some ⟨w.heap.size, 0, none⟩) 0 0) [] := (OwnNums.empty .i64 3 w).mono (fun j _ hj => by omega)
  refine (pick g m 8 _ (h.new n0) (by omega) (by omega) (by omega)).mono ?_
  rintro e w1 ⟨n0', rfl, hn0, hn1, h1, c1⟩
  have o1 := o0.chg c1 (fun j _ hj e => by omega)
  have cc1 := (n0.chg (fun k => k = g)).trans c1
  obtain ⟨n, rfl⟩ : ∃ n : Nat, n0' = (n : Int) - 1 := ⟨(n0' + 1).toNat, by omega⟩
  have hn : 1 ≤ n ∧ n ≤ 8 := by omega
  have hne : 1 + ((n : Int) - 1) = (n : Int) := by omega
  clear n0 o0 c1
  go_wp2_with fail
  clear hne
  go_loopg [3, 5] n (fun gk v i wr => ∃ (k : Nat) (xs : List Int), gk = n - k ∧ k ≤ n ∧ i = .int .i64 k ∧ xs.length = k ∧ OwnInts 3 (fun j => w.heap.size ≤ j) wr v xs ∧ Rd g wr (m + 1 + 4 * k) ∧ Chg (fun k => k = g) w wr)
  case atStart => exact ⟨0, [], by omega, by omega, rfl, rfl, o1, h1, cc1⟩
  case round =>
    obtain ⟨k, xs, hgk, hk, rfl, hl, ho, hr, hc⟩ := hrel
    have Hgk := Lib.hid hgk
    have Hl := Lib.hid hl
    clear hgk hl o1 h1 cc1
    by_cases hlt : k < n
    · rcases Nat.eq_zero_or_pos k with hk0 | hk0
      · have hk0' : ¬ (0 : Int) < (k : Int) := by omega
        go_wp2_with fail
        refine (pick g _ 3 _ hr (by omega) (by omega) (by omega)).mono ?_
        rintro e w4 ⟨a, rfl, ha0, ha1, h4, c4⟩
        have ho4 := ho.chg c4 (fun j _ hj e => by omega)
        have cc4 := hc.trans c4
        clear c4
        go_wp2_with fail
        refine (pick g _ 256 _ h4 (by omega) (by omega) (by omega)).mono ?_
        rintro e w5 ⟨b, rfl, hb0, hb1, h5, c5⟩
        have ho5 := ho4.chg c5 (fun j _ hj e => by omega)
        have cc5 := cc4.trans c5
        clear ho4 cc4 c5 h4
        go_wp2_with fail
        have n6 : New w5 (w5.alloc (.cells #[.int .i64 a, .int .i64 b] 3)) := (New.refl _).alloc _
        refine (pick g _ 2 _ (h5.new n6) (by omega) (by omega) (by omega)).mono ?_
        rintro e w7 ⟨q, rfl, hq0, hq1, h7, c7⟩
        obtain ⟨x, hx, kx⟩ := lit_cell [a, b] c7 h5.lt hq0 (by simpa using hq1)
        have hx' : I64 x := by simp at hx; rcases hx with rfl | rfl <;> exact I64.mk (by omega) (by omega)
        have ho7 := (ho5.new n6).chg c7 (fun j _ hj e => by omega)
        have cc7 := (cc5.trans (n6.chg _)).trans c7
        clear ho5 cc5 c7 h5 n6 hx
        go_wp2_with (at_builtin; refine wpNums_append slInt _ _ rfl rfl _ xs x _ rfl ho7 hx' rfl (by rw [Hl.out]; omega) (by decide) ?_; intro v' w8 ho8 hc8)
        have hbl : ∀ j, u3.ownBlock = some j → w.heap.size ≤ j ∧ j < w7.heap.size := fun j hj => ⟨(ho7.lt j hj).2, (ho7.lt j hj).1⟩
        have hsz : w.heap.size ≤ w7.heap.size := cc7.size
        go_roundg (n - (k + 1))
        case measure => rw [Hgk.out]; omega
        case rel =>
          refine ⟨k + 1, _, rfl, by omega, by go_num, by rw [List.length_append, Hl.out]; rfl, ho8.mono fun j _ hj => ?_, (h7.chg hc8 (fun j hj => by have := (hbl j hj).1; omega)).mono (by omega), cc7.step hc8 (fun j hj hjj => by have := (hbl j hjj).1; omega)⟩
          rcases hj with hj | hj
          · exact (hbl j hj).1
          · omega
      · have hk0' : (0 : Int) < (k : Int) := by omega
        go_wp2_with fail
        refine (pick g _ 2 _ hr (by omega) (by omega) (by omega)).mono ?_
        rintro e w3 ⟨t, rfl, ht0, ht1, h3, c3⟩
        have ho3 := ho.chg c3 (fun j _ hj e => by omega)
        have cc3 := hc.trans c3
        clear ho hc c3 hr
        by_cases hq : t = 0
        · subst hq
          obtain ⟨x, hx⟩ := get_of (show k - 1 < xs.length by rw [Hl.out]; omega)
          have hx' := ho3.2 x (List.mem_of_getElem? hx)
          obtain ⟨gb, cap, rfl, hS, hgl, x1, x2⟩ := ho3.1.head (by rw [Hl.out]; omega)
          unfold maxLen at x2
          have kx := ho3.1.cellAt (i := k - 1) (u := .int .i64 x) (by simp [hx])
          have hki : (((k : Int) - 1)).toNat = k - 1 := by omega
          have hkl : (k : Int) - 1 < (xs.length : Int) := by rw [Hl.out]; omega
          clear hx
          go_wp2_with (at_builtin; refine wpNums_append slInt _ _ rfl rfl _ xs x _ rfl ho3 hx' rfl (by rw [Hl.out]; omega) (by decide) ?_; intro v' w8 ho8 hc8)
          have hbl : ∀ j, (Value.slice (some ⟨gb, 0, none⟩) xs.length cap).ownBlock = some j → w.heap.size ≤ j ∧ j < w3.heap.size := fun j hj => ⟨(ho3.lt j hj).2, (ho3.lt j hj).1⟩
          have hsz : w.heap.size ≤ w3.heap.size := cc3.size
          go_roundg (n - (k + 1))
          case measure => rw [Hgk.out]; omega
          case rel =>
            refine ⟨k + 1, _, rfl, by omega, by go_num, by rw [List.length_append, Hl.out]; rfl, ho8.mono fun j _ hj => ?_, (h3.chg hc8 (fun j hj => by have := (hbl j hj).1; omega)).mono (by omega), cc3.step hc8 (fun j hj hjj => by have := (hbl j hjj).1; omega)⟩
            rcases hj with hj | hj
            · exact (hbl j hj).1
            · omega
        · have hq' : (t == 0) = false := by simp [hq]
          go_wp2_with fail
          refine (pick g _ 3 _ h3 (by omega) (by omega) (by omega)).mono ?_
          rintro e w4 ⟨a, rfl, ha0, ha1, h4, c4⟩
          have ho4 := ho3.chg c4 (fun j _ hj e => by omega)
          have cc4 := cc3.trans c4
          clear c4
          go_wp2_with fail
          refine (pick g _ 256 _ h4 (by omega) (by omega) (by omega)).mono ?_
          rintro e w5 ⟨b, rfl, hb0, hb1, h5, c5⟩
          have ho5 := ho4.chg c5 (fun j _ hj e => by omega)
          have cc5 := cc4.trans c5
          clear ho4 cc4 c5 h4
          go_wp2_with fail
          have n6 : New w5 (w5.alloc (.cells #[.int .i64 a, .int .i64 b] 3)) := (New.refl _).alloc _
          refine (pick g _ 2 _ (h5.new n6) (by omega) (by omega) (by omega)).mono ?_
          rintro e w7 ⟨q, rfl, hq0, hq1, h7, c7⟩
          obtain ⟨x, hx, kx⟩ := lit_cell [a, b] c7 h5.lt hq0 (by simpa using hq1)
          have hx' : I64 x := by simp at hx; rcases hx with rfl | rfl <;> exact I64.mk (by omega) (by omega)
          have ho7 := (ho5.new n6).chg c7 (fun j _ hj e => by omega)
          have cc7 := (cc5.trans (n6.chg _)).trans c7
          clear ho5 cc5 c7 h5 n6 hx
          go_wp2_with (at_builtin; refine wpNums_append slInt _ _ rfl rfl _ xs x _ rfl ho7 hx' rfl (by rw [Hl.out]; omega) (by decide) ?_; intro v' w8 ho8 hc8)
          have hbl : ∀ j, u3.ownBlock = some j → w.heap.size ≤ j ∧ j < w7.heap.size := fun j hj => ⟨(ho7.lt j hj).2, (ho7.lt j hj).1⟩
          have hsz : w.heap.size ≤ w7.heap.size := cc7.size
          go_roundg (n - (k + 1))
          case measure => rw [Hgk.out]; omega
          case rel =>
            refine ⟨k + 1, _, rfl, by omega, by go_num, by rw [List.length_append, Hl.out]; rfl, ho8.mono fun j _ hj => ?_, (h7.chg hc8 (fun j hj => by have := (hbl j hj).1; omega)).mono (by omega), cc7.step hc8 (fun j hj hjj => by have := (hbl j hjj).1; omega)⟩
            rcases hj with hj | hj
            · exact (hbl j hj).1
            · omega
    · obtain rfl : k = n := by omega
      go_wp2_with fail
      refine (pick g _ 30 _ hr (by omega) (by omega) (by omega)).mono ?_
      rintro e w3 ⟨p, rfl, hp0, hp1, h3, c3⟩
      have ho3 := ho.chg c3 (fun j _ hj e => by omega)
      have cc3 := hc.trans c3
      have z3 := cc3.size
      clear ho hc c3 hr
      obtain ⟨gb, cap, rfl, hS, hgl, x1, x2⟩ := ho3.1.head (by rw [Hl.out]; omega)
      unfold maxLen at x2
      have hx16 : xs.length ≤ 16 := by rw [Hl.out]; omega
      have hx1 : 1 ≤ xs.length := by rw [Hl.out]; omega
      by_cases hp : p = 0
      · subst hp
        go_wp2_with fail
        refine (pick g _ k _ h3 (by omega) (by omega) (by omega)).mono ?_
        rintro e w5 ⟨t5, rfl, ht50, ht51, h5, c5⟩
        have ho5 := ho3.chg c5 (fun j _ hj e => by omega)
        have cc5 := cc3.trans c5
        have hg5 := h5.lt
        clear ho3 cc3 c5 h3
        go_wp2_with fail
        have n6 : New w5 (w5.alloc (.cells #[.int .i64 (-1), .int .i64 256] 3)) := (New.refl _).alloc _
        refine (pick g _ 2 _ (h5.new n6) (by omega) (by omega) (by omega)).mono ?_
        rintro e w7 ⟨t7, rfl, ht70, ht71, h7, c7⟩
        obtain ⟨x, hx, kx⟩ := lit_cell [-1, 256] c7 hg5 ht70 (by simpa using ht71)
        have hx' : I64 x := by simp at hx; rcases hx with rfl | rfl <;> exact I64.mk (by omega) (by omega)
        have ho7 := (ho5.new n6).chg c7 (fun j _ hj e => by omega)
        have cc7 := (cc5.trans (n6.chg _)).trans c7
        obtain ⟨tn, rfl⟩ : ∃ tn : Nat, t5 = tn := ⟨t5.toNat, by omega⟩
        have htl : tn < xs.length := by rw [Hl.out]; omega
        obtain ⟨y, hy⟩ := get_of htl
        have k0 := ho7.1.cellAt (i := tn) (u := .int .i64 y) (by simp [hy])
        have k1 := ho7.1.frozenAt tn
        have r8 := ho7.1.set tn (.int .i64 x)
        have cs := chg_set1 w7 gb tn (.int .i64 x)
        have hfit := ho7.2
        clear ho7 c7 n6 hx hy h5 ho5
        go_wp2_with fail
        go_ret
        have o8 : OwnInts 3 (fun j => w.heap.size ≤ j) (w7.setCell ⟨gb, tn, none⟩ (.int .i64 x)) (.slice (some ⟨gb, 0, none⟩) xs.length cap) (xs.set tn x) := by
          refine ⟨by rw [List.length_set, List.map_set]; exact r8, fun z hz => ?_⟩
          rcases List.mem_or_eq_of_mem_set hz with hz | rfl
          · exact hfit z hz
          · exact hx'
        have o9 := OwnNums.nums o8
        exact ⟨_, xs.set tn x, rfl, by simpa using hx16, o9, (h7.chg cs (fun j hj => by omega)).mono (by omega), cc7.step cs (fun j hj e => by omega)⟩
      · have hp' : (p == 0) = false := by simp [hp]
        by_cases hp1 : p = 1
        · subst hp1
          have hlit := lit_ints w3 [1, 2, 3, 4, 5, 6, 7, 8] (by intro x hx; simp at hx; rcases hx with rfl | rfl | rfl | rfl | rfl | rfl | rfl | rfl <;> exact I64.mk (by omega) (by omega)) (by simp)
          have Hlit := Lib.hid hlit
          have nl : New w3 (w3.alloc (.cells #[.int .i64 1, .int .i64 2, .int .i64 3, .int .i64 4, .int .i64 5, .int .i64 6, .int .i64 7, .int .i64 8] 3)) := (New.refl _).alloc _
          have Nl := Lib.hid nl
          clear hlit nl
          go_wp2_with first
            | (at_builtin
               refine wpRow_append slInt _ _ rfl rfl (.slice (some ⟨gb, 0, none⟩) xs.length cap) xs.length (xs.map (Value.int .i64)) rfl (ho3.1.new Nl.out) (some ⟨w3.heap.size, 0, none⟩) 8 8 ([1, 2, 3, 4, 5, 6, 7, 8].map (Value.int .i64)) rfl (Nums.src (OwnNums.nums Hlit.out)) (oneCells _ _) ?_ ?_ ?_
               · unfold maxLen; omega
               · omega
               intro v5 w5 o5 c5
               have n5 := (Nl.out.chg (fun j => j = gb)).trans (c5.mono (fun j _ e => by have e' := own_some e; simp only at e'; exact e'))
               have z5 := n5.size
               have o5' : OwnInts 3 (fun j => w.heap.size ≤ j) w5 v5 (xs ++ [1, 2, 3, 4, 5, 6, 7, 8]) := by
                 refine OwnNums.of_append (o5.mono (fun j _ hj => ?_)) ho3.2 Hlit.out.2
                 rcases hj with hj | hj
                 · have e' := own_some hj; simp only at e'; omega
                 · simp at hj; omega
               obtain ⟨a5, d5, e5, y1, y2⟩ := o5'.shape
               have hlen5 : (xs ++ [1, 2, 3, 4, 5, 6, 7, 8]).length = xs.length + 8 := by simp
               rw [hlen5] at e5 y1
               unfold maxLen at y2
               have oN := OwnNums.nums o5'
               subst e5
               have h5 := h3.chg n5 (fun j hj => by omega)
               have cc5 := cc3.step n5 (fun j hj e => by omega)
               clear o5 c5 ho3 cc3 h3)
            | fail
          refine (pick g _ 2 _ h5 (by omega) (by omega) (by omega)).mono ?_
          rintro e w7 ⟨q, rfl, hq0, hq1, h7, c7⟩
          have oN7 := oN.chg c7 (fun j _ hj e => by omega)
          have cc7 := cc5.trans c7
          obtain ⟨qn, rfl⟩ : ∃ qn : Nat, q = qn := ⟨q.toNat, by omega⟩
          have hqi : ((8 : Int) + (qn : Int)).toNat = 8 + qn := by omega
          clear c7 cc5
          go_wp2_with fail
          go_ret
          have oT := Nums.take (n := xs.length + 8) oN7 (8 + qn) (by omega)
          exact ⟨.slice a5 (8 + qn) d5, (xs ++ [1, 2, 3, 4, 5, 6, 7, 8]).take (8 + qn), rfl, by simp; omega, oT, h7.mono (by omega), cc7⟩
        · have hp1' : (p == 1) = false := by simp [hp1]
          by_cases hp2 : p = 2
          · subst hp2
            go_wp2_with fail
            go_ret
            exact ⟨_, [], rfl, by simp, OwnNums.nums ((OwnNums.empty .i64 3 w3).mono (fun j _ hj => by omega)), (h3.new ((New.refl _).alloc _)).mono (by omega), cc3.alloc _⟩
          · have hp2' : (p == 2) = false := by simp [hp2]
            go_wp2_with fail
            go_ret
            exact ⟨_, xs, rfl, hx16, OwnNums.nums ho3, h3.mono (by omega), cc3⟩

def IdAt (g m : Nat) (w : World) (e : Ending) (w' : World) : Prop :=
  ∃ x : Int, e = .returned (.int .i64 x) ∧ I64 x ∧ Rd g w' (m + 2) ∧ Chg (fun k => k = g) w w'

set_option maxRecDepth 4000 in
set_option maxHeartbeats 1000000 in
theorem l91Id (g m : Nat) (v : Value) (os : List HeldR) (w : World) (h : Rd g w m) (hm : m ≤ 900000) (ho : Helds (fun j => g < j) w v os) (hl : os.length ≤ 100) :
    Calls Try.prog 52 #[.pointer (some ⟨g, 0, none⟩), v] w (IdAt g m w) := by
  have h0 := ho
  obtain ⟨-, a, c, rfl, h1, h2, -⟩ := ho
  unfold maxLen at h2
  by_cases hz : os.length = 0
  · have hz' : ¬ (0 : Int) < (os.length : Int) := by omega
    go_enter Try.func52, Try.ntmps52
    go_wp2_with fail
    refine (pick g _ 8 _ h (by omega) (by omega) (by omega)).mono ?_
    rintro e w1 ⟨x, rfl, hx0, hx1, h1, c1⟩
    go_wp2_with fail
    go_ret
    exact ⟨x, rfl, I64.mk (by omega) (by omega), h1.mono (by omega), c1⟩
  · have hz' : (0 : Int) < (os.length : Int) := by omega
    go_enter Try.func52, Try.ntmps52
    go_wp2_with fail
    refine (pick g _ 5 _ h (by omega) (by omega) (by omega)).mono ?_
    rintro e w1 ⟨t, rfl, ht0, ht1, h1', c1⟩
    have o1 := Recs.chg h0 c1 (fun j _ hj e => by omega)
    by_cases hq : 0 < t
    · go_wp2_with fail
      refine (pick g _ os.length _ h1' (by omega) (by omega) (by omega)).mono ?_
      rintro e w2 ⟨q, rfl, hq0, hq1, h2', c2⟩
      have o2 := Recs.chg o1 c2 (fun j _ hj e => by omega)
      obtain ⟨qn, rfl⟩ : ∃ qn : Nat, q = qn := ⟨q.toNat, by omega⟩
      obtain ⟨o, ho⟩ := get_of (show qn < os.length by omega)
      obtain ⟨b, off, c', u, e1, hb, k0, k1, k2, i0, i2, r2⟩ := Helds.at o2 ho
      simp only [Value.slice.injEq] at e1
      obtain ⟨rfl, -, rfl⟩ := e1
      clear ho
      go_wp2_with fail
      go_ret
      exact ⟨o.id, rfl, i0, h2'.mono (by omega), c1.trans c2⟩
    · go_wp2_with fail
      refine (pick g _ 8 _ h1' (by omega) (by omega) (by omega)).mono ?_
      rintro e w2 ⟨x, rfl, hx0, hx1, h2', c2⟩
      go_wp2_with fail
      go_ret
      exact ⟨x, rfl, I64.mk (by omega) (by omega), h2'.mono (by omega), c1.trans c2⟩

def DrawnId (w : World) (e : Ending) (w' : World) : Prop :=
  ∃ v os, ∃ x : Int, e = .returned (.tuple #[v, .int .i64 x]) ∧ os.length ≤ 16 ∧ Helds (fun j => w.heap.size ≤ j) w' v os ∧ I64 x ∧ New w w'

set_option maxRecDepth 4000 in
set_option maxHeartbeats 1000000 in
theorem drawStoreGet {S : Nat → Prop} (v : Value) (bs : List Int) (w : World) (h : Nums .u8 S w v bs) :
    Calls Try.prog 23 #[v] w (DrawnId w) := by
  go_enter Try.func23, Try.ntmps23
  go_wp2_with fail
  refine (l6Open v bs w h).mono ?_
  rintro e w1 ⟨g, rfl, hg, hr, n1⟩
  go_wp2_with fail
  refine (l91Store g 0 w1 hr (by omega)).mono ?_
  rintro e w2 ⟨v2, os, rfl, ⟨hl, -⟩, ho, hr2, c2⟩
  have hgl := hr.lt
  have ho' := Recs.mono ho (T := fun j => g < j) (fun j _ hj => by omega)
  obtain ⟨-, a, c, rfl, -⟩ := id ho
  have z1 := n1.size
  go_wp2_with fail
  refine (l91Id g _ _ os w2 hr2 (by omega) ho' (by omega)).mono ?_
  rintro e w3 ⟨x, rfl, hx, hr3, c3⟩
  have ho3 := (Recs.chg ho c3 (fun j _ hj e => by omega)).mono (T := fun j => w.heap.size ≤ j) (fun j _ hj => by omega)
  go_wp2_with fail
  go_ret2
  exact ⟨_, os, x, rfl, hl, ho3, hx, n1.trans_chg (c2.trans c3) (fun k hk e => by omega)⟩

set_option maxRecDepth 4000 in
theorem drawStoreKeep {S : Nat → Prop} (v : Value) (bs : List Int) (w : World) (h : Nums .u8 S w v bs) :
    Calls Try.prog 33 #[v] w (DrawnId w) := by
  go_enter Try.func33, Try.ntmps33
  go_wp2_with fail
  refine (drawStoreGet v bs w h).mono ?_
  rintro e w1 ⟨v1, os, x, rfl, hl, ho, hx, n1⟩
  obtain ⟨-, a, c, rfl, -⟩ := id ho
  go_wp2_with fail
  go_ret2
  exact ⟨_, os, x, rfl, hl, ho, hx, n1⟩
set_option maxRecDepth 4000 in
theorem drawStoreDrop {S : Nat → Prop} (v : Value) (bs : List Int) (w : World) (h : Nums .u8 S w v bs) :
    Calls Try.prog 29 #[v] w (DrawnId w) := by
  go_enter Try.func29, Try.ntmps29
  go_wp2_with fail
  refine (drawStoreGet v bs w h).mono ?_
  rintro e w1 ⟨v1, os, x, rfl, hl, ho, hx, n1⟩
  obtain ⟨-, a, c, rfl, -⟩ := id ho
  go_wp2_with fail
  go_ret2
  exact ⟨_, os, x, rfl, hl, ho, hx, n1⟩

def DrawnBlock (w : World) (e : Ending) (w' : World) : Prop :=
  ∃ v os u xs, e = .returned (.tuple #[v, u]) ∧ os.length ≤ 16 ∧ Helds (fun j => w.heap.size ≤ j) w' v os ∧ Ints (fun j => w.heap.size ≤ j) w' u xs ∧ New w w'

set_option maxRecDepth 4000 in
set_option maxHeartbeats 1000000 in
theorem drawStorePut {S : Nat → Prop} (v : Value) (bs : List Int) (w : World) (h : Nums .u8 S w v bs) :
    Calls Try.prog 38 #[v] w (DrawnBlock w) := by
  go_enter Try.func38, Try.ntmps38
  go_wp2_with fail
  refine (l6Open v bs w h).mono ?_
  rintro e w1 ⟨g, rfl, hg, hr, n1⟩
  go_wp2_with fail
  refine (l91Store g 0 w1 hr (by omega)).mono ?_
  rintro e w2 ⟨v2, os, rfl, ⟨hl, hall8⟩, ho, hr2, c2⟩
  have hgl := hr.lt
  have h0 := ho
  obtain ⟨-, a, c, rfl, x1, x2, -⟩ := ho
  unfold maxLen at x2
  have z1 := n1.size
  have z2 := c2.size
  by_cases hz : os.length = 0
  · have hz' : ¬ (0 : Int) < (os.length : Int) := by omega
    clear hz
    go_wp2_with fail
    refine (l91Block g _ w2 hr2 (by omega)).mono ?_
    rintro e w3 ⟨u, xs, rfl, hxs, hx, hr3, c3⟩
    have ho3 := (Recs.chg h0 c3 (fun j _ hj e => by omega)).mono (T := fun j => w.heap.size ≤ j) (fun j _ hj => by omega)
    obtain ⟨au, cu, rfl, -⟩ := id hx
    go_wp2_with fail
    go_ret2
    exact ⟨_, os, _, xs, rfl, hl, ho3, hx.mono (fun j _ hj => by omega), n1.trans_chg (c2.trans c3) (fun k hk e => by omega)⟩
  · have hz' : (0 : Int) < (os.length : Int) := by omega
    go_wp2_with fail
    refine (pick g _ 2 _ hr2 (by omega) (by omega) (by omega)).mono ?_
    rintro e w3 ⟨t, rfl, ht0, ht1, hr3, c3⟩
    have ho3 := Recs.chg h0 c3 (fun j _ hj e => by omega)
    have cc3 := c2.trans c3
    have z3 := cc3.size
    by_cases hq : t = 0
    · subst hq
      have n4 : New w3 (w3.alloc (.cells #[] 3)) := (New.refl _).alloc _
      go_wp2_with fail
      refine (pick g _ os.length _ (hr3.new n4) (by omega) (by omega) (by omega)).mono ?_
      rintro e w5 ⟨q, rfl, hq0, hq1, hr5, c5⟩
      have ho5 := Recs.chg (Recs.new (Recs.old ho3) n4) c5 (fun j _ hj e => by omega)
      have cc5 := (cc3.trans (n4.chg _)).trans c5
      have re5 := (Row.empty 3 1 w3).chg c5 (fun j _ hj e => by omega)
      have z4 : (w3.alloc (.cells #[] 3)).heap.size = w3.heap.size + 1 := by simp
      have z5 := c5.size
      rw [z4] at z5
      obtain ⟨qn, rfl⟩ : ∃ qn : Nat, q = qn := ⟨q.toNat, by omega⟩
      obtain ⟨o, hoo⟩ := get_of (show qn < os.length by omega)
      obtain ⟨b, off, c', u, e1, hb, k0, k1, k2, i0, i2, r2⟩ := Helds.at ho5 hoo
      simp only [Value.slice.injEq] at e1
      obtain ⟨rfl, -, rfl⟩ := e1
      have hl8 := hall8 o (List.mem_of_getElem? hoo)
      have R2 := Lib.hid r2
      obtain ⟨au, cu, rfl, u1, ⟨u2, -⟩, ufit, -⟩ := r2
      have Ufit := Lib.hid ufit
      unfold maxLen at u2
      clear hoo ufit z4
      go_wp2_with first
        | (at_builtin
           refine wpRow_append slInt _ _ rfl rfl (.slice (some ⟨w3.heap.size, 0, none⟩) 0 0) 0 [] rfl re5 au o.bytes.length cu (o.bytes.map (Value.int .i64)) rfl (Nums.src R2.out) (oneCells _ _) ?_ ?_ ?_
           · unfold maxLen; omega
           · omega
           intro v7 w7 o7 c7)
        | fail
      rw [Nat.zero_add, List.nil_append] at o7
      obtain ⟨a7, d7, rfl, -, -, -, -⟩ := o7.shape
      go_ret2
      have c7' : Chg (fun j => j = w3.heap.size) w5 w7 := c7.mono (fun j _ e => by have e' := own_some e; simp only at e'; exact e')
      have o7' : OwnInts 3 (fun j => w.heap.size ≤ j) w7 (.slice a7 o.bytes.length d7) o.bytes := by
        refine ⟨o7.mono (fun j _ hj => ?_), Ufit.out⟩
        rcases hj with hj | hj
        · have e' := own_some hj; simp only at e'; omega
        · omega
      exact ⟨_, os, _, o.bytes, rfl, hl, (Recs.chg ho5 c7' (fun j _ hj e => by omega)).mono (fun j _ hj => by omega), OwnNums.nums o7', (n1.trans_chg cc5 (fun k hk e => by omega)).trans_chg c7' (fun k hk e => by omega)⟩
    · have hq' : (t == 0) = false := by simp [hq]
      go_wp2_with fail
      refine (l91Block g _ w3 hr3 (by omega)).mono ?_
      rintro e w4 ⟨u, xs, rfl, hxs, hx, hr4, c4⟩
      have ho4 := (Recs.chg ho3 c4 (fun j _ hj e => by omega)).mono (T := fun j => w.heap.size ≤ j) (fun j _ hj => by omega)
      obtain ⟨au, cu, rfl, -⟩ := id hx
      go_wp2_with fail
      go_ret2
      exact ⟨_, os, _, xs, rfl, hl, ho4, hx.mono (fun j _ hj => by omega), n1.trans_chg (cc3.trans c4) (fun k hk e => by omega)⟩
end Go.Proofs.Ytiakljmdongplaa
