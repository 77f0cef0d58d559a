/- Walks of the draws of stores: l91Store, l91Id, l91Block. -/
import Derived.Test.YtipligidnoajfaaDoorDraw
import Derived.Test.YtipligidnoajfaaDoorStoreSpec
import Derived.Test.YtipligidnoajfaaDoorRecsRow
import Derived.Test.YtipligidnoajfaaDoorRecsPut
namespace Go.Proofs.YtipligidnoajfaaDoor
open Go.RowKit

def StoreAt (g m : Nat) (w : World) (e : Ending) (w' : World) : Prop :=
  ∃ v os, e = .returned v ∧ (os.length ≤ 16 ∧ ∀ o ∈ os, o.bytes.length ≤ 8) ∧ Helds (fun j => w.heap.size ≤ j) w' v os ∧ Rd g w' (m + 300) ∧ Chg (fun k => k = g) w w'

theorem lit_ints (w : World) (xs : List Int) (hx : ∀ x ∈ xs, I64 x) (hl : xs.length ≤ 100) : OwnInts 3 (fun j => w.heap.size ≤ j) (w.alloc (.cells (xs.map (Value.int .i64)).toArray 3)) (.slice (some ⟨w.heap.size, 0, none⟩) xs.length xs.length) xs := by
  refine ⟨⟨⟨by simp, .inr ⟨w.heap.size, xs.length, _, rfl, Nat.zero_le _, heap_alloc_new _ _, Nat.le_refl _, by unfold maxLen; omega, by simp, by rw [List.take_of_length_le (by simp)]⟩⟩, fun k hk => ?_⟩, hx⟩
  simp [Value.ownBlock] at hk; omega
theorem lit_cell {w w' : World} {g : Nat} (xs : List Int) (c : Chg (fun k => k = g) (w.alloc (.cells (xs.map (Value.int .i64)).toArray 3)) w') (hg : g < w.heap.size) {r : Int} (h0 : 0 ≤ r) (h1 : r < xs.length) : ∃ x ∈ xs, w'.cell? ⟨w.heap.size, r.toNat, none⟩ = some (.int .i64 x) := by
  have hb := c.heap (heap_alloc_new w (.cells (xs.map (Value.int .i64)).toArray 3)) (fun e => by omega)
  obtain ⟨x, hx⟩ := get_of (show r.toNat < xs.length by omega)
  exact ⟨x, List.mem_of_getElem? hx, by simp [World.cell?, hb, hx]⟩

theorem held_set1 {y : List Int} : ∀ (os : List HeldR) {k : Nat} {o : HeldR}, os[k]? = some o → (heldFlds os).set (k * 3 + 1) (.nums y) = heldFlds (os.set k { o with bytes := y })
  | [], _, _, h => by simp at h
  | a :: os, 0, o, h => by
    obtain rfl : a = o := by simpa using h
    simp [heldFlds, HeldR.flds]
  | a :: os, k + 1, o, h => by
    have ih := held_set1 (y := y) os (k := k) (o := o) (by simpa using h)
    simp only [heldFlds] at ih ⊢
    rw [List.flatMap_cons, List.set_cons_succ, List.flatMap_cons, ← ih, show (k + 1) * 3 + 1 = (k * 3 + 1) + 3 by omega]
    rfl
theorem held_set2' {y : Int} : ∀ (os : List HeldR) {k : Nat} {o : HeldR}, os[k]? = some o → (heldFlds os).set (k * 3 + 2) (.int y) = heldFlds (os.set k { o with uses := y })
  | [], _, _, h => by simp at h
  | a :: os, 0, o, h => by
    obtain rfl : a = o := by simpa using h
    simp [heldFlds, HeldR.flds]
  | a :: os, k + 1, o, h => by
    have ih := held_set2' (y := y) os (k := k) (o := o) (by simpa using h)
    simp only [heldFlds] at ih ⊢
    rw [List.flatMap_cons, List.set_cons_succ, List.flatMap_cons, ← ih, show (k + 1) * 3 + 2 = (k * 3 + 2) + 3 by omega]
    rfl
theorem heldFlds_get' {os : List HeldR} {j : Nat} {o : HeldR} (h : os[j]? = some o) : (heldFlds os)[j * 3 + 2]? = some (.int o.uses) := flds_get HeldR.flds 3 (fun _ => rfl) os h (by omega)

set_option maxRecDepth 4000 in
set_option maxHeartbeats 2000000 in
theorem l91Store (g m : Nat) (w : World) (h : Rd g w m) (hm : m ≤ 600000) :
    Calls Tryd.prog 29 #[.pointer (some ⟨g, 0, none⟩)] w (StoreAt g m w) := by
  have hg := h.lt
  go_enter Tryd.func29, Tryd.ntmps29
  go_wp2_with fail
  have n0 : New w (w.alloc (.cells #[] 47)) := (New.refl w).alloc _
  have o0 : OwnHelds (fun j => w.heap.size ≤ j) (w.alloc (.cells #[] 47)) (.slice (some ⟨w.heap.size, 0, none⟩) 0 0) [] := OwnRecs.empty _ _ _
  refine (pick g m 6 _ (h.new n0) (by omega) (by omega) (by omega)).mono ?_
  rintro e w1 ⟨n, rfl, hn0, hn1, h1, c1⟩
  have o1 := OwnRecs.chg o0 c1 (fun j _ hj e => by omega)
  have cc1 := (n0.chg (fun k => k = g)).trans c1
  clear n0 o0 c1
  go_wp2_with fail
  refine (pick g (m + 1) 16 _ h1 (by omega) (by omega) (by omega)).mono ?_
  rintro e w2 ⟨t, rfl, ht0, ht1, h2, c2⟩
  have o2 := OwnRecs.chg o1 c2 (fun j _ hj e => by omega)
  have cc2 := cc1.trans c2
  clear o1 c2 cc1 h1
  go_upto_if 13 with fail
  go_cut [4] (fun s4 wx => ∃ n : Nat, s4 = .int .i64 n ∧ n ≤ 16 ∧ w2 = wx)
  case first =>
    by_cases hq : t = 0
    · subst hq
      go_wp2
      go_meet
      case rel => exact ⟨16, rfl, Nat.le_refl _, rfl⟩
    · have hq' : (t == 0) = false := by simp [hq]
      go_wp2
      go_meet
      case rel => exact ⟨n.toNat, by rw [Int.toNat_of_nonneg (by omega)], by omega, rfl⟩
  case rest =>
    obtain ⟨n, rfl, hn, rfl⟩ := hcut
    go_wp2_with fail
    go_loopg [3, 5, 6] n (fun gk v id i wr => ∃ (k d : Nat) (os : List HeldR), gk = n - k ∧ k ≤ n ∧ i = .int .i64 k ∧ id = .int .i64 d ∧ d ≤ 1 + 3 * k ∧ os.length = k ∧ (∀ o ∈ os, o.bytes.length ≤ 8) ∧ OwnHelds (fun j => w.heap.size ≤ j) wr v os ∧ Rd g wr (m + 2 + 8 * k) ∧ Chg (fun k => k = g) w wr)
    case atStart => exact ⟨0, 1, [], by omega, by omega, rfl, rfl, by omega, rfl, by simp, o2, h2, cc2⟩
    case round =>
      obtain ⟨k, d, os, hgk, hk, rfl, rfl, hd, hl, hall, ho, hr, hc⟩ := hrel
      have Hall := Lib.hid hall
      have Hgk := Lib.hid hgk
      have Hl := Lib.hid hl
      clear hgk hl hall o2 h2 cc2
      by_cases hlt : k < n
      · go_wp2_with fail
        refine (pick g _ 2 _ hr (by omega) (by omega) (by omega)).mono ?_
        rintro e w3 ⟨a, rfl, ha0, ha1, h3, c3⟩
        have ho3 := OwnRecs.chg ho c3 (fun j _ hj e => by omega)
        have cc3 := hc.trans c3
        clear ho hc c3 hr
        go_wp2_with fail
        refine (pick g _ 3 _ h3 (by omega) (by omega) (by omega)).mono ?_
        rintro e w4 ⟨b, rfl, hb0, hb1, h4, c4⟩
        have ho4 := OwnRecs.chg ho3 c4 (fun j _ hj e => by omega)
        have cc4 := cc3.trans c4
        clear ho3 cc3 c4 h3
        go_wp2_with fail
        refine (pick g _ 256 _ h4 (by omega) (by omega) (by omega)).mono ?_
        rintro e w5 ⟨c, rfl, hc0, hc1, h5, c5⟩
        have ho5 := OwnRecs.old (OwnRecs.chg ho4 c5 (fun j _ hj e => by omega))
        have cc5 := cc4.trans c5
        have zw5 := cc5.size
        clear ho4 cc4 c5 h4
        go_wp2_with fail
        have ol := lit_ints w5 [(k : Int), b, c] (by intro x hx; simp at hx; rcases hx with rfl | rfl | rfl <;> exact I64.mk (by omega) (by omega)) (by simp)
        simp only [List.map_cons, List.map_nil, List.length_cons, List.length_nil] at ol
        have n6 : New w5 (w5.alloc (.cells #[.int .i64 (k : Int), .int .i64 b, .int .i64 c] 3)) := (New.refl _).alloc _
        have ho6 := OwnRecs.new ho5 n6
        have cc6 := cc5.trans (n6.chg _)
        have h6 := h5.new n6
        have z6 : (w5.alloc (.cells #[.int .i64 (k : Int), .int .i64 b, .int .i64 c] 3)).heap.size = w5.heap.size + 1 := by simp
        have Z6 := Lib.hid z6
        clear ho5 cc5 n6 z6
        refine (pick g _ 2 _ h6 (by omega) (by omega) (by omega)).mono ?_
        rintro e w7 ⟨a2, rfl, ha20, ha21, h7, c7⟩
        have ho7 := OwnRecs.chg ho6 c7 (fun j _ hj e => by omega)
        have ol7 := ol.chg c7 (fun j _ hj e => by have := h5.lt; omega)
        have cc7 := cc6.trans c7
        have z7 : w5.heap.size + 1 ≤ w7.heap.size := by have := c7.size; rw [Z6.out] at this; exact this
        have hg5 := h5.lt
        clear ho6 ol cc6 c7 h6 h5 Z6
        go_upto_if 31 with fail
        go_cut [7] from 14 to 46 (fun s7 wx => ∃ bs : List Int, bs.length ≤ 8 ∧ OwnInts 3 (fun j => w5.heap.size ≤ j) wx s7 bs ∧ OwnHelds (fun j => w.heap.size ≤ j ∧ j < w5.heap.size) wx u3 os ∧ Rd g wx (m + 2 + 8 * k + 6) ∧ Chg (fun k => k = g) w wx)
        case first =>
          by_cases hq : a2 = 0
          · subst hq
            go_wp2_with fail
            refine (pick g _ 256 _ h7 (by omega) (by omega) (by omega)).mono ?_
            rintro e w8 ⟨c8v, rfl, hc80, hc81, h8, c8⟩
            have ho8 := OwnRecs.chg ho7 c8 (fun j _ hj e => by omega)
            have cc8 := cc7.trans c8
            go_wp2_with fail
            go_meet
            case rel =>
              have n9 : New w8 (w8.alloc (.cells #[.int .i64 (k : Int), .int .i64 1, .int .i64 2, .int .i64 3, .int .i64 4, .int .i64 5, .int .i64 6, .int .i64 c8v] 3)) := (New.refl _).alloc _
              have ol := lit_ints w8 [(k : Int), 1, 2, 3, 4, 5, 6, c8v] (by intro x hx; simp at hx; rcases hx with rfl | rfl | rfl | rfl | rfl | rfl | rfl | rfl <;> exact I64.mk (by omega) (by omega)) (by simp)
              exact ⟨[(k : Int), 1, 2, 3, 4, 5, 6, c8v], by simp, ol.mono (fun j _ hj => by have := c8.size; omega), OwnRecs.new ho8 n9, (h8.new n9).mono (by omega), cc8.trans (n9.chg _)⟩
          · have hq' : (a2 == 0) = false := by simp [hq]
            go_wp2_with fail
            go_meet
            case rel => exact ⟨[(k : Int), b, c], by simp, ol7, ho7, h7.mono (by omega), cc7⟩
        case rest =>
          obtain ⟨bs, hbs, hbo, ho8, h8, cc8⟩ := hcut
          clear ho7 ol7 cc7 h7
          have z8 := hbo.lt
          obtain ⟨ab, cb, rfl, -, -⟩ := hbo.shape
          obtain ⟨us, r1, r2⟩ := OwnRecs.old ho8
          rw [Hl.out] at r1
          obtain ⟨av, cv, rfl, x1, x2, -, -⟩ := r1.shape
          unfold maxLen at x2
          go_wp2_with fail
          refine (pick g _ 3 _ h8 (by omega) (by omega) (by omega)).mono ?_
          rintro e w9 ⟨q, rfl, hq0, hq1, h9, c9⟩
          have r1' := r1.chg c9 (fun j _ hj e => by have := hj.1; omega)
          have r2' := r2.chg c9 (fun j _ hj e => by have := hj.1.1; omega)
          have hbo' := hbo.chg c9 (fun j _ hj e => by omega)
          have cc9 := cc8.trans c9
          have hv : ∀ j, (Value.slice av k cv).ownBlock = some j → (w.heap.size ≤ j ∧ j < w5.heap.size) ∧ j < w9.heap.size := fun j e => ⟨(r1.2 j e).1, by have := (r1.2 j e).2; have := c9.size; omega⟩
          have ft : Fields (fun j => w5.heap.size ≤ j) w9 [.int .i64 ((d : Int) + a), .slice ab bs.length cb, .int .i64 (1 + q)] (HeldR.flds ⟨(d : Int) + a, bs, 1 + q⟩) :=
            ⟨⟨rfl, I64.mk (x := (d : Int) + a) (by omega) (by omega)⟩, (OwnI.of hbo').mono (fun j _ hj => ⟨hj, by simp [blk]⟩), ⟨rfl, I64.mk (x := 1 + q) (by omega) (by omega)⟩, trivial⟩
          clear r1 r2 hbo ho8 cc8 c9 h8 hbo'
          go_wp2_with first
            | (at_builtin
               refine wpRow_appendRec slHeld _ _ rfl rfl (.slice av k cv) k us [.int .i64 ((d : Int) + a), .slice ab bs.length cb, .int .i64 (1 + q)] 47 rfl r1' rfl (by intro u hu; simp at hu; rcases hu with rfl | rfl | rfl <;> rfl) rfl (by omega) (by decide) ?_
               intro v' w6 q6 c6)
            | fail
          have os' := OwnRecs.snoc (S := fun j => w.heap.size ≤ j ∧ j < w5.heap.size) (T := fun j => w5.heap.size ≤ j) (Fields.mono r2' (fun j _ hj => ⟨hj.1.1, hj.2⟩)) ft q6 c6 (fun j hj => hv j hj) (fun j hj hT => by omega)
          have z9 := cc9.size
          go_roundg (n - (k + 1))
          case measure => rw [Hgk.out]; omega
          case rel =>
            refine ⟨k + 1, d + a.toNat + 1, os ++ [⟨(d : Int) + a, bs, 1 + q⟩], rfl, by omega, by go_num, ?_, by omega, by simp [Hl.out], ?_, ?_, (h9.chg c6 (fun j hj => by have := (hv j hj).1; omega)).mono (by omega), cc9.step c6 (fun j hj hh => by have := (hv j hh).1; omega)⟩
            · congr 1; omega
            · intro x hx
              rcases List.mem_append.1 hx with hx | hx
              · exact Hall.out x hx
              · simp at hx; subst hx; exact hbs
            · unfold OwnHelds
              rw [List.length_append, heldFlds, List.flatMap_append, Hl.out]
              have e1 : List.flatMap HeldR.flds [(⟨(d : Int) + a, bs, 1 + q⟩ : HeldR)] = HeldR.flds ⟨(d : Int) + a, bs, 1 + q⟩ := by simp
              rw [e1]
              exact OwnRecs.mono os' (fun j hj hh => by rcases hh with hh | hh | hh <;> omega)
      · obtain rfl : k = n := by omega
        have hln : os.length ≤ 16 := by rw [Hl.out]; omega
        go_wp2_with fail
        refine (pick g _ 30 _ hr (by omega) (by omega) (by omega)).mono ?_
        rintro e w3 ⟨p, rfl, hp0, hp1, h3, c3⟩
        have ho3 := OwnRecs.chg ho c3 (fun j _ hj e => by omega)
        have cc3 := hc.trans c3
        clear ho hc c3 hr
        by_cases hp : p = 0
        · subst hp
          by_cases h1 : 1 < k
          · have h1' : (1 : Int) < (k : Int) := by omega
            obtain ⟨us, r1, r2⟩ := OwnRecs.old ho3
            have rd := r2.reads
            have hul : us.length = os.length * 3 := r1.1.1
            have hol := Hl.out
            obtain ⟨o0, ho0⟩ := get_of (show 0 < os.length by omega)
            obtain ⟨o1, ho1⟩ := get_of (show 1 < os.length by omega)
            have hf0 := flds_get HeldR.flds 3 (fun _ => rfl) os ho0 (j := 1) (by omega)
            obtain ⟨u1, hu1⟩ := get_of (show 1 < us.length by omega)
            obtain ⟨u4, hu4⟩ := get_of (show 4 < us.length by omega)
            have hr0 : Ints _ w3 u1 o0.bytes := rd.2 1 u1 (.nums o0.bytes) hu1 hf0
            obtain ⟨gb, cap, rfl, hS, hgl, x1, x2⟩ := r1.head (by omega)
            unfold maxLen at x2
            have k1 := r1.cellAt hu1
            have k4 := r1.cellAt hu4
            have f4 := r1.frozenAt 4
            have hset := held_set1 (y := o0.bytes) os ho1
            have Hset := Lib.hid hset
            have Hr0 := Lib.hid hr0
            obtain ⟨a0, c0, rfl, y1, ⟨y2, -⟩, yfit, -⟩ := hr0
            have Yfit := Lib.hid yfit
            unfold maxLen at y2
            have hl8 : o0.bytes.length ≤ 8 := Hall.out o0 (List.mem_of_getElem? ho0)
            have hlt0 : (0 : Int) < (os.length : Int) := by omega
            have hlt1 : (1 : Int) < (os.length : Int) := by omega
            have k1' : (w3.alloc (.cells #[] 3)).cell? ⟨gb, 1, none⟩ = some (.slice a0 o0.bytes.length c0) := ((New.refl w3).alloc _).cell k1
            clear hf0 hu1 hu4 ho0 ho1 hset yfit hul ho3
            clear hol
            go_wp2_with first
              | (at_builtin
                 refine wpRow_append slInt _ _ rfl rfl (.slice (some ⟨w3.heap.size, 0, none⟩) 0 0) 0 [] rfl (Row.empty 3 1 w3) a0 o0.bytes.length c0 (o0.bytes.map (Value.int .i64)) rfl (Nums.src (Hr0.out.new ((New.refl _).alloc _))) (oneCells _ _) ?_ ?_ ?_
                 · unfold maxLen; omega
                 · omega
                 intro v5 w5 o5 c5
                 have n5 : New w3 w5 := ((New.refl _).alloc _).trans_chg c5 (fun j hj e => by have e' := own_some e; simp only at e'; omega)
                 have k4' := n5.cell k4
                 have f4' := (r1.new n5).frozenAt 4
                 rw [Nat.zero_add, List.nil_append] at o5
                 have o5' : OwnInts 3 (fun j => w3.heap.size ≤ j) w5 v5 o0.bytes := by
                   refine ⟨o5.mono (fun j _ hj => ?_), Yfit.out⟩
                   rcases hj with hj | hj
                   · have e' := own_some hj; simp only at e'; omega
                   · simp at hj; omega
                 obtain ⟨a5, d5, rfl, -, -⟩ := o5'.shape)
              | fail
            go_ret
            have cs := chg_set1 w5 gb 4 (.slice a5 o0.bytes.length d5)
            have z5 := n5.size
            have r6 := (r1.new n5).set 4 (.slice a5 o0.bytes.length d5)
            have rd6 := ((rd.new n5).chg cs (fun j _ hj e => hj.2 (by rw [e]; rfl))).mono (T := fun j => w.heap.size ≤ j) (fun j _ hj => hj.1.1)
            have x5 := ((OwnNums.nums o5').chg cs (fun j _ hj e => by omega)).mono (T := fun j => w.heap.size ≤ j) (fun j _ hj => by have := cc3.size; omega)
            have rd7 := Reads.set rd6 (g := .nums o0.bytes) (v := .slice a5 o0.bytes.length d5) x5 4
            rw [Hset.out] at rd7
            have hrec := rd7.recs r6
            refine ⟨_, os.set 1 { o1 with bytes := o0.bytes }, rfl, ⟨by simpa using hln, fun z hz => by
              rcases List.mem_or_eq_of_mem_set hz with hz | rfl
              · exact Hall.out z hz
              · exact hl8⟩, ?_, (h3.new n5).chg cs (fun j hj => by omega) |>.mono (by omega), (cc3.trans (n5.chg _)).step cs (fun j hj e => by omega)⟩
            unfold Helds
            rw [List.length_set]
            exact hrec.mono (fun j _ hj => by
              rcases hj with hj | hj
              · exact hj.1
              · exact hj)
          · have h1' : ¬ (1 : Int) < (k : Int) := by omega
            obtain ⟨av, cv, rfl, -, -, -⟩ := OwnRecs.shape ho3
            go_wp2_with fail
            go_ret
            exact ⟨_, os, rfl, ⟨hln, Hall.out⟩, OwnRecs.recs ho3, h3.mono (by omega), cc3⟩
        · have hp' : (p == 0) = false := by simp [hp]
          by_cases hp1 : p = 1
          · subst hp1
            by_cases h1 : 0 < k
            · have h1' : (0 : Int) < (k : Int) := by omega
              obtain ⟨av, cv, rfl, x1, x2, -⟩ := OwnRecs.shape ho3
              unfold maxLen at x2
              go_wp2_with fail
              refine (pick g _ k _ h3 (by omega) (by omega) (by omega)).mono ?_
              rintro e w5 ⟨t5, rfl, ht50, ht51, h5, c5⟩
              have ho5 := OwnRecs.chg ho3 c5 (fun j _ hj e => by omega)
              have cc5 := cc3.trans c5
              have hg5 := h5.lt
              clear ho3 cc3 c5 h3
              go_wp2_with fail
              have n6 : New w5 (w5.alloc (.cells #[.int .i64 0, .int .i64 999, .int .i64 1000] 3)) := (New.refl _).alloc _
              refine (pick g _ 3 _ (h5.new n6) (by omega) (by omega) (by omega)).mono ?_
              rintro e w7 ⟨t7, rfl, ht70, ht71, h7, c7⟩
              obtain ⟨x, hx, kx⟩ := lit_cell [0, 999, 1000] c7 hg5 ht70 (by simpa using ht71)
              have hx' : I64 x := by simp at hx; rcases hx with rfl | rfl | rfl <;> exact I64.mk (by omega) (by omega)
              have ho7 := OwnRecs.chg (OwnRecs.new ho5 n6) c7 (fun j _ hj e => by omega)
              have cc7 := (cc5.trans (n6.chg _)).trans c7
              obtain ⟨tn, rfl⟩ : ∃ tn : Nat, t5 = tn := ⟨t5.toNat, by omega⟩
              have htl : tn < os.length := by rw [Hl.out]; omega
              obtain ⟨o, ho⟩ := get_of htl
              have hfl := (heldFlds_get' ho)
              have hl8 := Hall.out o (List.mem_of_getElem? ho)
              obtain ⟨gb, cb, u, ev, hS, hgb, k0, k1, -⟩ := OwnRecs.at ho7 hfl
              simp only [Value.slice.injEq] at ev
              obtain ⟨rfl, -, rfl⟩ := ev
              have o8 := OwnRecs.putInt (y := x) ho7 hfl hx'
              have hset := held_set2' (y := x) os ho
              rw [hset] at o8
              have cs := chg_set1 w7 gb (tn * 3 + 2) (.int .i64 x)
              clear hfl ho7 c7 n6 hx hset ho h5 ho5
              go_wp2_with fail
              go_ret
              refine ⟨_, os.set tn { o with uses := x }, rfl, ⟨by simpa using hln, fun z hz => by
                rcases List.mem_or_eq_of_mem_set hz with hz | rfl
                · exact Hall.out z hz
                · exact hl8⟩, ?_, (h7.chg cs (fun j hj => by omega)).mono (by omega), cc7.step cs (fun j hj e => by omega)⟩
              unfold Helds
              rw [List.length_set]
              exact OwnRecs.recs o8
            · have h1' : ¬ (0 : Int) < (k : Int) := by omega
              obtain ⟨av, cv, rfl, -, -, -⟩ := OwnRecs.shape ho3
              go_wp2_with fail
              go_ret
              exact ⟨_, os, rfl, ⟨hln, Hall.out⟩, OwnRecs.recs ho3, h3.mono (by omega), cc3⟩
          · have hp1' : (p == 1) = false := by simp [hp1]
            obtain ⟨av, cv, rfl, -, -, -⟩ := OwnRecs.shape ho3
            go_wp2_with fail
            go_ret
            exact ⟨_, os, rfl, ⟨hln, Hall.out⟩, OwnRecs.recs ho3, h3.mono (by omega), cc3⟩
end Go.Proofs.YtipligidnoajfaaDoor
