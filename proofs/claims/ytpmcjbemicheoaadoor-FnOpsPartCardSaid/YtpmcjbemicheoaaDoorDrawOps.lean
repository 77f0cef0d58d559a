/- Walks of the draws of steps: l92Step, l92Steps. -/
import Derived.Test.YtpmcjbemicheoaaDoorDrawPath
import Derived.Test.YtpmcjbemicheoaaDoorDrawFile
import Derived.Test.YtpmcjbemicheoaaDoorOps
namespace Go.Proofs.YtpmcjbemicheoaaDoor
open Go.RowKit

def StepPost (g m : Nat) (w : World) (e : Ending) (w' : World) : Prop :=
  ∃ (o : OpR) (u : Value), e = .returned (.agg #[.int .i64 o.kind, txt o.path, u]) ∧ I64 o.kind ∧ o.path.length ≤ 100 ∧ o.bytes.length ≤ 33 ∧ OwnInts 3 (fun j => w.heap.size ≤ j) w' u o.bytes ∧ Rd g w' (m + 300) ∧ Chg (fun k => k = g) w w'

/-- the state between the parts: the step at block B, the result's place at block w.heap.size -/
def StepSt (g m B : Nat) (w wx : World) : Prop :=
  ∃ (o : OpR) (u : Value), wx.heap[B]? = some (.cells #[.int .i64 o.kind, txt o.path, u] 34 (0, 0)) ∧ wx.heap[w.heap.size]? = some (.cells #[.int .i64 0, .string ⟨#[]⟩, .slice none 0 0] 34 (0, 0)) ∧
    0 ≤ o.kind ∧ o.kind ≤ 5 ∧ o.path.length ≤ 100 ∧ o.bytes.length ≤ 33 ∧ OwnInts 3 (fun j => w.heap.size < j ∧ j ≠ B) wx u o.bytes ∧ Rd g wx m ∧ Chg (fun k => k = g) w wx ∧ w.heap.size < B

def names1 : List (List UInt8) := [[118], [119], [115]]
def names2 : List (List UInt8) := [[97], [98], [97, 47, 120], [101]]

set_option maxHeartbeats 1000000 in
theorem drawStep (g m : Nat) (w : World) (h : Rd g w m) (hm : m ≤ 600000) :
    Calls Tryd.prog 39 #[.pointer (some ⟨g, 0, none⟩)] w (StepPost g m w) := by
  have hg := h.lt
  go_enter Tryd.func39, Tryd.ntmps39
  go_wp2_with fail
  have n0 : New w (w.alloc (.cells #[.int .i64 0, .string ⟨#[]⟩, .slice none 0 0] 34)) := (New.refl w).alloc _
  refine (pick g m 4 _ (h.new n0) (by omega) (by omega) (by omega)).mono ?_
  rintro e w1 ⟨t, rfl, ht0, ht1, h1, c1⟩
  go_wp2_with fail
  refine (drawPath g (m + 1) w1 h1 (by omega)).mono ?_
  rintro e w2 ⟨l, rfl, hl, h2, c2⟩
  have hR : w2.heap[w.heap.size]? = some (.cells #[.int .i64 0, .string ⟨#[]⟩, .slice none 0 0] 34) := c2.heap (c1.heap (heap_alloc_new w _) (fun e => by omega)) (fun e => by omega)
  have c12 : Chg (fun k => k = g) w w2 := ((n0.chg _).trans c1).trans c2
  have hsz : w.heap.size < w2.heap.size := (Array.getElem?_eq_some_iff.1 hR).1
  clear c1 c2 h1 n0
  unfold txt
  go_upto_if 13 with fail
  go_cut [] (fun wx => StepSt g (m + 210) (w2.heap.size + 1) w wx)
  case first =>
    have hB : ((w2.alloc (.cells #[] 3)).alloc (.cells #[.int .i64 (1 + t), .string ⟨l.toArray⟩, .slice (some ⟨w2.heap.size, 0, none⟩) 0 0] 34)).heap[w2.heap.size + 1]? = some (.cells #[.int .i64 (1 + t), .string ⟨l.toArray⟩, .slice (some ⟨w2.heap.size, 0, none⟩) 0 0] 34) := by
      simpa using heap_alloc_new (w2.alloc (.cells #[] 3)) (.cells #[.int .i64 (1 + t), .string ⟨l.toArray⟩, .slice (some ⟨w2.heap.size, 0, none⟩) 0 0] 34)
    have nn : New w2 ((w2.alloc (.cells #[] 3)).alloc (.cells #[.int .i64 (1 + t), .string ⟨l.toArray⟩, .slice (some ⟨w2.heap.size, 0, none⟩) 0 0] 34)) := ((New.refl _).alloc _).alloc _
    have oe : OwnInts 3 (fun j => w.heap.size < j ∧ j ≠ w2.heap.size + 1) ((w2.alloc (.cells #[] 3)).alloc (.cells #[.int .i64 (1 + t), .string ⟨l.toArray⟩, .slice (some ⟨w2.heap.size, 0, none⟩) 0 0] 34)) (.slice (some ⟨w2.heap.size, 0, none⟩) 0 0) [] :=
      ((OwnNums.empty .i64 3 w2).mono (fun j _ hj => by omega)).new ((New.refl _).alloc _)
    have hRR := nn.heap hR
    have h3 := h2.new nn
    have cc := c12.trans (nn.chg _)
    have HB := Lib.hid hB
    have HR := Lib.hid hRR
    have hs3 : ((w2.alloc (.cells #[] 3)).alloc (.cells #[.int .i64 (1 + t), .string ⟨l.toArray⟩, .slice (some ⟨w2.heap.size, 0, none⟩) 0 0] 34)).heap.size = w2.heap.size + 1 + 1 := by simp
    have Hs3 := Lib.hid hs3
    clear hB hRR hR nn hs3
    by_cases ht : t = 1
    · subst ht
      go_wp2_with fail
      refine (l91File g (m + 1 + 2) _ h3 (by omega)).mono ?_
      rintro e w4 ⟨v4, xs, rfl, hx, o4, h4, c4⟩
      have hB4 := c4.heap HB.out (fun e => by omega)
      have hR4 := c4.heap HR.out (fun e => by omega)
      have cB : w4.cell? ⟨w2.heap.size + 1, 2, none⟩ = some (.slice (some ⟨w2.heap.size, 0, none⟩) 0 0) := by simp [World.cell?, hB4]
      have fB : w4.frozen? ⟨w2.heap.size + 1, 2, none⟩ = false := by simp [World.frozen?, hB4]
      obtain ⟨a4, ca4, rfl, -, -⟩ := o4.shape
      have HB4 := Lib.hid hB4
      have HR4 := Lib.hid hR4
      clear hB4 hR4
      go_wp2_with fail
      go_meet
      case rel =>
        have cs := chg_set1 w4 (w2.heap.size + 1) 2 (.slice a4 xs.length ca4)
        refine ⟨⟨1 + 1, l, xs⟩, .slice a4 xs.length ca4, ?_, cs.heap HR4.out (fun e => by omega), by simp, by simp, hl, hx, ?_, (h4.chg cs (fun j hj => by omega)).mono (by omega), (cc.trans c4).setCell _ (fun hlt => by simp at hlt; omega), by omega⟩
        · simp [World.setCell, Array.getElem?_modify, HB4.out, txt]
        · refine (o4.chg cs (fun j _ hj e => by have := Hs3.out; omega)).mono (fun j _ hj => ?_)
          have := Hs3.out; omega
    · have ht' : (1 + t == 2) = false := by simp; omega
      go_wp2_with fail
      go_meet
      case rel => exact ⟨⟨1 + t, l, []⟩, _, HB.out, HR.out, by simp; omega, by simp; omega, hl, by simp, oe, h3.mono (by omega), cc, by omega⟩
  case rest =>
    obtain ⟨o, u, hB, hR, k0, k5, hl, hx, ho, h4, cc, hlt⟩ := hcut
    have cB0 : wc.cell? ⟨w2.heap.size + 1, 0, none⟩ = some (.int .i64 o.kind) := by simp [World.cell?, hB]
    have HB := Lib.hid hB
    have HR := Lib.hid hR
    have hBl := (Array.getElem?_eq_some_iff.1 hB).1
    clear hB hR
    go_upto_if 19 with fail
    go_cut [] (fun wx => StepSt g (m + 211) (w2.heap.size + 1) w wx)
    case first =>
      by_cases hk : o.kind = 4
      · have hk' : (o.kind == 4) = true := by simp [hk]
        go_wp2_with fail
        refine (drawOf g (m + 210) 3 wc.heap.size (wc.alloc (.cells (names1.map txt).toArray 9)) (h4.new ((New.refl _).alloc _)) (by omega) (by omega) (by omega) (by have := h4.lt; omega) (lit_cells wc names1 _ (by decide))).mono ?_
        rintro e w5 ⟨q, rfl, hq, h5, c5⟩
        have n5 : New wc (wc.alloc (.cells (names1.map txt).toArray 9)) := (New.refl _).alloc _
        have hB5 := c5.heap (n5.heap HB.out) (fun e => by omega)
        have hR5 := c5.heap (n5.heap HR.out) (fun e => by omega)
        have cB : w5.cell? ⟨w2.heap.size + 1, 1, none⟩ = some (txt o.path) := by simp [World.cell?, hB5]
        have fB : w5.frozen? ⟨w2.heap.size + 1, 1, none⟩ = false := by simp [World.frozen?, hB5]
        have ho5 := (ho.new n5).chg c5 (fun j _ hj e => by omega)
        have c5' := (cc.trans (n5.chg _)).trans c5
        have HB5 := Lib.hid hB5
        have HR5 := Lib.hid hR5
        unfold txt at cB
        unfold txt
        clear hB5 hR5 c5 n5 ho
        go_wp2_with fail
        go_meet
        case rel =>
          have cs := chg_set1 w5 (w2.heap.size + 1) 1 (.string ⟨q.toArray⟩)
          refine ⟨⟨o.kind, q, o.bytes⟩, u, ?_, cs.heap HR5.out (fun e => by omega), k0, k5, hq, hx, ho5.chg cs (fun j _ hj e => hj.2 e), (h5.chg cs (fun j hj => by omega)).mono (by omega), c5'.setCell _ (fun hlt => by simp at hlt; omega), hlt⟩
          simp [World.setCell, Array.getElem?_modify, HB5.out, txt]
      · have hk' : (o.kind == 4) = false := by simp [hk]
        go_wp2_with fail
        go_meet
        case rel => exact ⟨o, u, HB.out, HR.out, k0, k5, hl, hx, ho, h4.mono (by omega), cc, hlt⟩
    case rest =>
      obtain ⟨o, u, hB, hR, k0, k5, hl, hx, ho, h4, cc, hlt⟩ := hcut
      have cB0 : wc.cell? ⟨w2.heap.size + 1, 0, none⟩ = some (.int .i64 o.kind) := by simp [World.cell?, hB]
      have HB := Lib.hid hB
      have HR := Lib.hid hR
      have hBl := (Array.getElem?_eq_some_iff.1 hB).1
      clear hB hR
      go_upto_if 26 with fail
      go_cut [] (fun wx => StepSt g (m + 212) (w2.heap.size + 1) w wx)
      case first =>
        by_cases hk : o.kind = 1
        · have hk' : (o.kind == 1) = true := by simp [hk]
          go_wp2_with fail
          refine (drawOf g (m + 211) 4 wc.heap.size (wc.alloc (.cells (names2.map txt).toArray 9)) (h4.new ((New.refl _).alloc _)) (by omega) (by omega) (by omega) (by have := h4.lt; omega) (lit_cells wc names2 _ (by decide))).mono ?_
          rintro e w5 ⟨q, rfl, hq, h5, c5⟩
          have n5 : New wc (wc.alloc (.cells (names2.map txt).toArray 9)) := (New.refl _).alloc _
          have hB5 := c5.heap (n5.heap HB.out) (fun e => by omega)
          have hR5 := c5.heap (n5.heap HR.out) (fun e => by omega)
          have cB : w5.cell? ⟨w2.heap.size + 1, 1, none⟩ = some (txt o.path) := by simp [World.cell?, hB5]
          have fB : w5.frozen? ⟨w2.heap.size + 1, 1, none⟩ = false := by simp [World.frozen?, hB5]
          have ho5 := (ho.new n5).chg c5 (fun j _ hj e => by omega)
          have c5' := (cc.trans (n5.chg _)).trans c5
          have HB5 := Lib.hid hB5
          have HR5 := Lib.hid hR5
          unfold txt at cB
          unfold txt
          clear hB5 hR5 c5 n5 ho
          go_wp2_with fail
          go_meet
          case rel =>
            have cs := chg_set1 w5 (w2.heap.size + 1) 1 (.string ⟨q.toArray⟩)
            refine ⟨⟨o.kind, q, o.bytes⟩, u, ?_, cs.heap HR5.out (fun e => by omega), k0, k5, hq, hx, ho5.chg cs (fun j _ hj e => hj.2 e), (h5.chg cs (fun j hj => by omega)).mono (by omega), c5'.setCell _ (fun hlt => by simp at hlt; omega), hlt⟩
            simp [World.setCell, Array.getElem?_modify, HB5.out, txt]
        · have hk' : (o.kind == 1) = false := by simp [hk]
          go_wp2_with fail
          go_meet
          case rel => exact ⟨o, u, HB.out, HR.out, k0, k5, hl, hx, ho, h4.mono (by omega), cc, hlt⟩
      case rest =>
        obtain ⟨o, u, hB, hR, k0, k5, hl, hx, ho, h4, cc, hlt⟩ := hcut
        have HB := Lib.hid hB
        have HR := Lib.hid hR
        have hBl := (Array.getElem?_eq_some_iff.1 hB).1
        clear hB hR
        go_wp2_with fail
        refine (pick g _ 40 wc h4 (by omega) (by omega) (by omega)).mono ?_
        rintro e w6 ⟨r, rfl, hr0, hr1, h6, c6⟩
        have hB6 := c6.heap HB.out (fun e => by omega)
        have hR6 := c6.heap HR.out (fun e => by omega)
        have ho6 := ho.chg c6 (fun j _ hj e => by omega)
        have c6' := cc.trans c6
        have HB6 := Lib.hid hB6
        have HR6 := Lib.hid hR6
        have hBl6 := (Array.getElem?_eq_some_iff.1 hB6).1
        have hz6 := c6.size
        clear hB6 hR6 c6 ho h4 cc HB HR
        go_upto_if 33 with fail
        go_cut [] (fun wx => StepSt g (m + 214) (w2.heap.size + 1) w wx)
        case first =>
          by_cases hr : r = 0
          · subst hr
            go_wp2_with fail
            have n7 : New w6 (w6.alloc (.cells #[.int .i64 0, .int .i64 5] 3)) := (New.refl _).alloc _
            refine (pick g _ 2 _ (h6.new n7) (by omega) (by omega) (by omega)).mono ?_
            rintro e w7 ⟨q, rfl, hq0, hq1, h7, c7⟩
            have hb7 := c7.heap (heap_alloc_new w6 (.cells #[.int .i64 0, .int .i64 5] 3)) (fun e => by have := h6.lt; omega)
            have hcell : ∃ x : Int, w7.cell? ⟨w6.heap.size, q.toNat, none⟩ = some (.int .i64 x) ∧ 0 ≤ x ∧ x ≤ 5 := by
              have : q = 0 ∨ q = 1 := by omega
              rcases this with rfl | rfl
              · exact ⟨0, by simp [World.cell?, hb7], by omega, by omega⟩
              · exact ⟨5, by simp [World.cell?, hb7], by omega, by omega⟩
            obtain ⟨x, hcx, hx0, hx5⟩ := hcell
            have hB7 := c7.heap (n7.heap HB6.out) (fun e => by omega)
            have hR7 := c7.heap (n7.heap HR6.out) (fun e => by omega)
            have cB : w7.cell? ⟨w2.heap.size + 1, 0, none⟩ = some (.int .i64 o.kind) := by simp [World.cell?, hB7]
            have fB : w7.frozen? ⟨w2.heap.size + 1, 0, none⟩ = false := by simp [World.frozen?, hB7]
            have ho7 := (ho6.new n7).chg c7 (fun j _ hj e => by omega)
            have c7' := (c6'.trans (n7.chg _)).trans c7
            have HB7 := Lib.hid hB7
            have HR7 := Lib.hid hR7
            clear hB7 hR7 c7 n7 ho6 hb7
            go_wp2_with fail
            go_meet
            case rel =>
              have cs := chg_set1 w7 (w2.heap.size + 1) 0 (.int .i64 x)
              refine ⟨⟨x, o.path, o.bytes⟩, u, ?_, cs.heap HR7.out (fun e => by omega), hx0, hx5, hl, hx, ho7.chg cs (fun j _ hj e => hj.2 e), (h7.chg cs (fun j hj => by omega)).mono (by omega), c7'.setCell _ (fun hlt => by simp at hlt; omega), hlt⟩
              simp [World.setCell, Array.getElem?_modify, HB7.out]
          · have hr' : (r == 0) = false := by simp [hr]
            go_wp2_with fail
            go_meet
            case rel => exact ⟨o, u, HB6.out, HR6.out, k0, k5, hl, hx, ho6, h6.mono (by omega), c6', hlt⟩
        case rest =>
          obtain ⟨o, u, hB, hR, k0, k5, hl, hx, ho, h8, cc, hlt⟩ := hcut
          have b0 : wc.cell? ⟨w2.heap.size + 1, 0, none⟩ = some (.int .i64 o.kind) := by simp [World.cell?, hB]
          have b1 : wc.cell? ⟨w2.heap.size + 1, 1, none⟩ = some (.string ⟨o.path.toArray⟩) := by simp [World.cell?, hB, txt]
          have b2 : wc.cell? ⟨w2.heap.size + 1, 2, none⟩ = some u := by simp [World.cell?, hB]
          have r0 : wc.cell? ⟨w.heap.size, 0, none⟩ = some (.int .i64 0) := by simp [World.cell?, hR]
          have r1 : wc.cell? ⟨w.heap.size, 1, none⟩ = some (.string ⟨#[]⟩) := by simp [World.cell?, hR]
          have r2 : wc.cell? ⟨w.heap.size, 2, none⟩ = some (.slice none 0 0) := by simp [World.cell?, hR]
          have f0 : wc.frozen? ⟨w.heap.size, 0, none⟩ = false := by simp [World.frozen?, hR]
          have f1 : wc.frozen? ⟨w.heap.size, 1, none⟩ = false := by simp [World.frozen?, hR]
          have f2 : wc.frozen? ⟨w.heap.size, 2, none⟩ = false := by simp [World.frozen?, hR]
          obtain ⟨au, cu, rfl, -, -⟩ := ho.shape
          clear hB hR
          go_wp2_with fail
          have cs := chg_set3 wc w.heap.size 0 1 2 (.int .i64 o.kind) (.string ⟨o.path.toArray⟩) (.slice au o.bytes.length cu)
          refine bodyPost_ret (v := .agg #[.int .i64 o.kind, .string ⟨o.path.toArray⟩, .slice au o.bytes.length cu]) (by simp [results, Tryd.results39, go_sem, r0, r1, r2]) rfl ⟨o, _, rfl, I64.mk (by omega) (by omega), hl, hx, ?_, (h8.chg cs (fun j hj => by omega)).mono (by omega), cc.step cs (fun j hj e => by omega)⟩
          exact (ho.chg cs (fun j _ hj e => by omega)).mono (fun j _ hj => by omega)

def StepsPost (w : World) (e : Ending) (w' : World) : Prop :=
  ∃ v os, e = .returned v ∧ os.length ≤ 21 ∧ (∀ o ∈ os, o.path.length ≤ 100) ∧ OwnOps (fun j => w.heap.size ≤ j) w' v os ∧ New w w'

def StepsAt (g _m : Nat) (w : World) (e : Ending) (w' : World) : Prop :=
  ∃ v os, e = .returned v ∧ os.length ≤ 21 ∧ (∀ o ∈ os, o.path.length ≤ 100) ∧ OwnOps (fun j => w.heap.size ≤ j) w' v os ∧ Chg (fun k => k = g) w w'

set_option maxHeartbeats 1000000 in
theorem drawSteps (g m : Nat) (w : World) (h : Rd g w m) (hm : m ≤ 100000) :
    Calls Tryd.prog 26 #[.pointer (some ⟨g, 0, none⟩)] w (StepsAt g m w) := by
  have hg := h.lt
  have n0 : New w (w.alloc (.cells #[] 34)) := (New.refl w).alloc _
  have o0 : OwnOps (fun j => w.heap.size ≤ j) (w.alloc (.cells #[] 34)) (.slice (some ⟨w.heap.size, 0, none⟩) 0 0) [] := OwnRecs.empty _ _ _
  go_enter Tryd.func26, Tryd.ntmps26
  go_wp2_with fail
  refine (pick g m 6 _ (h.new n0) (by omega) (by omega) (by omega)).mono ?_
  rintro e w1 ⟨n1, rfl, hn0, hn1, h1, c1⟩
  go_wp2_with fail
  refine (pick g _ 24 _ h1 (by omega) (by omega) (by omega)).mono ?_
  rintro e w2 ⟨q, rfl, hq0, hq1, h2, c2⟩
  have o2 := (OwnRecs.chg o0 c1 (fun j hj hs e => by simp at hj; omega)).chg c2 (fun j hj hs e => by omega)
  have cc2 := ((n0.chg _).trans c1).trans c2
  clear n0 o0 c1 c2 h1
  go_upto_if 11 with fail
  go_cut [4] (fun s4 wx => ∃ n : Nat, s4 = .int .i64 n ∧ n ≤ 21 ∧ Chg (fun k => k = g) w wx ∧ Rd g wx (m + 3) ∧ OwnOps (fun j => w.heap.size ≤ j) wx (.slice (some ⟨w.heap.size, 0, none⟩) 0 0) [])
  case first =>
    by_cases hq : q = 0
    · subst hq
      go_wp2_with fail
      refine (pick g _ 2 _ h2 (by omega) (by omega) (by omega)).mono ?_
      rintro e w3 ⟨r, rfl, hr0, hr1, h3, c3⟩
      go_wp2_with fail
      go_meet
      case rel => exact ⟨(20 + r).toNat, by rw [Int.toNat_of_nonneg (by omega)], by omega, cc2.trans c3, h3, OwnRecs.chg o2 c3 (fun j hj hs e => by omega)⟩
    · have hq' : (q == 0) = false := by simp [hq]
      go_wp2_with fail
      go_meet
      case rel => exact ⟨n1.toNat, by rw [Int.toNat_of_nonneg (by omega)], by omega, cc2, h2.mono (by omega), o2⟩
  case rest =>
    clear cc2 o2 h2
    obtain ⟨n, rfl, hn, cc, h4, o4⟩ := hcut
    go_wp2_with fail
    go_loopg [3, 5] n (fun gk v i wr => ∃ (k : Nat) (os : List OpR), gk = n - k ∧ k ≤ n ∧ i = .int .i64 k ∧ os.length = k ∧ (∀ o ∈ os, o.path.length ≤ 100) ∧ OwnOps (fun j => w.heap.size ≤ j) wr v os ∧ Rd g wr (m + 3 + 300 * k) ∧ Chg (fun k => k = g) w wr)
    case atStart => exact ⟨0, [], by omega, by omega, rfl, rfl, by simp, o4, h4, cc⟩
    case round =>
      obtain ⟨k, os, hgk, hk, rfl, hl, hp, ho, hr, hc⟩ := hrel
      have Hgk := Lib.hid hgk
      have Hl := Lib.hid hl
      have Hp := Lib.hid hp
      clear hgk hl hp
      by_cases hlt : k < n
      · go_wp2_with fail
        refine (drawStep g (m + 3 + 300 * k) wr hr (by omega)).mono ?_
        rintro e w5 ⟨o, u, rfl, hk0, hpl, hbl, hob, h5, c5⟩
        obtain ⟨us, r1, r2⟩ := OwnRecs.old ho
        obtain ⟨au, cu, rfl, -, -⟩ := hob.shape
        have r1' := r1.chg c5 (fun j hj hs e => by omega)
        have r2' := r2.chg c5 (fun j hj hs e => by omega)
        have cc5 := hc.trans c5
        have hv := r1.2
        have hsz := c5.size
        have hsw := hc.size
        have ft : Fields (fun j => wr.heap.size ≤ j) w5 [.int .i64 o.kind, .string ⟨o.path.toArray⟩, .slice au o.bytes.length cu] o.flds :=
          ⟨⟨rfl, hk0⟩, ⟨rfl, by unfold maxLen; omega⟩, (OwnI.of hob).mono (fun j _ hj => ⟨⟨hj, by simp [blk]⟩, by simp [blk]⟩), trivial⟩
        clear r1 r2 ho hob hr hc c5
        unfold txt
        go_wp2_with (at_builtin; refine wpRow_appendRec slOp _ _ rfl rfl _ os.length us [.int .i64 o.kind, .string ⟨o.path.toArray⟩, .slice au o.bytes.length cu] _ rfl r1' rfl (by intro u hu; simp at hu; rcases hu with rfl | rfl | rfl <;> rfl) rfl (by rw [Hl.out]; omega) (by decide) ?_; intro v' w6 q6 c6)
        have os' := OwnRecs.snoc (S := fun j => w.heap.size ≤ j ∧ j < wr.heap.size) (T := fun j => wr.heap.size ≤ j) r2' ft q6 c6 (fun j hj => ⟨hv j hj, by have := (hv j hj).2; omega⟩) (fun j hj hT => by omega)
        go_roundg (n - (k + 1))
        case measure => rw [Hgk.out]; omega
        case rel =>
          refine ⟨k + 1, os ++ [o], rfl, by omega, by go_num, by simp [Hl.out], ?_, ?_, (h5.chg c6 (fun j hj => by have := (hv j hj).1; omega)).mono (by omega), cc5.step c6 (fun j hj hh => by have := (hv j hh).1; omega)⟩
          · intro x hx
            rcases List.mem_append.1 hx with hx | hx
            · exact Hp.out x hx
            · simp at hx; subst hx; exact hpl
          · unfold OwnOps opFlds
            rw [List.length_append, List.flatMap_append]
            exact OwnRecs.mono os' (fun j hj hh => by rcases hh with hh | hh | hh <;> omega)
      · have hln : os.length ≤ 21 := by rw [Hl.out]; omega
        go_wp2_with fail
        go_ret
        exact ⟨_, os, rfl, hln, Hp.out, ho, hc⟩

theorem drawOpsValid {S : Nat → Prop} (v : Value) (bs : List Int) (w : World) (h : Nums .u8 S w v bs) :
    Calls Tryd.prog 10 #[v] w (StepsPost w) := by
  go_enter Tryd.func10, Tryd.ntmps10
  go_wp2_with fail
  refine (l6Open v bs w h).mono ?_
  rintro e w1 ⟨g, rfl, hg, hr, n1⟩
  go_wp2_with fail
  refine (drawSteps g 0 w1 hr (by omega)).mono ?_
  rintro e w2 ⟨v2, os, rfl, hl, hp, ho, c2⟩
  have ho' := OwnRecs.mono ho (T := fun j => w.heap.size ≤ j) (fun j _ hj => by have := n1.size; omega)
  obtain ⟨a, c, rfl, -, -, -⟩ := OwnRecs.shape ho
  go_wp2_with fail
  go_ret
  exact ⟨_, os, rfl, hl, hp, ho', n1.trans_chg c2 (fun k hk e => by omega)⟩

end Go.Proofs.YtpmcjbemicheoaaDoor
