/- The order of holds: cmp.Compare, cmp.Or, holdOrder, l31Before; holds that are equal. -/
import Derived.Test.YtapobonfnjgnoaaStrs
import Derived.Sort.Walk0
import Derived.Deep.RegionHeld3
namespace Go.Proofs.Ytapobonfnjgnoaa
open Go.RowKit

def sLt (a b : List UInt8) : Bool := decide (a < b)
theorem less_is (a b : List UInt8) : Op.bytesLess a b = sLt a b := bytesLess_eq a b
def sCmp (a b : List UInt8) : Int := if sLt a b = true then -1 else if a = b then 0 else 1
def hLt (x y : HoldR) : Bool := sLt x.snap y.snap || (decide (x.snap = y.snap) && sLt x.tag y.tag)
def orI (x y : Int) : Int := if x ≠ 0 then x else y
def hCmp (x y : HoldR) : Int := orI (sCmp x.snap y.snap) (sCmp x.tag y.tag)
theorem sLt_irrefl (a : List UInt8) : sLt a a = false := by simp [sLt, List.lt_irrefl]
theorem sLt_trans {a b c : List UInt8} (h : sLt a b = true) (g : sLt b c = true) : sLt a c = true := by
  simp only [sLt, decide_eq_true_eq] at *
  exact List.lt_trans h g
theorem sLt_total {a b : List UInt8} (h : sLt a b = false) (g : sLt b a = false) : a = b := by
  simp only [sLt, decide_eq_false_iff_not, List.not_lt] at *
  exact List.le_antisymm g h
theorem hLt_irrefl (x : HoldR) : hLt x x = false := by simp [hLt, sLt_irrefl]
theorem hLt_trans {x y z : HoldR} (h : hLt x y = true) (g : hLt y z = true) : hLt x z = true := by
  simp only [hLt, Bool.or_eq_true, Bool.and_eq_true, decide_eq_true_eq] at *
  rcases h with h | ⟨h, h'⟩ <;> rcases g with g | ⟨g, g'⟩
  · exact .inl (sLt_trans h g)
  · exact .inl (g ▸ h)
  · exact .inl (h ▸ g)
  · exact .inr ⟨h.trans g, sLt_trans h' g'⟩
theorem hLt_total {x y : HoldR} (h : hLt x y = false) (g : hLt y x = false) : x = y := by
  simp only [hLt, Bool.or_eq_false_iff, Bool.and_eq_false_iff, decide_eq_false_iff_not] at *
  have e := sLt_total h.1 g.1
  have e2 : x.tag = y.tag := by
    rcases h.2 with h2 | h2
    · exact absurd e h2
    · rcases g.2 with g2 | g2
      · exact absurd e.symm g2
      · exact sLt_total h2 g2
  obtain ⟨a, b⟩ := x
  obtain ⟨c, d⟩ := y
  simp only at e e2
  rw [e, e2]
theorem hLt_asymm {x y : HoldR} (h : hLt x y = true) : hLt y x = false := by
  rcases g : hLt y x with _ | _
  · rfl
  · have := hLt_trans h g
    rw [hLt_irrefl] at this
    cases this
theorem sCmp_bd (a b : List UInt8) : -1 ≤ sCmp a b ∧ sCmp a b ≤ 1 := by unfold sCmp; split <;> (try split) <;> omega
theorem hCmp_bd (x y : HoldR) : -1 ≤ hCmp x y ∧ hCmp x y ≤ 1 := by
  unfold hCmp orI; split
  · exact sCmp_bd _ _
  · exact sCmp_bd _ _
theorem sCmp_neg (a b : List UInt8) : decide (sCmp a b < 0) = sLt a b := by
  unfold sCmp
  rcases h : sLt a b with _ | _
  · simp; split <;> omega
  · simp
theorem sCmp_zero {a b : List UInt8} : sCmp a b = 0 ↔ a = b := by
  unfold sCmp
  constructor
  · intro h
    split at h
    · omega
    · split at h
      · assumption
      · omega
  · rintro rfl
    simp [sLt_irrefl]
theorem hCmp_neg (x y : HoldR) : decide (hCmp x y < 0) = hLt x y := by
  unfold hCmp hLt orI
  by_cases h : x.snap = y.snap
  · have e : sCmp x.snap y.snap = 0 := sCmp_zero.2 h
    rw [if_neg (by simp [e]), sCmp_neg, h]
    simp [sLt_irrefl]
  · have e : ¬ sCmp x.snap y.snap = 0 := fun e => h (sCmp_zero.1 e)
    rw [if_pos e, sCmp_neg]
    simp [h]

set_option maxRecDepth 4000 in
set_option maxHeartbeats 400000 in
theorem nanStr (a : ByteArray) (w : World) :
    Calls Try.prog 58 #[.string a] w fun e w' => e = .returned (.bool false) ∧ w = w' := by
  go_enter Try.func58, Try.ntmps58
  go_wp2_with fail
  go_ret
  exact ⟨ret_bool (by simp), rfl⟩

set_option maxRecDepth 4000 in
set_option maxHeartbeats 400000 in
theorem cmpStr (a b : List UInt8) (w : World) :
    Calls Try.prog 53 #[.string ⟨a.toArray⟩, .string ⟨b.toArray⟩] w fun e w' => e = .returned (.int .i64 (sCmp a b)) ∧ w = w' := by
  have Hn := Lib.hid nanStr
  rcases h : sLt a b with _ | _
  · by_cases he : a = b
    · have hr : sCmp a b = 0 := sCmp_zero.2 he
      rw [hr]
      subst he
      have h1 : Op.bytesLess a a = false := by rw [less_is]; exact h
      clear hr h
      go_enter Try.func53, Try.ntmps53
      go_wp2_with (go_at_call 58; refine (Hn.out _ _).mono ?_; rintro e w1 ⟨rfl, rfl⟩)
      go_ret
      exact ⟨rfl, rfl⟩
    · have hr : sCmp a b = 1 := by simp [sCmp, h, he]
      rw [hr]
      have h1 : Op.bytesLess a b = false := by rw [less_is]; exact h
      have h2 : (a == b) = false := by simp [he]
      clear hr h he
      go_enter Try.func53, Try.ntmps53
      go_wp2_with (go_at_call 58; refine (Hn.out _ _).mono ?_; rintro e w1 ⟨rfl, rfl⟩)
      go_ret
      exact ⟨rfl, rfl⟩
  · have hr : sCmp a b = -1 := by simp [sCmp, h]
    rw [hr]
    have h1 : Op.bytesLess a b = true := by rw [less_is]; exact h
    clear hr h
    go_enter Try.func53, Try.ntmps53
    go_wp2_with (go_at_call 58; refine (Hn.out _ _).mono ?_; rintro e w1 ⟨rfl, rfl⟩)
    go_ret
    exact ⟨rfl, rfl⟩

set_option maxRecDepth 4000 in
set_option maxHeartbeats 400000 in
theorem cmpOr (b : Nat) (x y : Int) (w : World) (h0 : w.cell? ⟨b, 0, none⟩ = some (.int .i64 x)) (h1 : w.cell? ⟨b, 1, none⟩ = some (.int .i64 y)) :
    Calls Try.prog 52 #[.slice (some ⟨b, 0, none⟩) 2 2] w fun e w' => e = .returned (.int .i64 (orI x y)) ∧ w = w' := by
  go_enter Try.func52, Try.ntmps52
  go_wp2_with fail
  go_loopg [8] 2 (fun gk i wr => ∃ (k : Nat), gk = 2 - k ∧ k ≤ 2 ∧ i = .int .i64 k ∧ wr = w ∧ (1 ≤ k → x = 0) ∧ (2 ≤ k → y = 0))
  case atStart => exact ⟨0, by omega, by omega, rfl, rfl, by omega, by omega⟩
  case round =>
    obtain ⟨k, hgk, hk, rfl, rfl, hx, hy⟩ := hrel
    have Hgk := Lib.hid hgk
    have Hx := Lib.hid hx
    have Hy := Lib.hid hy
    clear hgk hx hy
    have hcs : k = 0 ∨ k = 1 ∨ k = 2 := by omega
    rcases hcs with rfl | rfl | rfl
    · by_cases h : x = 0
      · subst h
        go_wp2_with fail
        go_roundg 1
        case measure => rw [Hgk.out]; omega
        case rel => exact ⟨1, by omega, by omega, by go_num, rfl, by simp, by omega⟩
      · have h2 : (x != 0) = true := by simp [h]
        have Hh := Lib.hid h
        clear h
        go_wp2_with fail
        go_ret
        exact ⟨ret_int (by simp [orI, Hh.out]), rfl⟩
    · have h0x := Hx.out (by omega)
      subst h0x
      by_cases h : y = 0
      · subst h
        go_wp2_with fail
        go_roundg 0
        case measure => rw [Hgk.out]; omega
        case rel => exact ⟨2, by omega, by omega, by go_num, rfl, by simp, by simp⟩
      · have h2 : (y != 0) = true := by simp [h]
        have Hh := Lib.hid h
        clear h
        go_wp2_with fail
        go_ret
        exact ⟨ret_int (by simp [orI]), rfl⟩
    · have h0x := Hx.out (by omega)
      have h0y := Hy.out (by omega)
      subst h0x h0y
      go_wp2_with fail
      go_ret
      exact ⟨ret_int (by simp [orI]), rfl⟩

theorem two_new (w : World) (x y : Int) : (w.alloc (.cells #[.int .i64 x, .int .i64 y] 3)).drew.cell? ⟨w.heap.size, 0, none⟩ = some (.int .i64 x) ∧ (w.alloc (.cells #[.int .i64 x, .int .i64 y] 3)).drew.cell? ⟨w.heap.size, 1, none⟩ = some (.int .i64 y) := by
  have h := heap_alloc_new w (.cells #[.int .i64 x, .int .i64 y] 3)
  constructor
  · show World.cell? (w.alloc _) _ = _
    unfold World.cell?; rw [h]; rfl
  · show World.cell? (w.alloc _) _ = _
    unfold World.cell?; rw [h]; rfl

set_option maxRecDepth 4000 in
set_option maxHeartbeats 1000000 in
theorem holdOrder (x y : HoldR) (w : World) :
    Calls Try.prog 40 #[.agg #[txt x.snap, txt x.tag], .agg #[txt y.snap, txt y.tag]] w fun e w' => e = .returned (.int .i64 (hCmp x y)) ∧ New w w' := by
  obtain ⟨a, b⟩ := x
  obtain ⟨c, d⟩ := y
  unfold hCmp txt
  simp only
  have Hc := Lib.hid cmpStr
  have Ho := Lib.hid cmpOr
  have n0 := ((New.refl w).alloc (.cells #[.string ⟨a.toArray⟩, .string ⟨b.toArray⟩] 25)).alloc (.cells #[.string ⟨c.toArray⟩, .string ⟨d.toArray⟩] 25)
  have g0 : ((w.alloc (.cells #[.string ⟨a.toArray⟩, .string ⟨b.toArray⟩] 25)).alloc (.cells #[.string ⟨c.toArray⟩, .string ⟨d.toArray⟩] 25)).heap[w.heap.size]? = some (.cells #[.string ⟨a.toArray⟩, .string ⟨b.toArray⟩] 25) := ((New.refl _).alloc _).heap (heap_alloc_new w _)
  have g1 : ((w.alloc (.cells #[.string ⟨a.toArray⟩, .string ⟨b.toArray⟩] 25)).alloc (.cells #[.string ⟨c.toArray⟩, .string ⟨d.toArray⟩] 25)).heap[w.heap.size + 1]? = some (.cells #[.string ⟨c.toArray⟩, .string ⟨d.toArray⟩] 25) := by
    have h := heap_alloc_new (w.alloc (.cells #[.string ⟨a.toArray⟩, .string ⟨b.toArray⟩] 25)) (.cells #[.string ⟨c.toArray⟩, .string ⟨d.toArray⟩] 25)
    simpa using h
  have G0 := Lib.hid g0
  have G1 := Lib.hid g1
  have N0 := Lib.hid n0
  clear g0 g1 n0
  go_enter Try.func40, Try.ntmps40
  go_wp2_with fail
  generalize (w.alloc (.cells #[.string ⟨a.toArray⟩, .string ⟨b.toArray⟩] 25)).alloc (.cells #[.string ⟨c.toArray⟩, .string ⟨d.toArray⟩] 25) = w1 at *
  generalize w.heap.size = g at *
  have g0 := G0.out
  have g1 := G1.out
  have k0 : w1.drew.cell? ⟨g, 0, none⟩ = some (.string ⟨a.toArray⟩) := by show w1.cell? _ = _; simp [World.cell?, g0]
  have k1 : w1.drew.cell? ⟨g, 1, none⟩ = some (.string ⟨b.toArray⟩) := by show w1.cell? _ = _; simp [World.cell?, g0]
  have k2 : w1.drew.cell? ⟨g + 1, 0, none⟩ = some (.string ⟨c.toArray⟩) := by show w1.cell? _ = _; simp [World.cell?, g1]
  have k3 : w1.drew.cell? ⟨g + 1, 1, none⟩ = some (.string ⟨d.toArray⟩) := by show w1.cell? _ = _; simp [World.cell?, g1]
  clear g0 g1
  have hn0 := N0.out
  go_region_held3 (fun w' => w'.cell? ⟨g, 0, none⟩ = some (.string ⟨a.toArray⟩) ∧ w'.cell? ⟨g, 1, none⟩ = some (.string ⟨b.toArray⟩) ∧ w'.cell? ⟨g + 1, 0, none⟩ = some (.string ⟨c.toArray⟩) ∧ w'.cell? ⟨g + 1, 1, none⟩ = some (.string ⟨d.toArray⟩)) (first | exact ⟨k0, k1, k2, k3⟩ | exact ⟨(((New.refl w1).alloc _).drew).cell k0, (((New.refl w1).alloc _).drew).cell k1, (((New.refl w1).alloc _).drew).cell k2, (((New.refl w1).alloc _).drew).cell k3⟩)
    (first
      | (go_at_call 53; refine (Hc.out _ _ _).mono ?_; rintro e w3 ⟨rfl, rfl⟩)
      | (go_at_call 52; refine (Ho.out _ _ _ _ (two_new w1 (sCmp a c) (sCmp b d)).1 (two_new w1 (sCmp a c) (sCmp b d)).2).mono ?_; rintro e w4 ⟨rfl, rfl⟩))
  all_goals (go_wp2_with fail; go_ret; exact ⟨rfl, (hn0.alloc _).drew⟩)

set_option maxRecDepth 4000 in
set_option maxHeartbeats 1000000 in
theorem specBefore (x y : HoldR) (w : World) :
    Calls Try.prog 43 #[.agg #[txt x.snap, txt x.tag], .agg #[txt y.snap, txt y.tag]] w fun e w' => e = .returned (.bool (hLt x y)) ∧ New w w' := by
  obtain ⟨a, b⟩ := x
  obtain ⟨c, d⟩ := y
  unfold hLt txt
  simp only
  have Hn := Lib.hid (((New.refl w).alloc (.cells #[.string ⟨a.toArray⟩, .string ⟨b.toArray⟩] 25)).alloc (.cells #[.string ⟨c.toArray⟩, .string ⟨d.toArray⟩] 25))
  rcases h : sLt a c with _ | _
  · have h1 : Op.bytesLess a c = false := by rw [less_is]; exact h
    by_cases he : a = c
    · subst he
      rcases h' : sLt b d with _ | _
      · have h2 : Op.bytesLess b d = false := by rw [less_is]; exact h'
        clear h h'
        simp only [decide_true, Bool.and_false, Bool.or_false]
        go_enter Try.func43, Try.ntmps43
        go_wp2_with fail
        go_ret
        exact ⟨rfl, Hn.out⟩
      · have h2 : Op.bytesLess b d = true := by rw [less_is]; exact h'
        clear h h'
        simp only [decide_true, Bool.and_true, Bool.or_true]
        go_enter Try.func43, Try.ntmps43
        go_wp2_with fail
        go_ret
        exact ⟨rfl, Hn.out⟩
    · have h2 : (a == c) = false := by simp [he]
      rw [decide_eq_false he]
      clear h he
      simp only [Bool.false_and, Bool.or_false]
      go_enter Try.func43, Try.ntmps43
      go_wp2_with fail
      go_ret
      exact ⟨rfl, Hn.out⟩
  · have h1 : Op.bytesLess a c = true := by rw [less_is]; exact h
    clear h
    simp only [Bool.true_or]
    go_enter Try.func43, Try.ntmps43
    go_wp2_with fail
    go_ret
    exact ⟨rfl, Hn.out⟩
end Go.Proofs.Ytapobonfnjgnoaa
