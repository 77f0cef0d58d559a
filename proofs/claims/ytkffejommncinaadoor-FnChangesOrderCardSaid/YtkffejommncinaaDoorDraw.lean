/- Walks of the reader that the draws use: l6Open, pick. -/
import Derived.Test.YtkffejommncinaaDoorBaseA
import Derived.Deep.DeepCutAuto
namespace Go.Proofs.YtkffejommncinaaDoor
open Go.RowKit

/-- The reader at block g: bytes that lie elsewhere, and a place of at most m. -/
def Rd (g : Nat) (w : World) (m : Nat) : Prop :=
  ∃ bv bs, ∃ p : Nat, w.heap[g]? = some (.cells #[bv, .int .i64 p] 95 (0, 0)) ∧ p ≤ m ∧ Nums .u8 (fun k => k < g) w bv bs

theorem Rd.lt {g : Nat} {w : World} {m : Nat} (h : Rd g w m) : g < w.heap.size := by
  obtain ⟨_, _, _, h, _⟩ := h; exact (Array.getElem?_eq_some_iff.1 h).1
theorem Rd.new {g : Nat} {w w' : World} {m : Nat} (h : Rd g w m) (n : New w w') : Rd g w' m := by
  obtain ⟨bv, bs, p, h1, h2, h3⟩ := h
  exact ⟨bv, bs, p, n.heap h1, h2, h3.new n⟩
/-- What was made behind the reader may change. -/
theorem Rd.chg {g : Nat} {w w' : World} {m : Nat} {S : Nat → Prop} (h : Rd g w m) (n : Chg S w w') (hs : ∀ k, S k → g < k) : Rd g w' m := by
  obtain ⟨bv, bs, p, h1, h2, h3⟩ := h
  exact ⟨bv, bs, p, n.heap h1 (fun hg => by have := hs g hg; omega), h2, h3.chg n (fun k _ hk hS => by have := hs k hS; omega)⟩
theorem Rd.mono {g : Nat} {w : World} {m m' : Nat} (h : Rd g w m) (hm : m ≤ m') : Rd g w m' := by
  obtain ⟨bv, bs, p, h1, h2, h3⟩ := h
  exact ⟨bv, bs, p, h1, by omega, h3⟩

set_option maxRecDepth 4000 in
set_option maxHeartbeats 400000 in
theorem l6Open {S : Nat → Prop} (v : Value) (bs : List Int) (w : World) (h : Nums .u8 S w v bs) :
    Calls Tryd.prog 37 #[v] w fun e w' => ∃ g, e = .returned (.pointer (some ⟨g, 0, none⟩)) ∧ w.heap.size ≤ g ∧ Rd g w' 0 ∧ New w w' := by
  have h0 := h
  obtain ⟨a, c, rfl, h1, ⟨h2, -⟩, h3, h4⟩ := h
  unfold maxLen at h2
  have h0' := h0.old
  have H0 := Lib.hid h0'
  clear h0 h0'
  have hn : ∀ (w : World) (o : Obj), New w (w.alloc o) := fun w o => (New.refl w).alloc o
  have Hn := Lib.hid hn
  clear hn
  by_cases hl : 2000 < bs.length
  · go_enter Tryd.func37, Tryd.ntmps37
    go_wp2
    go_ret
    refine ⟨w.heap.size, rfl, Nat.le_refl _, ⟨_, bs.take 2000, 0, heap_alloc_new _ _, Nat.le_refl _, ?_⟩, Hn.out _ _⟩
    refine ((H0.out.take 2000 (by omega)).mono ?_).new (Hn.out _ _)
    intro k _ hk; omega
  · have hl' : ¬ (2000 < (bs.length : Int)) := by omega
    go_enter Tryd.func37, Tryd.ntmps37
    go_wp2
    go_ret
    refine ⟨w.heap.size, rfl, Nat.le_refl _, ⟨_, bs, 0, heap_alloc_new _ _, Nat.le_refl _, ?_⟩, Hn.out _ _⟩
    refine (H0.out.mono ?_).new (Hn.out _ _)
    intro k _ hk; omega

theorem xor_i64 (X Y : Nat) (hX : X < 1099511627776) (hY : Y < 1099511627776) : ∃ R : Nat, bits .xor .i64 (X : Int) (Y : Int) = (R : Int) ∧ R < 1099511627776 := by
  have hx : X ^^^ Y < 2 ^ 40 := Nat.xor_lt_two_pow (by omega) (by omega)
  have h1 : (BitVec.ofInt 64 (X : Int)).toNat = X := by
    rw [BitVec.ofInt_natCast, BitVec.toNat_ofNat]; exact Nat.mod_eq_of_lt (by omega)
  have h2 : (BitVec.ofInt 64 (Y : Int)).toNat = Y := by
    rw [BitVec.ofInt_natCast, BitVec.toNat_ofNat]; exact Nat.mod_eq_of_lt (by omega)
  refine ⟨X ^^^ Y, ?_, by omega⟩
  show IntKind.i64.wrap ((BitVec.ofInt 64 (X : Int) ^^^ BitVec.ofInt 64 (Y : Int)).toNat : Int) = _
  rw [BitVec.toNat_xor, h1, h2]
  simp [IntKind.wrap, IntKind.bits, IntKind.signed]
  omega

set_option maxHeartbeats 1000000 in
set_option maxRecDepth 100000 in
theorem pick (g m : Nat) (n : Int) (w : World) (h : Rd g w m) (hm : m ≤ 1000000) (hn1 : 1 ≤ n) (hn2 : n ≤ 1000000) :
    Calls Tryd.prog 49 #[.pointer (some ⟨g, 0, none⟩), .int .i64 n] w fun e w' =>
      ∃ r : Int, e = .returned (.int .i64 r) ∧ 0 ≤ r ∧ r < n ∧ Rd g w' (m + 1) ∧ Chg (fun k => k = g) w w' := by
  obtain ⟨bv, bs, p, h1, h2, h3⟩ := h
  have h3' := h3
  obtain ⟨a, c, rfl, g1, ⟨g2, -⟩, g3, g4⟩ := h3
  unfold maxLen at g2
  have hc0 : w.cell? ⟨g, 0, none⟩ = some (.slice a bs.length c) := by simp [World.cell?, h1]
  have hc1 : w.cell? ⟨g, 1, none⟩ = some (.int .i64 p) := by simp [World.cell?, h1]
  have hf : w.frozen? ⟨g, 1, none⟩ = false := by simp [World.frozen?, h1]
  have fin : ∀ n, Rd g ((w.setCell ⟨g, 1, none⟩ (.int .i64 ((p : Int) + 1))).drewN n) (m + 1) ∧ Chg (fun k => k = g) w ((w.setCell ⟨g, 1, none⟩ (.int .i64 ((p : Int) + 1))).drewN n) := by
    intro n
    have hch : Chg (fun k => k = g) w ((w.setCell ⟨g, 1, none⟩ (.int .i64 ((p : Int) + 1))).drewN n) := ((Chg.refl (fun k => k = g) w).setCell (a := ⟨g, 1, none⟩) _ (fun _ => rfl)).drewN n
    refine ⟨⟨_, bs, p + 1, ?_, by omega, h3'.chg hch (fun k _ hk => by omega)⟩, hch⟩
    simp [World.setCell, Array.getElem?_modify, h1]
  have Fin := Lib.hid fin
  have H1 := Lib.hid h1
  clear fin h1 h3'
  by_cases h0 : bs = []
  · subst h0
    go_enter Tryd.func49, Tryd.ntmps49
    go_wp2
    go_ret
    exact ⟨0, rfl, by omega, by omega, Fin.out 0⟩
  · rcases g4 with g4 | ⟨b, off, rfl, hblt, _, hc⟩
    · exact absurd g4 h0
    have hbg : b ≠ g := by omega
    have hl0 : 0 < bs.length := by
      cases bs with
      | nil => exact absurd rfl h0
      | cons _ _ => simp
    have hne : (((bs.length : Int) == 0)) = false := by simp; omega
    by_cases hp : p < bs.length
    · obtain ⟨x, hx⟩ := get_of hp
      have hcell := hc p x hx
      have hcell' : (w.setCell ⟨g, 1, none⟩ (.int .i64 ((p : Int) + 1))).cell? ⟨b, off + p, none⟩ = some (.int .u8 x) := by
        rw [World.cell?_setCell_other _ _ _ _ (fun e => hbg (congrArg Addr.block e).symm)]; exact hcell
      have hxb := (g3 x (List.mem_of_getElem? hx)).u8
      obtain ⟨hx0, hx1⟩ := hxb
      clear hc hx g3
      go_enter Tryd.func49, Tryd.ntmps49
      go_wp2
      go_ret
      exact ⟨_, rfl, Int.emod_nonneg _ (by omega), Int.emod_lt_of_pos _ (by omega), Fin.out 0⟩
    · have e1 : ∃ q : Nat, (p : Int) % (bs.length : Int) = (q : Int) ∧ q < bs.length := ⟨p % bs.length, by simp, Nat.mod_lt _ hl0⟩
      have e2 : ∃ q : Nat, ((p : Int) * 7 + 3) % (bs.length : Int) = (q : Int) ∧ q < bs.length := ⟨(p * 7 + 3) % bs.length, by simp, Nat.mod_lt _ hl0⟩
      have e3 : ∃ q : Nat, (p : Int) / (bs.length : Int) = (q : Int) ∧ q ≤ p := ⟨p / bs.length, by simp, Nat.div_le_self _ _⟩
      obtain ⟨q1, e1, hq1⟩ := e1
      obtain ⟨q2, e2, hq2⟩ := e2
      obtain ⟨q3, e3, hq3⟩ := e3
      obtain ⟨x, hx⟩ := get_of hq1
      obtain ⟨y, hy⟩ := get_of hq2
      have hcx : (w.setCell ⟨g, 1, none⟩ (.int .i64 ((p : Int) + 1))).cell? ⟨b, off + q1, none⟩ = some (.int .u8 x) := by
        rw [World.cell?_setCell_other _ _ _ _ (fun e => hbg (congrArg Addr.block e).symm)]; exact hc _ x hx
      have hcy : (w.setCell ⟨g, 1, none⟩ (.int .i64 ((p : Int) + 1))).cell? ⟨b, off + q2, none⟩ = some (.int .u8 y) := by
        rw [World.cell?_setCell_other _ _ _ _ (fun e => hbg (congrArg Addr.block e).symm)]; exact hc _ y hy
      have hxb := (g3 x (List.mem_of_getElem? hx)).u8
      obtain ⟨hx0, hx1⟩ := hxb
      have hyb := (g3 y (List.mem_of_getElem? hy)).u8
      obtain ⟨hy0, hy1⟩ := hyb
      clear hc hx hy g3
      go_enter Tryd.func49, Tryd.ntmps49
      go_upto_region 7 with fail
      go_cut [6] (fun s6 wx => ∃ x : Nat, s6 = .int .i64 x ∧ x < 1099511627776 ∧ Drew (w.setCell ⟨g, 1, none⟩ (.int .i64 ((p : Int) + 1))) wx)
      case first =>
        go_quiet (fail)
        go_wp2
        go_meet
        case rel =>
          refine ⟨(x * 131 + y * 1117 + (p : Int) * 29 + (q3 : Int) * 53).toNat, ?_, by omega, ⟨_, rfl⟩⟩
          rw [Int.toNat_of_nonneg (by omega)]
      case rest =>
        obtain ⟨X, rfl, hX, hD⟩ := hcut
        have hXd : X / 64 < 1099511627776 := Nat.lt_of_le_of_lt (Nat.div_le_self _ _) hX
        obtain ⟨R, hR, hR2⟩ := xor_i64 X (X / 64) hX hXd
        have ed : ((X / 64 : Nat) : Int) = (X : Int) / 64 := by simp
        rw [ed] at hR
        clear ed e1 e2 e3
        go_wp2
        go_ret
        obtain ⟨nd, rfl⟩ := hD
        refine ⟨_, rfl, ?_, ?_, Fin.out nd⟩
        · exact Int.emod_nonneg _ (by omega)
        · exact Int.emod_lt_of_pos _ (by omega)

end Go.Proofs.YtkffejommncinaaDoor
