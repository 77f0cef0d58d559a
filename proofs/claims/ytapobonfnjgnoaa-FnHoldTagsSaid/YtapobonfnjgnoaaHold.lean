/- Holds: the statements' helpers szHold, eqHold, toHold. -/
import Derived.Test.YtapobonfnjgnoaaTxt
import Derived.Test.YtapobonfnjgnoaaRecsRow
namespace Go.Proofs.Ytapobonfnjgnoaa
open Go.RowKit

structure HoldR where
  snap : List UInt8
  tag : List UInt8
  deriving DecidableEq
def HoldR.flds (o : HoldR) : List Fld := [.txt o.snap, .txt o.tag]
def HoldR.size (o : HoldR) : Nat := o.snap.length + o.tag.length

set_option maxRecDepth 4000 in
set_option maxHeartbeats 400000 in
theorem szHold (o : HoldR) (l : Int) (w : World) (hp : o.snap.length ≤ maxLen) (hq : o.tag.length ≤ maxLen) (hl0 : 0 ≤ l) (hl1 : l ≤ 1048576) :
    Calls Try.prog 24 #[.agg #[txt o.snap, txt o.tag], .int .i64 l] w fun e w' => e = .returned (.int .i64 (if l < o.size then -1 else l - o.size)) ∧ New w w' := by
  unfold maxLen at hp hq
  unfold txt HoldR.size
  have hn : ∀ (W : World) (o : Obj), New W (W.alloc o) := fun W o => (New.refl W).alloc o
  have Hn := Lib.hid hn
  clear hn
  by_cases h5 : l < o.snap.length
  · have h6 : l - (o.snap.length : Int) < 0 := by omega
    have h7 : l < ((o.snap.length + o.tag.length : Nat) : Int) := by omega
    rw [if_pos h7]
    go_enter Try.func24, Try.ntmps24
    go_wp2_with fail
    go_ret
    exact ⟨rfl, Hn.out _ _⟩
  · have h6 : ¬ (l - (o.snap.length : Int) < 0) := by omega
    by_cases h7 : l - o.snap.length < o.tag.length
    · have h8 : l < ((o.snap.length + o.tag.length : Nat) : Int) := by omega
      have h9 : l - (o.snap.length : Int) - (o.tag.length : Int) < 0 := by omega
      rw [if_pos h8]
      go_enter Try.func24, Try.ntmps24
      go_wp2_with fail
      go_ret
      exact ⟨rfl, Hn.out _ _⟩
    · have h8 : ¬ (l < ((o.snap.length + o.tag.length : Nat) : Int)) := by omega
      have h9 : ¬ (l - (o.snap.length : Int) - (o.tag.length : Int) < 0) := by omega
      rw [if_neg h8]
      go_enter Try.func24, Try.ntmps24
      go_wp2_with fail
      go_ret
      exact ⟨ret_int (by omega), Hn.out _ _⟩

set_option maxRecDepth 4000 in
set_option maxHeartbeats 400000 in
theorem eqHold (o p : HoldR) (w : World) :
    Calls Try.prog 46 #[.agg #[txt o.snap, txt o.tag], .agg #[txt p.snap, txt p.tag]] w fun e w' => e = .returned (.bool (decide (o = p))) ∧ New w w' := by
  obtain ⟨a, b⟩ := o
  obtain ⟨c, d⟩ := p
  simp only
  unfold txt
  have hn : ∀ (W : World) (o o' : Obj), New W ((W.alloc o).alloc o') := fun W o o' => ((New.refl W).alloc o).alloc o'
  have Hn := Lib.hid hn
  clear hn
  by_cases h1 : a = c
  · subst h1
    by_cases h2 : b = d
    · subst h2
      have hd : decide (HoldR.mk a b = HoldR.mk a b) = true := by simp
      rw [hd]
      clear hd
      go_enter Try.func46, Try.ntmps46
      go_wp2_with fail
      go_ret
      exact ⟨rfl, Hn.out _ _ _⟩
    · have hd : decide (HoldR.mk a b = HoldR.mk a d) = false := by simp [h2]
      have hb : (b == d) = false := by simp [h2]
      have hb2 : (b != d) = true := by simp [h2]
      rw [hd]
      clear hd h2
      go_enter Try.func46, Try.ntmps46
      go_wp2_with fail
      go_ret
      exact ⟨rfl, Hn.out _ _ _⟩
  · have hd : decide (HoldR.mk a b = HoldR.mk c d) = false := by simp [h1]
    have hb : (a == c) = false := by simp [h1]
    have hb2 : (a != c) = true := by simp [h1]
    rw [hd]
    clear hd h1
    go_enter Try.func46, Try.ntmps46
    go_wp2_with fail
    go_ret
    exact ⟨rfl, Hn.out _ _ _⟩
end Go.Proofs.Ytapobonfnjgnoaa
