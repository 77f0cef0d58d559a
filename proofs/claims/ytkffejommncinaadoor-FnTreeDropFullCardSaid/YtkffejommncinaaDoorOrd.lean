/- The order of texts: cmp.Compare. -/
import Derived.Test.YtkffejommncinaaDoorTxt
import Derived.Sort.Walk0
namespace Go.Proofs.YtkffejommncinaaDoor
open Go.RowKit

def sLt (a b : List UInt8) : Bool := decide (a < b)
theorem less_is (a b : List UInt8) : Op.bytesLess a b = sLt a b := bytesLess_eq a b
def sCmp (a b : List UInt8) : Int := if sLt a b = true then -1 else if a = b then 0 else 1
theorem sLt_irrefl (a : List UInt8) : sLt a a = false := by simp [sLt, List.lt_irrefl]
theorem sLt_trans {a b c : List UInt8} (h : sLt a b = true) (g : sLt b c = true) : sLt a c = true := by
  simp only [sLt, decide_eq_true_eq] at *
  exact List.lt_trans h g
theorem sLt_total {a b : List UInt8} (h : sLt a b = false) (g : sLt b a = false) : a = b := by
  simp only [sLt, decide_eq_false_iff_not, List.not_lt] at *
  exact List.le_antisymm g h
theorem sCmp_bd (a b : List UInt8) : -1 ≤ sCmp a b ∧ sCmp a b ≤ 1 := by unfold sCmp; split <;> (try split) <;> omega
theorem sCmp_neg (a b : List UInt8) : decide (sCmp a b < 0) = sLt a b := by
  unfold sCmp
  rcases h : sLt a b with _ | _
  · simp; split <;> omega
  · simp
theorem sCmp_zero {a b : List UInt8} : sCmp a b = 0 ↔ a = b := by
  unfold sCmp
  constructor
  · intro h
    split at h
    · omega
    · split at h
      · assumption
      · omega
  · rintro rfl
    simp [sLt_irrefl]

set_option maxRecDepth 4000 in
set_option maxHeartbeats 400000 in
theorem nanStr (a : ByteArray) (w : World) :
    Calls Tryd.prog 100 #[.string a] w fun e w' => e = .returned (.bool false) ∧ w = w' := by
  go_enter Tryd.func100, Tryd.ntmps100
  go_wp2_with fail
  go_ret
  exact ⟨ret_bool (by simp), rfl⟩

set_option maxRecDepth 4000 in
set_option maxHeartbeats 400000 in
theorem cmpStr (a b : List UInt8) (w : World) :
    Calls Tryd.prog 91 #[.string ⟨a.toArray⟩, .string ⟨b.toArray⟩] w fun e w' => e = .returned (.int .i64 (sCmp a b)) ∧ w = w' := by
  have Hn := Lib.hid nanStr
  rcases h : sLt a b with _ | _
  · by_cases he : a = b
    · have hr : sCmp a b = 0 := sCmp_zero.2 he
      rw [hr]
      subst he
      have h1 : Op.bytesLess a a = false := by rw [less_is]; exact h
      clear hr h
      go_enter Tryd.func91, Tryd.ntmps91
      go_wp2_with (go_at_call 100; refine (Hn.out _ _).mono ?_; rintro e w1 ⟨rfl, rfl⟩)
      go_ret
      exact ⟨rfl, rfl⟩
    · have hr : sCmp a b = 1 := by simp [sCmp, h, he]
      rw [hr]
      have h1 : Op.bytesLess a b = false := by rw [less_is]; exact h
      have h2 : (a == b) = false := by simp [he]
      clear hr h he
      go_enter Tryd.func91, Tryd.ntmps91
      go_wp2_with (go_at_call 100; refine (Hn.out _ _).mono ?_; rintro e w1 ⟨rfl, rfl⟩)
      go_ret
      exact ⟨rfl, rfl⟩
  · have hr : sCmp a b = -1 := by simp [sCmp, h]
    rw [hr]
    have h1 : Op.bytesLess a b = true := by rw [less_is]; exact h
    clear hr h
    go_enter Tryd.func91, Tryd.ntmps91
    go_wp2_with (go_at_call 100; refine (Hn.out _ _).mono ?_; rintro e w1 ⟨rfl, rfl⟩)
    go_ret
    exact ⟨rfl, rfl⟩
end Go.Proofs.YtkffejommncinaaDoor
