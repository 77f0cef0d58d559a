/- The walk of l6In, the reference's test of bounds; the reference's tests of bytes. -/
import Derived.Test.YtipligidnoajfaaDoorBytes
namespace Go.Proofs.YtipligidnoajfaaDoor
open Go.RowKit

def inB (n l h : Int) : Bool := decide (l ≤ n) && decide (n ≤ h)

set_option maxHeartbeats 400000 in
theorem in_any (a b c : Int) (w : World) :
    Calls Tryd.prog 33 #[.int .i64 a, .int .i64 b, .int .i64 c] w fun e w' => e = .returned (.bool (inB a b c)) ∧ w = w' := by
  go_enter Tryd.func33, Tryd.ntmps33
  go_wp2
  all_goals (go_ret; exact ⟨ret_bool (by unfold inB; first | (simp_all; done) | (simp_all; omega)), rfl⟩)
theorem in_is {r : Bool} {a b c : Int} (h : inB a b c = r) (w : World) :
    Calls Tryd.prog 33 #[.int .i64 a, .int .i64 b, .int .i64 c] w fun e w' => e = .returned (.bool r) ∧ w = w' := h ▸ in_any a b c w

theorem bytesOk_in (x : Int) (r : List Int) : bytesOk (x :: r) = (inB x 0 255 && bytesOk r) := by
  rw [bytesOk]
  unfold inB
  by_cases h : x < 0 ∨ 255 < x
  · rw [if_pos h]
    rcases h with h | h
    · simp [show ¬ (0 ≤ x) from by omega]
    · simp [show ¬ (x ≤ 255) from by omega]
  · rw [if_neg h]; simp [show 0 ≤ x from by omega, show x ≤ 255 from by omega]

set_option maxHeartbeats 400000 in
theorem specFile {S : Nat → Prop} (v : Value) (xs : List Int) (w : World) (h : Ints S w v xs) :
    Calls Tryd.prog 46 #[v] w fun e w' => e = .returned (.bool (fileOk xs)) ∧ w = w' := by
  obtain ⟨a, c, rfl, h1, ⟨h2, -⟩, h3, h4⟩ := h
  unfold maxLen at h2
  go_enter Tryd.func46, Tryd.ntmps46
  go_wp2
  go_loop [3] (fun i => ∃ (k : Nat), k ≤ xs.length ∧ i = .int .i64 k ∧ bytesOk xs = bytesOk (xs.drop k)) (fun i => xs.length - (intOf i).toNat)
  case atStart => exact ⟨0, Nat.zero_le _, rfl, rfl⟩
  case round =>
    obtain ⟨k, hk, rfl, hq⟩ := hrel
    have Hq := Lib.hid hq; clear hq
    by_cases hlt : k < xs.length
    · obtain ⟨x, hx⟩ := get_of hlt
      rcases h4 with rfl | ⟨b, off, rfl, _, _, hc⟩
      · simp at hlt
      have hcell := hc k x hx
      have Hx := Lib.hid (drop_of hx)
      clear hc hx
      rcases hin : inB x 0 255 with _ | _
      · have Hin := Lib.hid hin
        have hf : bytesOk xs = false := by rw [Hq.out, Hx.out, bytesOk_in, hin]; rfl
        have Hf := Lib.hid hf
        clear hin hf
        go_wp2_with fail
        refine (in_is Hin.out _).mono ?_
        rintro e w1 ⟨rfl, rfl⟩
        go_wp2_with fail
        go_ret
        exact ⟨ret_bool (by simp [fileOk, Hf.out]), rfl⟩
      · have Hin := Lib.hid hin
        have hf : bytesOk xs = bytesOk (xs.drop (k + 1)) := by rw [Hq.out, Hx.out, bytesOk_in, hin]; simp
        have Hf := Lib.hid hf
        clear hin hf
        go_wp2_with fail
        refine (in_is Hin.out _).mono ?_
        rintro e w1 ⟨rfl, rfl⟩
        go_wp2_with fail
        go_round
        case rel => exact ⟨k + 1, by omega, by go_num, Hf.out⟩
        case measure => simp [intOf]; omega
    · go_wp2
      go_ret
      exact ⟨ret_bool (by rw [fileOk, Hq.out, drop_end hlt]; simp [bytesOk]; omega), rfl⟩

end Go.Proofs.YtipligidnoajfaaDoor
