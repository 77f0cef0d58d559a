/- Walks of TimesValid, the program's and the reference's, and the plain law that they answer alike. -/
import Derived.Test.YtfcdhmbooblpoaaInts
namespace Go.Proofs.Ytfcdhmbooblpoaa
open Go.RowKit

def tvFrom (last : Int) : List Int → Bool
  | [] => true
  | x :: r => if x ≤ last ∨ 9999 < x then false else tvFrom x r

def timesOk (xs : List Int) : Bool := decide (xs.length ≤ 20) && tvFrom (-1) xs







set_option maxHeartbeats 400000 in
theorem implTv {S : Nat → Prop} (v : Value) (xs : List Int) (w : World) (h : Ints S w v xs) :
    Calls Try.prog 18 #[v] w fun e w' => e = .returned (.bool (timesOk xs)) ∧ w = w' := by
  obtain ⟨a, c, rfl, h1, ⟨h2, -⟩, h3, h4⟩ := h
  unfold maxLen at h2
  by_cases hlen : xs.length ≤ 20
  · have hl20 : decide ((20 : Int) < xs.length) = false := by simp; omega
    go_enter Try.func18, Try.ntmps18
    go_wp2
    go_loop [3, 11] (fun l i => ∃ (k : Nat) (q : Int), k ≤ xs.length ∧ i = .int .i64 k ∧ l = .int .i64 q ∧ tvFrom (-1) xs = tvFrom q (xs.drop k)) (fun _ i => xs.length - (intOf i).toNat)
    case atStart => exact ⟨0, -1, Nat.zero_le _, rfl, rfl, rfl⟩
    case round =>
      obtain ⟨k, q, hk, rfl, rfl, hq⟩ := hrel
      have Hq := Lib.hid hq; clear hq
      by_cases hlt : k < xs.length
      · obtain ⟨x, hx⟩ := get_of hlt
        rcases h4 with rfl | ⟨b, off, rfl, _, _, hc⟩
        · simp at hlt
        have hcell := hc k x hx
        have Hx := Lib.hid (drop_of hx)
        clear hc hx
        by_cases hb : x ≤ q ∨ 9999 < x
        · have hf : timesOk xs = false := by simp [timesOk, Hq.out, Hx.out, tvFrom, hb]
          have Hf := Lib.hid hf; clear hf
          go_wp2
          all_goals (go_ret; exact ⟨ret_bool Hf.out.symm, rfl⟩)
        · have hf : tvFrom (-1) xs = tvFrom x (xs.drop (k + 1)) := by rw [Hq.out, Hx.out, tvFrom, if_neg hb]
          have Hf := Lib.hid hf; clear hf
          have hb1 : ¬ x ≤ q := by omega
          have hb2 : ¬ 9999 < x := by omega
          go_wp2
          go_round
          case rel => exact ⟨k + 1, x, by omega, by go_num, rfl, Hf.out⟩
          case measure => simp [intOf]; omega
      · go_wp2
        go_ret
        refine ⟨ret_bool ?_, rfl⟩
        simp [timesOk, hlen, Hq.out, List.drop_eq_nil_of_le (show xs.length ≤ k by omega), tvFrom]
  · go_enter Try.func18, Try.ntmps18
    go_wp2
    go_ret
    exact ⟨ret_bool (by simp [timesOk, hlen]), rfl⟩

def inB (n l h : Int) : Bool := decide (l ≤ n) && decide (n ≤ h)

set_option maxHeartbeats 400000 in
theorem in_any (a b c : Int) (w : World) :
    Calls Try.prog 33 #[.int .i64 a, .int .i64 b, .int .i64 c] w fun e w' => e = .returned (.bool (inB a b c)) ∧ w = w' := by
  go_enter Try.func33, Try.ntmps33
  go_wp2
  all_goals (go_ret; exact ⟨ret_bool (by unfold inB; first | (simp_all; done) | (simp_all; omega)), rfl⟩)
theorem in_is {r : Bool} {a b c : Int} (h : inB a b c = r) (w : World) :
    Calls Try.prog 33 #[.int .i64 a, .int .i64 b, .int .i64 c] w fun e w' => e = .returned (.bool r) ∧ w = w' := h ▸ in_any a b c w

/-- the reference: each number is in bounds and above the one ahead of it -/
def okFrom (p : Option Int) : List Int → Bool
  | [] => true
  | x :: r => if inB x 0 9999 = false ∨ (∃ q, p = some q ∧ x ≤ q) then false else okFrom (some x) r

def specOk (xs : List Int) : Bool := okFrom none xs && decide (xs.length ≤ 20)

set_option maxHeartbeats 400000 in
theorem specTv {S : Nat → Prop} (v : Value) (xs : List Int) (w : World) (h : Ints S w v xs) :
    Calls Try.prog 16 #[v] w fun e w' => e = .returned (.bool (specOk xs)) ∧ Drew w w' := by
  have h0 := h
  obtain ⟨a, c, rfl, h1, ⟨h2, -⟩, h3, h4⟩ := h
  unfold maxLen at h2
  go_enter Try.func16, Try.ntmps16
  go_wp2
  go_loopw [3] (fun i wr => ∃ (k : Nat), k ≤ xs.length ∧ i = .int .i64 k ∧ Drew w wr ∧ okFrom none xs = okFrom (if k = 0 then none else xs[k-1]?) (xs.drop k)) (fun i _ => xs.length - (intOf i).toNat)
  case atStart => exact ⟨0, Nat.zero_le _, rfl, Drew.refl _, rfl⟩
  case round =>
    obtain ⟨k, hk, rfl, hw, hq⟩ := hrel
    rename World => wr
    have Hq := Lib.hid hq; clear hq
    by_cases hlt : k < xs.length
    · obtain ⟨x, hx⟩ := get_of hlt
      rcases h4 with rfl | ⟨b, off, rfl, _, _, hc⟩
      · simp at hlt
      have hcell : wr.cell? ⟨b, off + k, none⟩ = some (.int .i64 x) := by rw [hw.cell]; exact hc k x hx
      have Hx := Lib.hid (drop_of hx)
      have Hx' := Lib.hid hx
      clear hx
      rcases hin : inB x 0 9999 with _ | _
      · have Hin := Lib.hid hin
        clear hc hin
        go_wp2
        go_quiet ((go_at_call 33; refine quiet_of_eq (in_is Hin.out _)))
        go_wp2
        go_ret
        exact ⟨ret_bool (by simp [specOk, Hq.out, Hx.out, okFrom, Hin.out]), hw.drewN _⟩
      · have Hin := Lib.hid hin
        clear hin
        by_cases hk0 : k = 0
        · subst hk0
          simp only [Nat.add_zero] at hcell
          go_wp2
          go_quiet ((go_at_call 33; refine quiet_of_eq (in_is Hin.out _)))
          go_wp2
          go_roundw
          case rel => exact ⟨1, by omega, rfl, hw.drewN _, by rw [Hq.out, Hx.out]; simp [okFrom, Hin.out, Hx'.out]⟩
          case measure => simp [intOf]; omega
        · obtain ⟨q, hq⟩ := get_of (show k - 1 < xs.length by omega)
          have hcq : wr.cell? ⟨b, off + (k - 1), none⟩ = some (.int .i64 q) := by rw [hw.cell]; exact hc (k - 1) q hq
          have Hqq := Lib.hid hq
          clear hc hq
          have hpos : decide (0 < k) = true := by simp; omega
          by_cases hle : x ≤ q
          · go_wp2
            go_quiet ((go_at_call 33; refine quiet_of_eq (in_is Hin.out _)))
            go_wp2
            go_ret
            exact ⟨ret_bool (by simp [specOk, Hq.out, Hx.out, okFrom, Hin.out, hk0, Hqq.out, hle]), hw.drewN _⟩
          · go_wp2
            go_quiet ((go_at_call 33; refine quiet_of_eq (in_is Hin.out _)))
            go_wp2
            go_roundw
            case rel => exact ⟨k + 1, by omega, by go_num, hw.drewN _, by rw [Hq.out, Hx.out]; simp [okFrom, Hin.out, hk0, Hqq.out, hle, Hx'.out]⟩
            case measure => simp [intOf]; omega
    · go_wp2
      go_ret
      exact ⟨ret_bool (by rw [specOk, Hq.out, drop_end hlt]; simp [okFrom]; omega), hw⟩

theorem ok_some : ∀ (xs : List Int) (q : Int), 0 ≤ q → okFrom (some q) xs = tvFrom q xs
  | [], _, _ => rfl
  | x :: xs, q, h => by
    rw [okFrom, tvFrom]
    by_cases h1 : x ≤ q ∨ 9999 < x
    · rw [if_pos h1, if_pos]
      unfold inB
      simp; omega
    · rw [if_neg h1, if_neg, ok_some xs x (by omega)]
      unfold inB
      simp; omega
theorem ok_none (xs : List Int) : okFrom none xs = tvFrom (-1) xs := by
  cases xs with
  | nil => rfl
  | cons x xs =>
    rw [okFrom, tvFrom]
    by_cases h1 : x ≤ -1 ∨ 9999 < x
    · rw [if_pos h1, if_pos]
      unfold inB
      simp; omega
    · rw [if_neg h1, if_neg, ok_some xs x (by omega)]
      unfold inB
      simp; omega
theorem spec_ok (xs : List Int) : specOk xs = timesOk xs := by rw [specOk, timesOk, ok_none, Bool.and_comm]

/-- the program's test, under any name for what it answers -/
theorem implTv_new {S : Nat → Prop} (v : Value) (xs : List Int) (w : World) (h : Ints S w v xs) :
    Calls Try.prog 18 #[v] w fun e w' => e = .returned (.bool (timesOk xs)) ∧ w = w' := implTv v xs w h
theorem specTv_ok {S : Nat → Prop} (v : Value) (xs : List Int) (w : World) (h : Ints S w v xs) :
    Calls Try.prog 16 #[v] w fun e w' => e = .returned (.bool (timesOk xs)) ∧ Drew w w' := (spec_ok xs) ▸ specTv v xs w h

end Go.Proofs.Ytfcdhmbooblpoaa
