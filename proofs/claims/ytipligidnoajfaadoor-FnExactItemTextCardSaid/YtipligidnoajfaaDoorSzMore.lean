/- What szHelds gives back, with its upper bound. -/
import Derived.Test.YtipligidnoajfaaDoorHeld
namespace Go.Proofs.YtipligidnoajfaaDoor
open Go.RowKit

def SzPost2 (os : List HeldR) (w : World) (e : Ending) (w' : World) : Prop :=
  ∃ r : Int, e = .returned (.int .i64 r) ∧ r ≤ 1048576 ∧ (0 ≤ r → os.length ≤ 1048576 ∧ ∀ o ∈ os, o.size ≤ 1048576) ∧ New w w'

set_option maxRecDepth 4000 in
set_option maxHeartbeats 400000 in
theorem szHelds2 {S : Nat → Prop} (v : Value) (os : List HeldR) (w : World) (h : Helds S w v os) :
    Calls Tryd.prog 5 #[v, .int .i64 1048576] w (SzPost2 os w) := by
  have h0 := h
  obtain ⟨-, a, c, rfl, h1, h2, -⟩ := h
  unfold maxLen at h2
  by_cases hl : 1048576 < os.length
  · have h5 : (1048576 : Int) - (os.length : Int) < 0 := by omega
    go_enter Tryd.func5, Tryd.ntmps5
    go_wp2
    go_ret
    exact ⟨-1, rfl, by omega, fun h => by omega, New.refl _⟩
  · have h5 : ¬ ((1048576 : Int) - (os.length : Int) < 0) := by omega
    have hat := fun (W : World) (n : New w W) (k : Nat) (o : HeldR) (ho : os[k]? = some o) => Helds.at (Recs.new h0 n) ho
    have Hat := Lib.hid hat
    clear hat
    go_enter Tryd.func5, Tryd.ntmps5
    go_wp2
    go_loopg [1, 5] os.length (fun gk s1 s5 wr => ∃ (k : Nat) (r : Int), gk = os.length - k ∧ k ≤ os.length ∧ s5 = .int .i64 k ∧ s1 = .int .i64 r ∧ 0 ≤ r ∧ r ≤ 1048576 ∧ (∀ o ∈ os.take k, o.size ≤ 1048576) ∧ New w wr)
    case atStart => exact ⟨0, 1048576 - os.length, by omega, by omega, rfl, rfl, by omega, by omega, by simp, New.refl _⟩
    case round =>
      obtain ⟨k, r, hgk, hk, rfl, rfl, hr0, hr1, hall, hn⟩ := hrel
      have Hgk := Lib.hid hgk
      have Hall := Lib.hid hall
      clear hgk hall
      by_cases hlt : k < os.length
      · obtain ⟨o, ho⟩ := get_of hlt
        obtain ⟨b, off, c', u, e1, hb, c0, c1, c2, i0, i2, r2⟩ := Hat.out wr hn k o ho
        simp only [Value.slice.injEq] at e1
        obtain ⟨rfl, -, rfl⟩ := e1
        have hsz := szHeld o u r wr r2 hr0 hr1
        have Hsz := Lib.hid hsz
        have Ho := Lib.hid ho
        clear hsz ho
        go_wp2_with fail
        refine Hsz.out.mono ?_
        by_cases hb1 : r < o.size
        · rw [if_pos hb1]
          rintro e w1 ⟨rfl, n1⟩
          go_wp2_with fail
          go_ret
          exact ⟨-1, rfl, by omega, fun h => by omega, hn.trans n1⟩
        · rw [if_neg hb1]
          rintro e w1 ⟨rfl, n1⟩
          have hge : ¬ (r - (o.size : Int) < 0) := by omega
          have hos : o.size ≤ 1048576 := by omega
          go_wp2_with fail
          go_roundg (os.length - (k + 1))
          case measure => rw [Hgk.out]; omega
          case rel =>
            refine ⟨k + 1, r - o.size, rfl, by omega, by go_num, rfl, by omega, by omega, fun x hx => ?_, hn.trans n1⟩
            rw [List.take_succ_eq_append_getElem hlt, List.mem_append, List.mem_singleton] at hx
            rcases hx with hx | rfl
            · exact Hall.out x hx
            · have := (List.getElem?_eq_some_iff.1 Ho.out).2
              rw [this]; exact hos
      · go_wp2_with fail
        go_ret
        refine ⟨r, rfl, hr1, fun _ => ⟨by omega, fun o ho => ?_⟩, hn⟩
        have := Hall.out
        rw [List.take_of_length_le (by omega)] at this
        exact this o ho

end Go.Proofs.YtipligidnoajfaaDoor
