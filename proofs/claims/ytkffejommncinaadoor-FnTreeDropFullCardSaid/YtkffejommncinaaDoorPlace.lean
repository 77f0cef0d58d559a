/- A directory's names: place$1, slices.BinarySearchFunc. -/
import Derived.Test.YtkffejommncinaaDoorTreeNodes
import Derived.Deep.LoopGhost
namespace Go.Proofs.YtkffejommncinaaDoor
open Go.RowKit

set_option maxRecDepth 4000 in
set_option maxHeartbeats 400000 in
theorem kidCmp (g : Nat) (n nm : List UInt8) (w : World) (hc : w.cell? ⟨g, 0, none⟩ = some (txt n)) :
    Calls Tryd.prog 90 #[.pointer (some ⟨g, 0, none⟩), txt nm] w fun e w' => e = .returned (.int .i64 (sCmp n nm)) ∧ w = w' := by
  unfold txt at hc ⊢
  have Hc := Lib.hid (cmpStr n nm w)
  go_enter Tryd.func90, Tryd.ntmps90
  go_wp2_with (go_at_call 91; refine Hc.out.mono ?_; rintro e w1 ⟨rfl, rfl⟩)
  go_ret
  exact ⟨rfl, rfl⟩

/-- where a name is, or would be, among keys whose names ascend -/
def PlaceAt (ks : List Key) (nm : List UInt8) (i : Nat) : Prop :=
  i ≤ ks.length ∧ (∀ t q, t < i → ks[t]? = some q → sLt (nameOf q) nm = true) ∧ (∀ t q, i ≤ t → ks[t]? = some q → sLt (nameOf q) nm = false)
def thereAt (ks : List Key) (nm : List UInt8) (i : Nat) : Bool := decide ((ks[i]?).map nameOf = some nm)
def PlacePost (ks : List Key) (nm : List UInt8) (w : World) (e : Ending) (w' : World) : Prop :=
  ∃ i : Nat, PlaceAt ks nm i ∧ e = .returned (.tuple #[.int .i64 i, .bool (thereAt ks nm i)]) ∧ w = w'
def KidAt (w : World) (a : Option Addr) (b : Key → Nat) (t : Nat) (q : Key) : Prop :=
  ∃ g, a = some ⟨g, 0, none⟩ ∧ w.cell? ⟨g, t, none⟩ = some (.pointer (some ⟨b q, 0, none⟩)) ∧ w.cell? ⟨b q, 0, none⟩ = some (txt (nameOf q))

theorem asc_get {ks : List Key} (h : ks.Pairwise fun a b => sLt (nameOf a) (nameOf b) = true) {i j : Nat} {p q : Key} (hij : i < j) (hi : ks[i]? = some p) (hj : ks[j]? = some q) : sLt (nameOf p) (nameOf q) = true := by
  obtain ⟨h1, rfl⟩ := List.getElem?_eq_some_iff.1 hi
  obtain ⟨h2, rfl⟩ := List.getElem?_eq_some_iff.1 hj
  exact List.pairwise_iff_getElem.1 h i j h1 h2 hij

set_option maxRecDepth 4000 in
set_option maxHeartbeats 1000000 in
theorem binSearch (ks : List Key) (b : Key → Nat) (a : Option Addr) (c : Nat) (nm : List UInt8) (w : World) (hk : ∀ t q, ks[t]? = some q → KidAt w a b t q) (hl : ks.length ≤ 1000) (_hc : ks.length ≤ c)
    (hasc : ks.Pairwise fun a b => sLt (nameOf a) (nameOf b) = true) :
    Calls Tryd.prog 89 #[.slice a ks.length c, txt nm, .func (.func 90) #[] #[]] w (PlacePost ks nm w) := by
  have HK := Lib.hid hk
  have Hasc := Lib.hid hasc
  clear hk hasc
  go_enter Tryd.func89, Tryd.ntmps89
  go_wp2
  go_loopg [9, 10] ks.length (fun kx s9 s10 wr => ∃ lo hi : Nat, s9 = .int .i64 lo ∧ s10 = .int .i64 hi ∧ lo ≤ hi ∧ hi ≤ ks.length ∧ hi - lo ≤ kx ∧ w = wr ∧
    Hid ((∀ t q, t < lo → ks[t]? = some q → sLt (nameOf q) nm = true) ∧ (∀ t q, hi ≤ t → ks[t]? = some q → sLt (nameOf q) nm = false)))
  case atStart => exact ⟨0, ks.length, rfl, rfl, Nat.zero_le _, Nat.le_refl _, by omega, rfl, Lib.hid ⟨fun t q h => absurd h (Nat.not_lt_zero _), fun t q h hq => by have := (List.getElem?_eq_some_iff.1 hq).1; omega⟩⟩
  case round =>
    obtain ⟨lo, hi, rfl, rfl, hlh, hin, hg, rfl, I⟩ := hrel
    by_cases hlt : lo < hi
    · obtain ⟨q, hq⟩ := get_of (show (lo + hi) / 2 < ks.length by omega)
      obtain ⟨g, rfl, k1, k2⟩ := HK.out _ q hq
      have hcm := kidCmp (b q) (nameOf q) nm w k2
      unfold txt at hcm
      have Hcm := Lib.hid hcm
      have Hq := Lib.hid hq
      have hneg := sCmp_neg (nameOf q) nm
      clear hcm hq k2
      rcases hs : sLt (nameOf q) nm with _ | _
      · have hn : ¬ (sCmp (nameOf q) nm < 0) := by rw [hs] at hneg; exact of_decide_eq_false hneg
        have Hs := Lib.hid hs
        clear hneg hs
        generalize sCmp (nameOf q) nm = r at *
        unfold txt
        go_wp2_with fail
        refine Hcm.out.mono ?_
        rintro e w' ⟨rfl, rfl⟩
        go_wp2_with fail
        go_roundg ((lo + hi) / 2 - lo)
        case measure => omega
        case rel =>
          refine ⟨lo, (lo + hi) / 2, rfl, by rw [show ((lo : Int) + (hi : Int)) / 2 = (((lo + hi) / 2 : Nat) : Int) by omega], by omega, by omega, Nat.le_refl _, rfl, Lib.hid ⟨I.out.1, fun t p ht hp => ?_⟩⟩
          rcases Nat.eq_or_lt_of_le ht with e | e
          · subst e
            rw [Hq.out] at hp
            rw [← Option.some.inj hp]; exact Hs.out
          · have h1 := asc_get Hasc.out e Hq.out hp
            rcases h2 : sLt (nameOf p) nm with _ | _
            · rfl
            · have := sLt_trans h1 h2
              rw [Hs.out] at this; cases this
      · have hn : sCmp (nameOf q) nm < 0 := by rw [hs] at hneg; exact of_decide_eq_true hneg
        have Hs := Lib.hid hs
        clear hneg hs
        generalize sCmp (nameOf q) nm = r at *
        unfold txt
        go_wp2_with fail
        refine Hcm.out.mono ?_
        rintro e w' ⟨rfl, rfl⟩
        go_wp2_with fail
        go_roundg (hi - ((lo + hi) / 2 + 1))
        case measure => omega
        case rel =>
          refine ⟨(lo + hi) / 2 + 1, hi, by rw [show ((lo : Int) + (hi : Int)) / 2 + 1 = (((lo + hi) / 2 + 1 : Nat) : Int) by omega], rfl, by omega, hin, Nat.le_refl _, rfl, Lib.hid ⟨fun t p ht hp => ?_, I.out.2⟩⟩
          rcases Nat.eq_or_lt_of_le (show t ≤ (lo + hi) / 2 by omega) with e | e
          · subst e
            rw [Hq.out] at hp
            rw [← Option.some.inj hp]; exact Hs.out
          · exact sLt_trans (asc_get Hasc.out e hp Hq.out) Hs.out
    · obtain rfl : hi = lo := by omega
      have hP : PlaceAt ks nm hi := ⟨hin, I.out⟩
      have HP := Lib.hid hP
      clear hP
      by_cases hn : hi < ks.length
      · obtain ⟨q, hq⟩ := get_of hn
        obtain ⟨g, rfl, k1, k2⟩ := HK.out _ q hq
        have hcm := kidCmp (b q) (nameOf q) nm w k2
        unfold txt at hcm
        have Hcm := Lib.hid hcm
        have Hq := Lib.hid hq
        clear hcm hq k2
        by_cases he : nameOf q = nm
        · have hz : sCmp (nameOf q) nm = 0 := sCmp_zero.2 he
          have ht : thereAt ks nm hi = true := by unfold thereAt; rw [Hq.out, ← he]; simp
          have Ht := Lib.hid ht
          clear ht he
          generalize sCmp (nameOf q) nm = r at *
          unfold txt
          go_wp2_with fail
          refine Hcm.out.mono ?_
          rintro e w' ⟨rfl, rfl⟩
          go_wp2_with fail
          go_ret2
          exact ⟨hi, HP.out, by rw [Ht.out]; first | rfl | (rw [show false = (r == 0) from by simp [hz]]; rfl), rfl⟩
        · have hz : ¬ (sCmp (nameOf q) nm = 0) := fun e => he (sCmp_zero.1 e)
          have ht : thereAt ks nm hi = false := by unfold thereAt; rw [Hq.out]; simp [he]
          have Ht := Lib.hid ht
          clear ht he
          generalize sCmp (nameOf q) nm = r at *
          unfold txt
          go_wp2_with fail
          refine Hcm.out.mono ?_
          rintro e w' ⟨rfl, rfl⟩
          go_wp2_with fail
          go_ret2
          exact ⟨hi, HP.out, by rw [Ht.out]; first | rfl | (rw [show false = (r == 0) from by simp [hz]]; rfl), rfl⟩
      · have ht : thereAt ks nm hi = false := by unfold thereAt; rw [List.getElem?_eq_none (by omega)]; rfl
        have Ht := Lib.hid ht
        clear ht
        go_wp2
        go_ret2
        exact ⟨hi, HP.out, by rw [Ht.out]; rfl, rfl⟩
end Go.Proofs.YtkffejommncinaaDoor
