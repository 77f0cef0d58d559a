/- The walk of FnHoldTags. -/
import Derived.Test.YtapobonfnjgnoaaDrawHold2
import Derived.Test.YtapobonfnjgnoaaSameHolds
import Derived.Test.YtapobonfnjgnoaaHoldLaw
import Derived.Test.YtapobonfnjgnoaaWalkFnExactHoldTags
namespace Go.Proofs.Ytapobonfnjgnoaa
open Go.RowKit

set_option maxRecDepth 4000 in
set_option maxHeartbeats 4000000 in
theorem walkFnHoldTags (v : Value) (bs : List Int) (w : World) (h : Nums .u8 Any w v bs) :
    Calls Try.prog 5 #[v] w fun e w' => e = .returned (.bool true) ∧ New w w' := by
  have Hdraw := Lib.hid (drawHoldTags v bs w h)
  obtain ⟨a, c, rfl, h1, ⟨h2, -⟩, -⟩ := h
  unfold maxLen at h2
  by_cases hbig : 1048576 < bs.length
  · have hd : (1048576 : Int) < (bs.length : Int) := by omega
    go_enter Try.func5, Try.ntmps5
    go_wp2_with fail
    go_ret
    exact ⟨rfl, New.refl _⟩
  have hd : ¬ ((1048576 : Int) < (bs.length : Int)) := by omega
  go_enter Try.func5, Try.ntmps5
  go_wp2_with fail
  refine Hdraw.out.mono ?_
  rintro e w1 ⟨v1, os, s, rfl, hsl, hl, hund, ho, n1⟩
  have hsm : ∀ o ∈ os, HSm o := fun o ho => (hund o ho).sm
  have Hsm := Lib.hid hsm
  obtain ⟨-, av1, cv1, rfl, hc1, hc2, -⟩ := id ho
  unfold maxLen at hc2
  have Hat := Lib.hid (fun (W : World) (n : New w1 W) (k : Nat) (o : HoldR) (hk : os[k]? = some o) => Holds.at (Recs.new ho n) hk)
  have Hsp := Lib.hid (fun (W : World) (n : New w1 W) => specTags _ os s W (Recs.new ho n) Hsm.out (by omega))
  have Hval := Lib.hid (fun (W : World) (n : New w1 W) => specHolds _ os W (Recs.new ho n) Hsm.out)
  clear hund hsm
  unfold TagsPost at Hsp
  go_wp2_with fail
  refine (implTags _ os s w1 ho Hsm.out).mono ?_
  intro e w2 hp
  unfold TagsPost at hp
  obtain ⟨v2, rfl, o2, n2⟩ := hp
  have hs2 : Strs Any w2 v2 (tagsR os s) := (OwnRecs.recs o2).mono (fun _ _ _ => trivial)
  obtain ⟨av2, cv2, rfl, hd1, hd2, -⟩ := o2.shape
  unfold maxLen at hd2
  clear o2
  go_wp2_with fail
  refine (Hsp.out w2 n2).mono ?_
  rintro e w3 ⟨v3, rfl, o3, n3⟩
  have hs3 : Strs Any w3 v3 (tagsR os s) := (OwnRecs.recs o3).mono (fun _ _ _ => trivial)
  obtain ⟨av3, cv3, rfl, -⟩ := o3.shape
  replace hs2 := Recs.new hs2 n3
  have n13 := n2.trans n3
  clear o3 n2 n3
  go_wp2_with fail
  refine (sameTexts _ _ _ _ w3 hs2 hs3).mono ?_
  rw [decide_eq_true rfl]
  rintro e w4 ⟨rfl, n4⟩
  replace hs2 := Recs.new hs2 n4
  replace hs3 := Recs.new hs3 n4
  have n14 := n13.trans n4
  clear n13 n4
  rcases hok : holdsOk os with _ | _
  · rw [hok] at Hval
    clear hok
    go_wp2_with fail
    refine (Hval.out w4 n14).mono ?_
    rintro e w5 ⟨rfl, n5⟩
    replace hs2 := Recs.new hs2 n5
    replace hs3 := Recs.new hs3 n5
    go_wp2_with fail
    refine (sameTexts _ _ _ _ w5 hs2 hs3).mono ?_
    rw [decide_eq_true rfl]
    rintro e w6 ⟨rfl, n6⟩
    go_wp2_with fail
    go_ret
    exact ⟨rfl, ((n1.trans n14).trans n5).trans n6⟩
  · have htr : tagsR os s = tagsOf s os := by unfold tagsR; rw [if_pos hok]; rfl
    have hrise := tagsOf_rise (s := s) (holdsOk_pw hok).2.2
    rw [hok] at Hval
    have Htr0 := Lib.hid htr
    clear hok htr
    go_wp2_with fail
    refine (Hval.out w4 n14).mono ?_
    rintro e w5 ⟨rfl, n5⟩
    replace hs2 := Recs.new hs2 n5
    have htr := Htr0.out
    have n15 := n14.trans n5
    have nw5 := n1.trans n15
    have hlt8 := tagsR_len os s
    have Hts := Lib.hid (fun (k : Nat) (o : HoldR) (h : os[k]? = some o) (hs : o.snap = s) => tagsOf_at h hs)
    rw [← htr] at hrise Hts
    have Htr := Lib.hid htr
    generalize hT : tagsR os s = T at *
    have Htat := Lib.hid (fun (W : World) (n : New w5 W) (k : Nat) (o : List UInt8) (ho : T[k]? = some o) => Strs.at (Recs.new hs2 n) ho)
    have Hrise := Lib.hid hrise
    clear htr hrise hs3 hs2 n14 n5 hT ho Htr0
    go_wp2_with fail
    go_loopg [7, 8] os.length (fun gk s7 i wr => ∃ (k : Nat), gk = os.length - k ∧ k ≤ os.length ∧ i = .int .i64 k ∧ s7 = .int .i64 (tagsOf s (os.take k)).length ∧ New w5 wr)
    case atStart => exact ⟨0, by omega, by omega, rfl, rfl, New.refl _⟩
    case round =>
      obtain ⟨k, hgk, hk, rfl, rfl, hn⟩ := hrel
      have Hgk := Lib.hid hgk
      clear hgk
      by_cases hlt : k < os.length
      · obtain ⟨o, hx⟩ := get_of hlt
        obtain ⟨b, off, c', e1, hb, c0, c1, -, -⟩ := Hat.out wr (n15.trans hn) k o hx
        simp only [Value.slice.injEq] at e1
        obtain ⟨rfl, -, rfl⟩ := e1
        unfold txt at c0 c1
        have Htk := Lib.hid (tagsOf_take (s := s) hx)
        by_cases hsn : o.snap = s
        · have Htk2 := Lib.hid (show (tagsOf s (os.take (k + 1))).length = (tagsOf s (os.take k)).length + 1 by rw [Htk.out, if_pos hsn]; simp)
          have ht := Hts.out k o hx hsn
          have hsn2 : (o.snap == s) = true := by simp [hsn]
          generalize hn0 : (tagsOf s (os.take k)).length = n0 at *
          obtain ⟨b2, off2, c2, e2, -, t0, -⟩ := Htat.out wr hn n0 o.tag ht
          simp only [Value.slice.injEq] at e2
          obtain ⟨rfl, -, rfl⟩ := e2
          unfold txt at t0
          have hn0lt := (List.getElem?_eq_some_iff.1 ht).1
          have hg1 : ¬ ((T.length : Int) ≤ (n0 : Int)) := by omega
          have Hsn := Lib.hid hsn
          have k0 : wr.drew.cell? ⟨b, off + k * 2 + 1, none⟩ = some (.string ⟨o.tag.toArray⟩) := c1
          have k1 : wr.drew.cell? ⟨b2, off2 + n0, none⟩ = some (.string ⟨o.tag.toArray⟩) := t0
          have hg1n : ¬ (T.length ≤ n0) := by omega
          have hgd : decide ((T.length : Int) ≤ (n0 : Int)) = false := by simp; omega
          have hw0 : IntKind.i64.wrap ((n0 : Int) + 1) = (n0 : Int) + 1 := IntWalk.i64_in _ (by omega)
          by_cases hz : n0 = 0
          · have hkd : decide ((0 : Int) < (n0 : Int)) = false := by simp; omega
            have hkd2 : ¬ (0 < n0) := by omega
            have Hz := Lib.hid hz
            clear hsn hx ht hn0 hz k0 k1
            go_wp2
            go_quiet (fail)
            go_wp2
            go_roundg (os.length - (k + 1))
            case measure => rw [Hgk.out]; omega
            case rel => exact ⟨k + 1, rfl, by omega, by go_num, by rw [Htk2.out]; first | rfl | go_num, by first | exact hn.drewN _ | exact hn.drew | exact hn⟩
          · obtain ⟨y, hy⟩ := get_of (xs := T) (k := n0 - 1) (by omega)
            obtain ⟨b3, off3, c3, e3, -, t1, -⟩ := Htat.out wr hn (n0 - 1) y hy
            simp only [Value.slice.injEq, Option.some.injEq, Addr.mk.injEq] at e3
            obtain ⟨⟨rfl, rfl, -⟩, -, rfl⟩ := e3
            unfold txt at t1
            have hless : Op.bytesLess y o.tag = true := by
              rw [less_is]
              obtain ⟨hi, ei⟩ := List.getElem?_eq_some_iff.1 hy
              obtain ⟨hj, ej⟩ := List.getElem?_eq_some_iff.1 ht
              have := (List.pairwise_iff_getElem.1 Hrise.out) (n0 - 1) n0 hi hj (by omega)
              rw [ei, ej] at this
              exact this
            have hkd : decide ((0 : Int) < (n0 : Int)) = true := by simp; omega
            have hkd2 : 0 < n0 := by omega
            obtain ⟨m0, hm0⟩ : ∃ m0, m0 = n0 - 1 := ⟨_, rfl⟩
            rw [← hm0] at t1
            have hw1 : IntKind.i64.wrap ((n0 : Int) - 1) = (m0 : Int) := by
              have : (n0 : Int) - 1 = (m0 : Int) := by omega
              rw [this]
              exact IntWalk.i64_in _ (by omega)
            have hm1 : (0 : Int) ≤ (m0 : Int) := by omega
            have hm2 : (m0 : Int) < (T.length : Int) := by omega
            have hm3 : m0 < T.length := by omega
            clear hsn hx ht hn0 hz hy k0 k1 hm0
            go_wp2
            go_quiet (fail)
            go_wp2
            go_roundg (os.length - (k + 1))
            case measure => rw [Hgk.out]; omega
            case rel => exact ⟨k + 1, rfl, by omega, by go_num, by rw [Htk2.out]; first | rfl | go_num, by first | exact hn.drewN _ | exact hn.drew | exact hn⟩
        · have Htk2 := Lib.hid (show (tagsOf s (os.take (k + 1))).length = (tagsOf s (os.take k)).length by rw [Htk.out, if_neg hsn]; simp)
          have hsn2 : (o.snap == s) = false := by simp [hsn]
          clear hsn hx
          go_wp2_with fail
          go_roundg (os.length - (k + 1))
          case measure => rw [Hgk.out]; omega
          case rel => exact ⟨k + 1, rfl, by omega, by go_num, by rw [Htk2.out], hn⟩
      · have hend : (tagsOf s (os.take k)).length = T.length := by rw [List.take_of_length_le (by omega), Htr.out]
        rw [hend]
        clear hend
        go_wp2_with fail
        go_ret
        exact ⟨ret_bool (by simp [← Htr.out]), nw5.trans hn⟩
end Go.Proofs.Ytapobonfnjgnoaa
