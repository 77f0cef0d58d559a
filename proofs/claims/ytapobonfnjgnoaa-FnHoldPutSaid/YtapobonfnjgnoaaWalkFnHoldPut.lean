/- The walk of FnHoldPut. -/
import Derived.Test.YtapobonfnjgnoaaDrawHold2
import Derived.Test.YtapobonfnjgnoaaSameHolds
import Derived.Test.YtapobonfnjgnoaaHoldLaw
namespace Go.Proofs.Ytapobonfnjgnoaa
open Go.RowKit

set_option maxRecDepth 4000 in
set_option maxHeartbeats 4000000 in
theorem walkFnHoldPut (v : Value) (bs : List Int) (w : World) (h : Nums .u8 Any w v bs) :
    Calls Try.prog 3 #[v] w fun e w' => e = .returned (.bool true) ∧ New w w' := by
  have Hdraw := Lib.hid (drawHoldPut v bs w h)
  obtain ⟨a, c, rfl, h1, ⟨h2, -⟩, -⟩ := h
  unfold maxLen at h2
  by_cases hbig : 1048576 < bs.length
  · have hd : (1048576 : Int) < (bs.length : Int) := by omega
    go_enter Try.func3, Try.ntmps3
    go_wp2_with fail
    go_ret
    exact ⟨rfl, New.refl _⟩
  have hd : ¬ ((1048576 : Int) < (bs.length : Int)) := by omega
  go_enter Try.func3, Try.ntmps3
  go_wp2_with fail
  refine Hdraw.out.mono ?_
  rintro e w1 ⟨v1, os, x, rfl, hx, hl, hund, ho, n1⟩
  have hsm : ∀ o ∈ os, HSm o := fun o ho => (hund o ho).sm
  have Hsm := Lib.hid hsm
  have nb := (New.refl w1).alloc (.cells #[.string ⟨x.snap.toArray⟩, .string ⟨x.tag.toArray⟩] 25)
  have hb := heap_alloc_new w1 (.cells #[.string ⟨x.snap.toArray⟩, .string ⟨x.tag.toArray⟩] 25)
  have c0 : (w1.alloc (.cells #[.string ⟨x.snap.toArray⟩, .string ⟨x.tag.toArray⟩] 25)).cell? ⟨w1.heap.size, 0, none⟩ = some (.string ⟨x.snap.toArray⟩) := by unfold World.cell?; rw [hb]; rfl
  have c1 : (w1.alloc (.cells #[.string ⟨x.snap.toArray⟩, .string ⟨x.tag.toArray⟩] 25)).cell? ⟨w1.heap.size, 1, none⟩ = some (.string ⟨x.tag.toArray⟩) := by unfold World.cell?; rw [hb]; rfl
  have ho2 := Recs.new ho nb
  have nn := n1.trans nb
  obtain ⟨-, av1, cv1, rfl, -⟩ := id ho
  clear hund hsm ho hb n1 nb
  go_wp2_with fail
  generalize w1.alloc (.cells #[.string ⟨x.snap.toArray⟩, .string ⟨x.tag.toArray⟩] 25) = w2 at *
  generalize w1.heap.size = g at *
  refine (implPut _ os x w2 ho2 Hsm.out hx.sm).mono ?_
  intro e w3 hpost
  unfold HoldPost at hpost
  have Hsp := Lib.hid (fun (W : World) (n : New w2 W) => specPut _ os x W (Recs.new ho2 n) Hsm.out hx.sm)
  unfold HoldPost at Hsp
  rcases hrr : putR os x with ⟨r, ok⟩
  rw [hrr] at hpost Hsp
  obtain ⟨v3, rfl, o3, n3⟩ := hpost
  obtain ⟨av3, cv3, rfl, -⟩ := o3.shape
  simp only at o3 Hsp
  have hsmr : ∀ o ∈ r, HSm o := fun o ho => by
    have h := (show HSm o by have hh : o ∈ (putR os x).1 := (by rw [hrr]; exact ho); have h9 : o = x ∨ o ∈ os := (by unfold putR at hh; split at hh; exact insH_mem.1 hh; simp at hh); rcases h9 with h9 | h9; exact (h9 ▸ hx.sm); exact Hsm.out o h9)
    exact h
  have Hsmr := Lib.hid hsmr
  have hr3 : Holds Any w3 _ r := (OwnRecs.recs o3).mono (fun _ _ _ => trivial)
  replace ho2 := Recs.new ho2 n3
  have c03 := n3.cell c0
  have c13 := n3.cell c1
  replace nn := nn.trans n3
  have Hrr := Lib.hid hrr
  clear hrr o3 c0 c1 hsmr
  go_wp2_with fail
  refine (Hsp.out w3 n3).mono ?_
  rintro e w4 ⟨v4, rfl, o4, n4⟩
  obtain ⟨av4, cv4, rfl, -⟩ := o4.shape
  have hr4 : Holds Any w4 _ r := (OwnRecs.recs o4).mono (fun _ _ _ => trivial)
  replace hr3 := Recs.new hr3 n4
  replace ho2 := Recs.new ho2 n4
  have c04 := n4.cell c03
  have c14 := n4.cell c13
  replace nn := nn.trans n4
  have hbb : (ok != ok) = false := by simp
  have hbb2 : (ok == ok) = true := by simp
  clear o4 n3 n4 c03 c13
  go_wp2_with fail
  refine (sameHolds _ _ r r w4 hr3 hr4).mono ?_
  rw [decide_eq_true rfl]
  rintro e w5 ⟨rfl, n5⟩
  replace hr3 := Recs.new hr3 n5
  replace hr4 := Recs.new hr4 n5
  replace ho2 := Recs.new ho2 n5
  have c05 := n5.cell c04
  have c15 := n5.cell c14
  replace nn := nn.trans n5
  clear n5 c04 c14
  rcases ok with _ | _
  · go_wp2_with fail
    refine (sameHolds _ _ r r w5 hr3 hr4).mono ?_
    rw [decide_eq_true rfl]
    rintro e w6 ⟨rfl, n6⟩
    go_wp2_with fail
    go_ret
    exact ⟨rfl, nn.trans n6⟩
  · have htag := put_tag Hrr.out
    have hagain := put_again Hrr.out
    have hvalid := put_ok Hrr.out
    have Hput := Lib.hid (fun (W : World) (n : New w5 W) => implPut _ r x W (Recs.new hr3 n) Hsmr.out hx.sm)
    have Hval := Lib.hid (fun (W : World) (n : New w5 W) => implHolds _ r W (Recs.new hr3 n) Hsmr.out)
    have Htag := Lib.hid htag
    unfold HoldPost at Hput
    rw [hagain] at Hput
    rw [hvalid] at Hval
    clear htag hagain hvalid hr4 ho2
    go_wp2_with fail
    refine (implTags _ r x.snap w5 hr3 Hsmr.out).mono ?_
    intro e w6 hp
    unfold TagsPost at hp
    obtain ⟨v6, rfl, o6, n6⟩ := hp
    generalize htt : tagsR r x.snap = ts at *
    have hs6 : Strs Any w6 v6 ts := (OwnRecs.recs o6).mono (fun _ _ _ => trivial)
    have c06 := n6.cell c05
    have c16 := n6.cell c15
    obtain ⟨av6, cv6, rfl, hv6a, hv6b, -⟩ := o6.shape
    unfold maxLen at hv6b
    have hat := fun (W : World) (n : New w6 W) (k : Nat) (o : List UInt8) (ho : ts[k]? = some o) => Strs.at (Recs.new hs6 n) ho
    have Hat := Lib.hid hat
    clear hat hs6 o6 hr3 c05 c15 htt
    go_wp2_with fail
    go_loopg [10, 11] ts.length (fun gk s10 i wr => ∃ (k : Nat), gk = ts.length - k ∧ k ≤ ts.length ∧ i = .int .i64 k ∧ s10 = .bool (decide (x.tag ∈ ts.take k)) ∧ New w6 wr)
    case atStart => exact ⟨0, by omega, by omega, rfl, rfl, New.refl _⟩
    case round =>
      obtain ⟨k, hgk, hk, rfl, rfl, hn⟩ := hrel
      have Hgk := Lib.hid hgk
      clear hgk
      have c0r := hn.cell c06
      have c1r := hn.cell c16
      by_cases hlt : k < ts.length
      · obtain ⟨t, ht⟩ := get_of hlt
        obtain ⟨b, off, c', e1, hb, k0, -⟩ := Hat.out wr hn k t ht
        simp only [Value.slice.injEq] at e1
        obtain ⟨rfl, -, rfl⟩ := e1
        unfold txt at k0
        have htk : ts.take (k + 1) = ts.take k ++ [t] := by
          obtain ⟨hk', e⟩ := List.getElem?_eq_some_iff.1 ht
          rw [List.take_succ_eq_append_getElem hk', e]
        have Htk := Lib.hid htk
        rcases hb0 : decide (x.tag ∈ ts.take k) with _ | _
        · have hnm : x.tag ∉ ts.take k := by simpa using hb0
          by_cases hte : t = x.tag
          · have Hnew := Lib.hid (show decide (x.tag ∈ ts.take (k + 1)) = true by rw [Htk.out]; simp [hte])
            have hte2 : (t == x.tag) = true := by simp [hte]
            clear ht htk hb0 hnm hte
            go_wp2
            go_quiet (fail)
            go_wp2
            go_roundg (ts.length - (k + 1))
            case measure => rw [Hgk.out]; omega
            case rel => exact ⟨k + 1, rfl, by omega, by go_num, by rw [Hnew.out], by first | exact hn.drewN _ | exact hn.drew | exact hn⟩
          · have Hnew := Lib.hid (show decide (x.tag ∈ ts.take (k + 1)) = false by rw [Htk.out]; simp [hnm, show ¬ x.tag = t from fun e => hte e.symm])
            have hte2 : (t == x.tag) = false := by simp [hte]
            clear ht htk hb0 hnm hte
            go_wp2
            go_quiet (fail)
            go_wp2
            go_roundg (ts.length - (k + 1))
            case measure => rw [Hgk.out]; omega
            case rel => exact ⟨k + 1, rfl, by omega, by go_num, by rw [Hnew.out], by first | exact hn.drewN _ | exact hn.drew | exact hn⟩
        · have hm : x.tag ∈ ts.take k := by simpa using hb0
          have Hnew := Lib.hid (show decide (x.tag ∈ ts.take (k + 1)) = true by rw [Htk.out]; simp [hm])
          clear ht htk hb0 hm
          go_wp2
          go_quiet (fail)
          go_wp2
          go_roundg (ts.length - (k + 1))
          case measure => rw [Hgk.out]; omega
          case rel => exact ⟨k + 1, rfl, by omega, by go_num, by rw [Hnew.out], by first | exact hn.drewN _ | exact hn.drew | exact hn⟩
      · have htrue : decide (x.tag ∈ ts.take k) = true := by rw [List.take_of_length_le (by omega)]; simpa using Htag.out
        rw [htrue]
        clear htrue
        go_wp2_with fail
        refine (Hput.out wr (n6.trans hn)).mono ?_
        rintro e w7 ⟨v7, rfl, o7, n7⟩
        obtain ⟨av7, cv7, rfl, -⟩ := o7.shape
        clear o7
        go_wp2_with fail
        refine (Hval.out w7 ((n6.trans hn).trans n7)).mono ?_
        rintro e w8 ⟨rfl, n8⟩
        go_wp2_with fail
        go_ret
        exact ⟨rfl, (((nn.trans n6).trans hn).trans n7).trans n8⟩
end Go.Proofs.Ytapobonfnjgnoaa
