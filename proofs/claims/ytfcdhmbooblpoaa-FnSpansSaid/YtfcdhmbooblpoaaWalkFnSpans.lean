/- The walk of FnSpans. -/
import Derived.Test.YtfcdhmbooblpoaaWalkFnBoth
import Derived.Test.YtfcdhmbooblpoaaSpansMore
import Derived.Test.YtfcdhmbooblpoaaDrawSpans
namespace Go.Proofs.Ytfcdhmbooblpoaa
open Go.RowKit

set_option maxRecDepth 4000 in
set_option maxHeartbeats 4000000 in
theorem walkFnSpans (v : Value) (bs : List Int) (w : World) (h : Nums .u8 Any w v bs) :
    Calls Try.prog 9 #[v] w fun e w' => e = .returned (.bool true) ∧ New w w' := by
  have h0 := h
  obtain ⟨a, c, rfl, h1, ⟨h2, -⟩, h3, h4⟩ := h
  unfold maxLen at h2
  clear h4 h3
  by_cases hl : 1048576 < bs.length
  · have hl' : (1048576 : Int) < bs.length := by omega
    go_enter Try.func9, Try.ntmps9
    go_wp2_with fail
    go_ret
    exact ⟨rfl, New.refl _⟩
  · have hl' : ¬ ((1048576 : Int) < bs.length) := by omega
    go_enter Try.func9, Try.ntmps9
    go_wp2_with fail
    refine (drawKeepSpans _ bs w h0).mono ?_
    rintro e w1 ⟨v1, xs, s, many, rfl, hs, hs0, hs1, hm0, hm1, o1, n1⟩
    obtain ⟨m, rfl⟩ := Int.eq_ofNat_of_zero_le hm0
    have hx1 := hs.1
    have hrl := spans_len xs s m
    go_wp2_with fail
    refine (keepSpans _ xs s m _ o1.nums).mono ?_
    rintro e w2 ⟨v2, rfl, o2, n2⟩
    replace o1 := o1.new n2
    replace n1 := n1.trans n2
    go_wp2_with fail
    refine (specKeepSpans _ xs s m _ o1.nums).mono ?_
    rw [spans_eq]
    rintro e w3 ⟨v3, rfl, o3, n3⟩
    replace o1 := o1.new n3
    replace o2 := o2.new n3
    replace n1 := n1.trans n3
    go_wp2_with fail
    refine (sameInts _ _ _ _ _ o2.nums o3.nums).mono ?_
    rintro e w4 ⟨rfl, d4⟩
    replace o1 := o1.new d4.new
    replace o2 := o2.new d4.new
    replace o3 := o3.new d4.new
    replace n1 := n1.trans d4.new
    clear n2 n3 d4
    go_wp2_with fail
    refine (specTv_ok _ xs _ o1.nums).mono ?_
    rintro e w5 ⟨rfl, d5⟩
    replace o1 := o1.new d5.new
    replace o2 := o2.new d5.new
    replace o3 := o3.new d5.new
    replace n1 := n1.trans d5.new
    clear d5
    rcases hr : timesOk xs with _ | _
    · have Hr := Lib.hid hr
      clear hr
      go_wp2_with fail
      refine (sameInts _ _ _ _ _ o2.nums o3.nums).mono ?_
      rintro e w6 ⟨rfl, d6⟩
      go_wp2_with fail
      go_ret
      exact ⟨by simp, n1.trans d6.new⟩
    · have Hr := Lib.hid hr
      clear hr
      by_cases hsp : s < 1
      · go_wp2_with fail
        refine (sameInts _ _ _ _ _ o2.nums o3.nums).mono ?_
        rintro e w6 ⟨rfl, d6⟩
        go_wp2_with fail
        go_ret
        exact ⟨by simp, n1.trans d6.new⟩
      · have hso : spanOk s = true := by simp [spanOk]; omega
        have hmo : manyOk (m : Int) = true := by simp [manyOk]; omega
        have hs1' : ¬ (9999 < s) := by omega
        have hm0' : ¬ ((m : Int) < 0) := by omega
        have hm1' : ¬ ((20 : Int) < (m : Int)) := by omega
        have Hso := Lib.hid hso
        have Hmo := Lib.hid hmo
        clear hso hmo
        have hup := spans_up Hr.out Hso.out Hmo.out
        have hmem := spans_mem Hr.out Hso.out Hmo.out
        have hmany := spans_many Hr.out Hso.out Hmo.out
        have hrange := ok_range Hr.out
        have hmany' : ((spans xs s m).length : Int) ≤ (m : Int) := by omega
        generalize spans xs s (m : Int) = r at hrl hup hmem hmany hmany' o2 o3 ⊢
        have Hup := Lib.hid hup
        have Hmem := Lib.hid hmem
        have Hrange := Lib.hid hrange
        clear hup hmem hrange o3 hs
        have hp1 := o1.nums
        obtain ⟨aa, ca, rfl, x1, ⟨x2, -⟩, x3, x4⟩ := hp1
        unfold maxLen at x2
        have hcx : ∀ (k : Nat) (z : Int), xs[k]? = some z → ∃ b off, aa = some ⟨b, off, none⟩ ∧ w5.cell? ⟨b, off + k, none⟩ = some (.int .i64 z) := by
          intro k z hk
          rcases x4 with rfl | ⟨b, off, rfl, -, -, hc⟩
          · simp at hk
          · exact ⟨b, off, rfl, hc k z hk⟩
        have Hcx := Lib.hid hcx
        clear x4 hcx
        have hp2 := o2.nums
        obtain ⟨a2, c2, rfl, q1, ⟨q2, -⟩, -, q4⟩ := hp2
        unfold maxLen at q2
        have hcq : ∀ (k : Nat) (z : Int), r[k]? = some z → ∃ b off, a2 = some ⟨b, off, none⟩ ∧ w5.cell? ⟨b, off + k, none⟩ = some (.int .i64 z) := by
          intro k z hk
          rcases q4 with rfl | ⟨b, off, rfl, -, -, hc⟩
          · simp at hk
          · exact ⟨b, off, rfl, hc k z hk⟩
        have Hcq := Lib.hid hcq
        clear q4 hcq x3 o1 o2
        go_wp2_with fail
        go_loopw [8] (fun i wr => ∃ (k : Nat), k ≤ r.length ∧ i = .int .i64 k ∧ Drew w5 wr) (fun i _ => r.length - (intOf i).toNat)
        case atStart => exact ⟨0, Nat.zero_le _, rfl, Drew.refl _⟩
        case round =>
          obtain ⟨i, hi, rfl, hw⟩ := hrel
          rename World => wr
          by_cases hlt : i < r.length
          · obtain ⟨z, hz⟩ := get_of hlt
            obtain ⟨rb, roff, rfl, hrc⟩ := Hcq.out i z hz
            have hcz : wr.cell? ⟨rb, roff + i, none⟩ = some (.int .i64 z) := by rw [hw.cell]; exact hrc
            obtain ⟨hzm, htop⟩ := Hmem.out z (List.mem_of_getElem? hz)
            obtain ⟨hz0, hz1⟩ := Hrange.out z hzm
            have Hzm := Lib.hid hzm
            have Htop := Lib.hid htop
            have Hz := Lib.hid hz
            clear hzm hz hrc htop
            obtain ⟨wo, rfl⟩ : ∃ wo : World, wo = wr := ⟨_, rfl⟩
            go_wp2_with fail
            go_loopw [9, 10] (fun u t wx => ∃ (k : Nat) (b : Bool), k ≤ xs.length ∧ t = .int .i64 k ∧ u = .bool b ∧ Drew wo wx ∧ anyEq z xs = (b || anyEq z (xs.drop k))) (fun _ t _ => xs.length - (intOf t).toNat)
            case atStart => exact ⟨0, false, Nat.zero_le _, rfl, rfl, Drew.refl _, rfl⟩
            case round =>
              obtain ⟨k, b, hk, rfl, rfl, hwx, hany⟩ := hrel
              rename World => wx
              have Hany := Lib.hid hany
              clear hany
              by_cases hkl : k < xs.length
              · obtain ⟨y, hyk⟩ := get_of hkl
                obtain ⟨bb, off, rfl, hc⟩ := Hcx.out k y hyk
                obtain ⟨hy0, hy1⟩ := Hrange.out y (List.mem_of_getElem? hyk)
                have hyt := Htop.out y (List.mem_of_getElem? hyk)
                have hcy : wx.cell? ⟨bb, off + k, none⟩ = some (.int .i64 y) := by rw [hwx.cell, hw.cell]; exact hc
                have hcz2 : wx.cell? ⟨rb, roff + i, none⟩ = some (.int .i64 z) := by rw [hwx.cell]; exact hcz
                have hst : anyEq z (xs.drop k) = ((y == z) || anyEq z (xs.drop (k + 1))) := by rw [drop_of hyk]; rfl
                have Hst := Lib.hid hst
                have Hyt := Lib.hid hyt
                clear hc hyk hst hyt
                by_cases hgt : z < y
                · have hd1 : decide (z < y) = true := by simp; omega
                  have hd2 : (y / s == z / s) = false := by have := Hyt.out hgt; simpa using this
                  clear hgt
                  cases b
                  · go_wp2_with fail
                    go_quiet (fail)
                    go_wp2_with fail
                    go_quiet (fail)
                    go_wp2_with fail
                    go_roundw
                    case rel => exact ⟨k + 1, (y == z), by omega, by go_num, rfl, hwx.drewN _, by rw [Hany.out, Hst.out]; simp⟩
                    case measure => simp [intOf]; omega
                  · go_wp2_with fail
                    go_quiet (fail)
                    go_wp2_with fail
                    go_quiet (fail)
                    go_wp2_with fail
                    go_roundw
                    case rel => exact ⟨k + 1, true, by omega, by go_num, rfl, hwx.drewN _, by rw [Hany.out]; simp⟩
                    case measure => simp [intOf]; omega
                · have hd1 : decide (z < y) = false := by simp; omega
                  clear hgt
                  cases b
                  · go_wp2_with fail
                    go_quiet (fail)
                    go_wp2_with fail
                    go_quiet (fail)
                    go_wp2_with fail
                    go_roundw
                    case rel => exact ⟨k + 1, (y == z), by omega, by go_num, rfl, hwx.drewN _, by rw [Hany.out, Hst.out]; simp⟩
                    case measure => simp [intOf]; omega
                  · go_wp2_with fail
                    go_quiet (fail)
                    go_wp2_with fail
                    go_quiet (fail)
                    go_wp2_with fail
                    go_roundw
                    case rel => exact ⟨k + 1, true, by omega, by go_num, rfl, hwx.drewN _, by rw [Hany.out]; simp⟩
                    case measure => simp [intOf]; omega
              · have hb2 : b = true := by
                  have h1 := Hany.out
                  rw [drop_end hkl, anyEq_mem Hzm.out] at h1
                  simpa [anyEq] using h1.symm
                subst hb2
                have hcz3 : wx.cell? ⟨rb, roff + i, none⟩ = some (.int .i64 z) := by rw [hwx.cell]; exact hcz
                rcases Nat.eq_zero_or_pos i with rfl | hip
                · go_wp2_with fail
                  go_quiet (fail)
                  go_wp2_with fail
                  go_roundw
                  case rel => exact ⟨1, by omega, by go_num, (hw.trans hwx).drewN _⟩
                  case measure => simp [intOf]; omega
                · obtain ⟨j, rfl⟩ : ∃ j, i = j + 1 := ⟨i - 1, by omega⟩
                  obtain ⟨y, hyk⟩ := get_of (show j < r.length by omega)
                  obtain ⟨bb, off, e2, hc⟩ := Hcq.out j y hyk
                  simp only [Option.some.injEq, Addr.mk.injEq] at e2
                  obtain ⟨rfl, rfl, -⟩ := e2
                  have hcy : wx.cell? ⟨rb, roff + j, none⟩ = some (.int .i64 y) := by rw [hwx.cell, hw.cell]; exact hc
                  obtain ⟨hy0, hy1⟩ := Hrange.out y (Hmem.out y (List.mem_of_getElem? hyk)).1
                  have hlt2 : y / s < z / s := by
                    have e1 := (List.getElem?_eq_some_iff.1 hyk)
                    have e2 := (List.getElem?_eq_some_iff.1 Hz.out)
                    obtain ⟨l1, e1⟩ := e1
                    obtain ⟨l2, e2⟩ := e2
                    have := List.pairwise_iff_getElem.1 Hup.out j (j + 1) l1 l2 (by omega)
                    rw [e1, e2] at this; exact this
                  have hd1 : decide (z / s ≤ y / s) = false := by simp; omega
                  have hd0 : decide ((0 : Int) < ((j + 1 : Nat) : Int)) = true := decide_eq_true (by omega)
                  have hd0' : decide (0 < j + 1) = true := by simp
                  have hi1 : (((j + 1 : Nat) : Int)) - 1 = (j : Int) := by omega
                  have hj1 : IntKind.i64.wrap (((j + 1 : Nat) : Int) - 1) = (j : Int) := by rw [hi1]; exact IntWalk.i64_in _ (by omega)
                  have hi2 : (j : Int) + 1 - 1 = (j : Int) := by omega
                  have hk1 : j < r.length := by omega
                  clear hlt2 hyk hc
                  go_wp2_with fail
                  go_quiet (fail)
                  go_wp2_with fail
                  go_roundw
                  case rel => exact ⟨j + 2, by omega, by go_num, (hw.trans hwx).drewN _⟩
                  case measure => simp [intOf]; omega
          · go_wp2_with fail
            go_ret
            exact ⟨by simp, n1.trans hw.new⟩

end Go.Proofs.Ytfcdhmbooblpoaa
