/- The walk of FnSpansAll. -/
import Derived.Test.YtfcdhmbooblpoaaSpansMore
import Derived.Test.YtfcdhmbooblpoaaDrawSpans
namespace Go.Proofs.Ytfcdhmbooblpoaa
open Go.RowKit

def anyDiv (s x : Int) (l : List Int) : Bool := l.any fun y => y / s == x / s
theorem anyDiv_mem {s x y : Int} {l : List Int} (h : y ∈ l) (he : y / s = x / s) : anyDiv s x l = true := by
  unfold anyDiv
  rw [List.any_eq_true]
  exact ⟨y, h, by simp [he]⟩

set_option maxHeartbeats 4000000 in
theorem walkFnSpansAll (v : Value) (bs : List Int) (w : World) (h : Nums .u8 Any w v bs) :
    Calls Try.prog 10 #[v] w fun e w' => e = .returned (.bool true) ∧ New w w' := by
  have h0 := h
  obtain ⟨a, c, rfl, h1, ⟨h2, -⟩, h3, h4⟩ := h
  unfold maxLen at h2
  clear h4 h3
  by_cases hl : 1048576 < bs.length
  · have hl' : (1048576 : Int) < bs.length := by omega
    go_enter Try.func10, Try.ntmps10
    go_wp2_with fail
    go_ret
    exact ⟨rfl, New.refl _⟩
  · have hl' : ¬ ((1048576 : Int) < bs.length) := by omega
    go_enter Try.func10, Try.ntmps10
    go_wp2_with fail
    refine (drawKeepSpans _ bs w h0).mono ?_
    rintro e w1 ⟨v1, xs, s, many, rfl, hs, hs0, hs1, hm0, hm1, o1, n1⟩
    obtain ⟨m, rfl⟩ := Int.eq_ofNat_of_zero_le hm0
    have hx1 := hs.1
    have hrl := spans_len xs s m
    go_wp2_with fail
    refine (keepSpans _ xs s m _ o1.nums).mono ?_
    rintro e w2 ⟨v2, rfl, o2, n2⟩
    replace o1 := o1.new n2
    replace n1 := n1.trans n2
    go_wp2_with fail
    refine (specKeepSpans _ xs s m _ o1.nums).mono ?_
    rw [spans_eq]
    rintro e w3 ⟨v3, rfl, o3, n3⟩
    replace o1 := o1.new n3
    replace o2 := o2.new n3
    replace n1 := n1.trans n3
    go_wp2_with fail
    refine (sameInts _ _ _ _ _ o2.nums o3.nums).mono ?_
    rintro e w4 ⟨rfl, d4⟩
    replace o1 := o1.new d4.new
    replace o2 := o2.new d4.new
    replace o3 := o3.new d4.new
    replace n1 := n1.trans d4.new
    clear n2 n3 d4
    go_wp2_with fail
    refine (specTv_ok _ xs _ o1.nums).mono ?_
    rintro e w5 ⟨rfl, d5⟩
    replace o1 := o1.new d5.new
    replace o2 := o2.new d5.new
    replace o3 := o3.new d5.new
    replace n1 := n1.trans d5.new
    clear d5
    rcases hr : timesOk xs with _ | _
    · have Hr := Lib.hid hr
      clear hr
      go_wp2_with fail
      refine (sameInts _ _ _ _ _ o2.nums o3.nums).mono ?_
      rintro e w6 ⟨rfl, d6⟩
      go_wp2_with fail
      go_ret
      exact ⟨by simp, n1.trans d6.new⟩
    · have Hr := Lib.hid hr
      clear hr
      by_cases hsp : s < 1
      · go_wp2_with fail
        refine (sameInts _ _ _ _ _ o2.nums o3.nums).mono ?_
        rintro e w6 ⟨rfl, d6⟩
        go_wp2_with fail
        go_ret
        exact ⟨by simp, n1.trans d6.new⟩
      · have hso : spanOk s = true := by simp [spanOk]; omega
        have hmo : manyOk (m : Int) = true := by simp [manyOk]; omega
        have hs1' : ¬ (9999 < s) := by omega
        have hm0' : ¬ ((m : Int) < 0) := by omega
        have hm1' : ¬ ((20 : Int) < (m : Int)) := by omega
        have Hso := Lib.hid hso
        have Hmo := Lib.hid hmo
        clear hso hmo
        have hfull := spans_full Hr.out Hso.out
        have hmost := spans_most Hr.out Hso.out Hmo.out
        have hrange := ok_range Hr.out
        have hrl2 := spans_len xs s 20
        have hq : ∀ x ∈ spans xs s 20, 0 ≤ x ∧ x ≤ 9999 := fun x hx => hrange x (spans_mem (m := 20) Hr.out Hso.out (by rfl) x hx).1
        have h3 := fun (W : World) (H : Ints (fun k => w.heap.size ≤ k) W v1 xs) => keepSpans v1 xs s 20 W H
        have H3 := Lib.hid h3
        have Hrange := Lib.hid hrange
        have Hfull := Lib.hid hfull
        have Hq := Lib.hid hq
        clear h3 hfull hrange hq
        generalize spans xs s (m : Int) = r at hrl hmost o2 o3 ⊢
        obtain ⟨a2, c2, rfl, r1, r2⟩ := o2.shape
        go_wp2_with fail
        refine (H3.out _ o1.nums).mono ?_
        rintro e w6 ⟨v6, rfl, o6, n6⟩
        replace o1 := o1.new n6
        replace n1 := n1.trans n6
        clear n6 o2 o3 hs
        clear H3
        generalize spans xs s 20 = q at hmost hrl2 Hfull Hq o6
        have hp1 := o1.nums
        obtain ⟨aa, ca, rfl, x1, ⟨x2, -⟩, x3, x4⟩ := hp1
        unfold maxLen at x2
        have hcx : ∀ (k : Nat) (z : Int), xs[k]? = some z → ∃ b off, aa = some ⟨b, off, none⟩ ∧ w6.cell? ⟨b, off + k, none⟩ = some (.int .i64 z) := by
          intro k z hk
          rcases x4 with rfl | ⟨b, off, rfl, -, -, hc⟩
          · simp at hk
          · exact ⟨b, off, rfl, hc k z hk⟩
        have Hcx := Lib.hid hcx
        clear x4 hcx
        have hp6 := o6.nums
        obtain ⟨aq, cq, rfl, q1, ⟨q2, -⟩, q3, q4⟩ := hp6
        unfold maxLen at q2
        have hcq : ∀ (k : Nat) (z : Int), q[k]? = some z → ∃ b off, aq = some ⟨b, off, none⟩ ∧ w6.cell? ⟨b, off + k, none⟩ = some (.int .i64 z) := by
          intro k z hk
          rcases q4 with rfl | ⟨b, off, rfl, -, -, hc⟩
          · simp at hk
          · exact ⟨b, off, rfl, hc k z hk⟩
        have Hcq := Lib.hid hcq
        clear q4 hcq q3 x3 o6 o1
        go_wp2_with fail
        go_loopw [9] (fun i wr => ∃ (k : Nat), k ≤ xs.length ∧ i = .int .i64 k ∧ Drew w6 wr) (fun i _ => xs.length - (intOf i).toNat)
        case atStart => exact ⟨0, Nat.zero_le _, rfl, Drew.refl _⟩
        case round =>
          obtain ⟨i, hi, rfl, hw⟩ := hrel
          rename World => wr
          by_cases hlt : i < xs.length
          · obtain ⟨z, hz⟩ := get_of hlt
            obtain ⟨rb, roff, rfl, hrc⟩ := Hcx.out i z hz
            have hcz : wr.cell? ⟨rb, roff + i, none⟩ = some (.int .i64 z) := by rw [hw.cell]; exact hrc
            have hzm := Hfull.out z (List.mem_of_getElem? hz)
            obtain ⟨hz0, hz1⟩ := Hrange.out z (List.mem_of_getElem? hz)
            have Hzm := Lib.hid hzm
            clear hzm hz hrc
            obtain ⟨wo, rfl⟩ : ∃ wo : World, wo = wr := ⟨_, rfl⟩
            go_wp2_with fail
            go_loopw [10, 11] (fun u t wx => ∃ (k : Nat) (b : Bool), k ≤ q.length ∧ t = .int .i64 k ∧ u = .bool b ∧ Drew wo wx ∧ anyDiv s z q = (b || anyDiv s z (q.drop k))) (fun _ t _ => q.length - (intOf t).toNat)
            case atStart => exact ⟨0, false, Nat.zero_le _, rfl, rfl, Drew.refl _, rfl⟩
            case round =>
              obtain ⟨k, b, hk, rfl, rfl, hwx, hany⟩ := hrel
              rename World => wx
              have Hany := Lib.hid hany
              clear hany
              by_cases hkl : k < q.length
              · obtain ⟨y, hyk⟩ := get_of hkl
                obtain ⟨bb, off, rfl, hc⟩ := Hcq.out k y hyk
                obtain ⟨hy0, hy1⟩ := Hq.out y (List.mem_of_getElem? hyk)
                have hcy : wx.cell? ⟨bb, off + k, none⟩ = some (.int .i64 y) := by rw [hwx.cell, hw.cell]; exact hc
                have hcz2 : wx.cell? ⟨rb, roff + i, none⟩ = some (.int .i64 z) := by rw [hwx.cell]; exact hcz
                have hst : anyDiv s z (q.drop k) = ((y / s == z / s) || anyDiv s z (q.drop (k + 1))) := by rw [drop_of hyk]; rfl
                have Hst := Lib.hid hst
                clear hc hyk hst
                cases b
                · go_wp2_with fail
                  go_quiet (fail)
                  go_wp2_with fail
                  go_roundw
                  case rel => exact ⟨k + 1, (y / s == z / s), by omega, by go_num, rfl, hwx.drewN _, by rw [Hany.out, Hst.out]; simp⟩
                  case measure => simp [intOf]; omega
                · go_wp2_with fail
                  go_quiet (fail)
                  go_wp2_with fail
                  go_roundw
                  case rel => exact ⟨k + 1, true, by omega, by go_num, rfl, hwx.drewN _, by rw [Hany.out]; simp⟩
                  case measure => simp [intOf]; omega
              · have hb2 : b = true := by
                  have h1 := Hany.out
                  obtain ⟨y, hy, he⟩ := Hzm.out
                  rw [drop_end hkl, anyDiv_mem hy he] at h1
                  simpa [anyDiv] using h1.symm
                subst hb2
                go_wp2_with fail
                go_roundw
                case rel => exact ⟨i + 1, by omega, by go_num, hw.trans hwx⟩
                case measure => simp [intOf]; omega
          · have hmost' : (r.length : Int) ≤ (q.length : Int) := by omega
            go_wp2_with fail
            go_ret
            exact ⟨by simp, n1.trans hw.new⟩

end Go.Proofs.Ytfcdhmbooblpoaa
