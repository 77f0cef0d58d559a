/- The walk of FnBoth. -/
import Derived.Test.YtfcdhmbooblpoaaWalkFnBothSame
namespace Go.Proofs.Ytfcdhmbooblpoaa
open Go.RowKit

theorem both_some {xs ys : List Int} (h : (both xs ys).length ≠ 0) : timesOk xs = true ∧ timesOk ys = true ∧ both xs ys = ys.foldl put xs ∧ timesOk (both xs ys) = true := by
  unfold both at h ⊢
  rcases hx : timesOk xs with _ | _
  · rw [hx] at h; simp at h
  rcases hy : timesOk ys with _ | _
  · rw [hx, hy] at h; simp at h
  rw [hx, hy] at h
  simp only [Bool.and_self, if_true] at h ⊢
  rw [both_all hx] at h ⊢
  split at h
  · rename_i ho
    rw [if_pos ho]; exact ⟨trivial, trivial, rfl, ho⟩
  · simp at h
theorem nodup_le : ∀ (xs zs : List Int), xs.Nodup → (∀ z ∈ xs, z ∈ zs) → xs.length ≤ zs.length
  | [], _, _, _ => by simp
  | x :: r, zs, hn, h => by
    rw [List.nodup_cons] at hn
    have hx := h x (by simp)
    have h1 := nodup_le r (zs.erase x) hn.2 fun z hz => (List.mem_erase_of_ne (by rintro rfl; exact hn.1 hz)).2 (h z (by simp [hz]))
    have h2 := List.length_erase_of_mem hx
    have h3 := List.length_pos_of_mem hx
    simp only [List.length_cons]; omega
theorem both_lens {xs ys : List Int} (hx : timesOk xs = true) (hy : timesOk ys = true) : xs.length ≤ (ys.foldl put xs).length ∧ ys.length ≤ (ys.foldl put xs).length ∧ (ys.foldl put xs).length ≤ xs.length + ys.length := by
  obtain ⟨g1, g2⟩ := fold_put ys xs (ok_sorted hx)
  have nx : xs.Nodup := (ok_sorted hx).imp (by intro a b h; omega)
  have ny : ys.Nodup := (ok_sorted hy).imp (by intro a b h; omega)
  exact ⟨nodup_le _ _ nx (fun z hz => (g2 z).2 (.inl hz)), nodup_le _ _ ny (fun z hz => (g2 z).2 (.inr hz)), fold_len ys xs⟩

def anyEq (x : Int) (l : List Int) : Bool := l.any fun y => y == x
theorem anyEq_mem {x : Int} {l : List Int} (h : x ∈ l) : anyEq x l = true := by
  unfold anyEq
  rw [List.any_eq_true]
  exact ⟨x, h, by simp⟩

set_option maxHeartbeats 4000000 in
theorem walkFnBoth (v : Value) (bs : List Int) (w : World) (h : Nums .u8 Any w v bs) :
    Calls Try.prog 14 #[v] w fun e w' => e = .returned (.bool true) ∧ New w w' := by
  have h0 := h
  obtain ⟨a, c, rfl, h1, ⟨h2, -⟩, h3, h4⟩ := h
  unfold maxLen at h2
  clear h4 h3
  by_cases hl : 1048576 < bs.length
  · have hl' : (1048576 : Int) < bs.length := by omega
    go_enter Try.func14, Try.ntmps14
    go_wp2_with fail
    go_ret
    exact ⟨rfl, New.refl _⟩
  · have hl' : ¬ ((1048576 : Int) < bs.length) := by omega
    go_enter Try.func14, Try.ntmps14
    go_wp2_with fail
    refine (drawKeepBoth _ bs w h0).mono ?_
    rintro e w1 ⟨v1, u1, xs, ys, rfl, hs, hs', o1, p1, n1⟩
    have hs1 := hs.1
    have hs2 := hs'.1
    have hrl := both_len xs ys
    have hsome := @both_some xs ys
    go_wp2_with fail
    refine (keepBoth _ _ xs ys _ o1.nums p1.nums).mono ?_
    rintro e w2 ⟨v2, rfl, o2, n2⟩
    replace o1 := o1.new n2
    replace p1 := p1.new n2
    replace n1 := n1.trans n2
    go_wp2_with fail
    refine (specKeepBoth _ _ xs ys _ o1.nums p1.nums).mono ?_
    rw [both_eq]
    rintro e w3 ⟨v3, rfl, o3, n3⟩
    replace o1 := o1.new n3
    replace p1 := p1.new n3
    replace o2 := o2.new n3
    replace n1 := n1.trans n3
    go_wp2_with fail
    refine (sameInts _ _ _ _ _ o2.nums o3.nums).mono ?_
    rintro e w4 ⟨rfl, d4⟩
    replace o1 := o1.new d4.new
    replace p1 := p1.new d4.new
    replace o2 := o2.new d4.new
    replace o3 := o3.new d4.new
    replace n1 := n1.trans d4.new
    clear n2 n3 d4
    have Hsome := Lib.hid hsome
    clear hsome
    generalize both xs ys = r at hrl Hsome o2 o3 ⊢
    obtain ⟨a3, c3, rfl, -⟩ := o3.shape
    have hr2 := o2.nums
    obtain ⟨a2, c2, rfl, r1, ⟨r2, -⟩, r3, r4⟩ := hr2
    unfold maxLen at r2
    by_cases hr0 : r.length = 0
    · have hb : ((r.length : Int) == 0) = true := by simp [hr0]
      clear hr0
      go_wp2_with fail
      refine (sameInts _ _ _ _ _ o2.nums o3.nums).mono ?_
      rintro e w6 ⟨rfl, d6⟩
      go_wp2_with fail
      go_ret
      exact ⟨by simp, n1.trans d6.new⟩
    · have hb : ((r.length : Int) == 0) = false := by simp [hr0]
      obtain ⟨hx, hy, hre, hrok⟩ := Hsome.out hr0
      obtain ⟨l1, l2, l3⟩ := both_lens hx hy
      rw [← hre] at l1 l2 l3
      have hmem : ∀ z ∈ r, z ∈ xs ∨ z ∈ ys := fun z hz => ((fold_put ys xs (ok_sorted hx)).2 z).1 (hre ▸ hz)
      have Hmem := Lib.hid hmem
      have Hrok := Lib.hid hrok
      clear hr0 hx hy hre hrok hmem o3
      have hp1 := o1.nums
      obtain ⟨aa, ca, rfl, x1, ⟨x2, -⟩, x3, x4⟩ := hp1
      have hp2 := p1.nums
      obtain ⟨ab, cb, rfl, y1, ⟨y2, -⟩, y3, y4⟩ := hp2
      unfold maxLen at x2 y2
      have hcx : ∀ (k : Nat) (z : Int), xs[k]? = some z → ∃ b off, aa = some ⟨b, off, none⟩ ∧ w4.cell? ⟨b, off + k, none⟩ = some (.int .i64 z) := by
        intro k z hk
        rcases x4 with rfl | ⟨b, off, rfl, -, -, hc⟩
        · simp at hk
        · exact ⟨b, off, rfl, hc k z hk⟩
      have hcy : ∀ (k : Nat) (z : Int), ys[k]? = some z → ∃ b off, ab = some ⟨b, off, none⟩ ∧ w4.cell? ⟨b, off + k, none⟩ = some (.int .i64 z) := by
        intro k z hk
        rcases y4 with rfl | ⟨b, off, rfl, -, -, hc⟩
        · simp at hk
        · exact ⟨b, off, rfl, hc k z hk⟩
      have Hcx := Lib.hid hcx
      have Hcy := Lib.hid hcy
      clear x4 y4 x3 y3 hcx hcy
      go_wp2_with fail
      go_loopw [7] (fun i wr => ∃ (k : Nat), k ≤ r.length ∧ i = .int .i64 k ∧ Drew w4 wr) (fun i _ => r.length - (intOf i).toNat)
      case atStart => exact ⟨0, Nat.zero_le _, rfl, Drew.refl _⟩
      case round =>
        obtain ⟨i, hi, rfl, hw⟩ := hrel
        rename World => wr
        by_cases hlt : i < r.length
        · obtain ⟨z, hz⟩ := get_of hlt
          rcases r4 with rfl | ⟨rb, roff, rfl, -, -, hrc⟩
          · simp at hlt
          have hcz : wr.cell? ⟨rb, roff + i, none⟩ = some (.int .i64 z) := by rw [hw.cell]; exact hrc i z hz
          have hzm := Hmem.out z (List.mem_of_getElem? hz)
          have Hzm := Lib.hid hzm
          clear hzm hz hrc
          obtain ⟨wo, rfl⟩ : ∃ wo : World, wo = wr := ⟨_, rfl⟩
          go_wp2_with fail
          go_loopw [8, 9] (fun s t wx => ∃ (k : Nat) (b : Bool), k ≤ xs.length ∧ t = .int .i64 k ∧ s = .bool b ∧ Drew wo wx ∧ anyEq z xs = (b || anyEq z (xs.drop k))) (fun _ t _ => xs.length - (intOf t).toNat)
          case atStart => exact ⟨0, false, Nat.zero_le _, rfl, rfl, Drew.refl _, rfl⟩
          case round =>
            obtain ⟨k, b, hk, rfl, rfl, hwx, hany⟩ := hrel
            rename World => wx
            have Hany := Lib.hid hany
            clear hany
            by_cases hkl : k < xs.length
            · obtain ⟨y, hyk⟩ := get_of hkl
              obtain ⟨bb, off, rfl, hc⟩ := Hcx.out k y hyk
              have hcy : wx.cell? ⟨bb, off + k, none⟩ = some (.int .i64 y) := by rw [hwx.cell, hw.cell]; exact hc
              have hcz2 : wx.cell? ⟨rb, roff + i, none⟩ = some (.int .i64 z) := by rw [hwx.cell]; exact hcz
              have hst : anyEq z (xs.drop k) = ((y == z) || anyEq z (xs.drop (k + 1))) := by rw [drop_of hyk]; rfl
              have Hst := Lib.hid hst
              clear hc hyk hst
              cases b
              · go_wp2_with fail
                go_quiet (fail)
                go_wp2_with fail
                go_roundw
                case rel => exact ⟨k + 1, (y == z), by omega, by go_num, rfl, hwx.drewN _, by rw [Hany.out, Hst.out]; simp⟩
                case measure => simp [intOf]; omega
              · go_wp2_with fail
                go_quiet (fail)
                go_wp2_with fail
                go_roundw
                case rel => exact ⟨k + 1, true, by omega, by go_num, rfl, hwx.drewN _, by rw [Hany.out]; simp⟩
                case measure => simp [intOf]; omega
            · have hax : anyEq z xs = b := by rw [Hany.out, drop_end hkl]; simp [anyEq]
              have Hax := Lib.hid hax
              clear hax
              have dwx := hw.trans hwx
              have hcz3 : wx.cell? ⟨rb, roff + i, none⟩ = some (.int .i64 z) := by rw [hwx.cell]; exact hcz
              obtain ⟨wp, rfl⟩ : ∃ wp : World, wp = wx := ⟨_, rfl⟩
              go_wp2_with fail
              go_loopw [8, 10] (fun s t wx => ∃ (k : Nat) (b2 : Bool), k ≤ ys.length ∧ t = .int .i64 k ∧ s = .bool b2 ∧ Drew wp wx ∧ (b || anyEq z ys) = (b2 || anyEq z (ys.drop k))) (fun _ t _ => ys.length - (intOf t).toNat)
              case atStart => exact ⟨0, b, Nat.zero_le _, rfl, rfl, Drew.refl _, rfl⟩
              case round =>
                obtain ⟨k, b2, hk, rfl, rfl, hwx, hany⟩ := hrel
                rename World => wx
                have Hany := Lib.hid hany
                clear hany
                by_cases hkl : k < ys.length
                · obtain ⟨y, hyk⟩ := get_of hkl
                  obtain ⟨bb, off, rfl, hc⟩ := Hcy.out k y hyk
                  have hcy : wx.cell? ⟨bb, off + k, none⟩ = some (.int .i64 y) := by rw [hwx.cell, dwx.cell]; exact hc
                  have hcz2 : wx.cell? ⟨rb, roff + i, none⟩ = some (.int .i64 z) := by rw [hwx.cell]; exact hcz3
                  have hst : anyEq z (ys.drop k) = ((y == z) || anyEq z (ys.drop (k + 1))) := by rw [drop_of hyk]; rfl
                  have Hst := Lib.hid hst
                  clear hc hyk hst
                  cases b2
                  · go_wp2_with fail
                    go_quiet (fail)
                    go_wp2_with fail
                    go_roundw
                    case rel => exact ⟨k + 1, (y == z), by omega, by go_num, rfl, hwx.drewN _, by rw [Hany.out, Hst.out]; simp⟩
                    case measure => simp [intOf]; omega
                  · go_wp2_with fail
                    go_quiet (fail)
                    go_wp2_with fail
                    go_roundw
                    case rel => exact ⟨k + 1, true, by omega, by go_num, rfl, hwx.drewN _, by rw [Hany.out]; simp⟩
                    case measure => simp [intOf]; omega
                · have hb2 : b2 = true := by
                    have h1 := Hany.out
                    rw [drop_end hkl, ← Hax.out] at h1
                    have h2 : (anyEq z xs || anyEq z ys) = true := by
                      rcases Hzm.out with h | h
                      · rw [anyEq_mem h]; rfl
                      · rw [anyEq_mem h]; simp
                    rw [h2] at h1
                    simpa [anyEq] using h1.symm
                  subst hb2
                  go_wp2_with fail
                  go_roundw
                  case rel => exact ⟨i + 1, by omega, by go_num, dwx.trans hwx⟩
                  case measure => simp [intOf]; omega
        · go_wp2_with fail
          refine (implTv _ r _ (o2.nums.new hw.new)).mono ?_
          rw [Hrok.out]
          rintro e w6 ⟨rfl, rfl⟩
          have q1 : (xs.length : Int) ≤ (r.length : Int) := by omega
          have q2 : (ys.length : Int) ≤ (r.length : Int) := by omega
          have q3 : (r.length : Int) ≤ (xs.length : Int) + (ys.length : Int) := by omega
          go_wp2_with fail
          all_goals go_ret
          all_goals exact ⟨rfl, n1.trans hw.new⟩

end Go.Proofs.Ytfcdhmbooblpoaa
