/- The walk of FnNewest. -/
import Derived.Test.YtfcdhmbooblpoaaKeepLaw
import Derived.Test.YtfcdhmbooblpoaaTimesDraw
namespace Go.Proofs.Ytfcdhmbooblpoaa
open Go.RowKit

theorem newest_drop {xs : List Int} {m : Nat} (h : timesOk xs = true) (hm : manyOk (m : Int) = true) : newest xs m = xs.drop (xs.length - m) := by
  rw [← newest_eq, specNewest, h, hm]; rfl
theorem newest_length {xs : List Int} {m : Nat} (h : timesOk xs = true) (hm : manyOk (m : Int) = true) : (newest xs m).length = min m xs.length := by
  rw [newest_drop h hm]; simp; omega
theorem newest_tail {xs : List Int} {m : Nat} (h : timesOk xs = true) (hm : manyOk (m : Int) = true) : xs.drop (xs.length - (newest xs m).length) = newest xs m := by
  rw [newest_length h hm, newest_drop h hm]; congr 1; omega

set_option maxHeartbeats 1000000 in
theorem walkFnNewest (v : Value) (bs : List Int) (w : World) (h : Nums .u8 Any w v bs) :
    Calls Try.prog 7 #[v] w fun e w' => e = .returned (.bool true) ∧ New w w' := by
  have h0 := h
  obtain ⟨a, c, rfl, h1, ⟨h2, -⟩, h3, h4⟩ := h
  unfold maxLen at h2
  clear h4 h3
  by_cases hl : 1048576 < bs.length
  · have hl' : (1048576 : Int) < bs.length := by omega
    go_enter Try.func7, Try.ntmps7
    go_wp2_with fail
    go_ret
    exact ⟨rfl, New.refl _⟩
  · have hl' : ¬ ((1048576 : Int) < bs.length) := by omega
    go_enter Try.func7, Try.ntmps7
    go_wp2_with fail
    refine (drawKeepNewest _ bs w h0).mono ?_
    rintro e w1 ⟨v1, xs, many, rfl, hs, hm0, hm1, o1, n1⟩
    have hs1 := hs.1
    have hrl := newest_len xs many
    go_wp2_with fail
    refine (keepNewest _ xs many _ o1.nums).mono ?_
    rintro e w2 ⟨v2, rfl, o2, n2⟩
    replace o1 := o1.new n2
    replace n1 := n1.trans n2
    go_wp2_with fail
    refine (specKeepNewest _ xs many _ o1).mono ?_
    rw [newest_eq]
    rintro e w3 ⟨v3, rfl, o3, n3⟩
    replace o1 := o1.new n3
    replace o2 := o2.new n3
    replace n1 := n1.trans n3
    go_wp2_with fail
    refine (sameInts _ _ _ _ _ o2.nums o3.nums).mono ?_
    rintro e w4 ⟨rfl, d4⟩
    replace o1 := o1.new d4.new
    replace o2 := o2.new d4.new
    replace o3 := o3.new d4.new
    replace n1 := n1.trans d4.new
    clear n2 n3 d4
    go_wp2_with fail
    refine (specTv_ok _ xs _ o1.nums).mono ?_
    rintro e w5 ⟨rfl, d5⟩
    replace o1 := o1.new d5.new
    replace o2 := o2.new d5.new
    replace o3 := o3.new d5.new
    replace n1 := n1.trans d5.new
    clear d5
    rcases hr : timesOk xs with _ | _
    · have Hr := Lib.hid hr
      clear hr
      go_wp2_with fail
      refine (sameInts _ _ _ _ _ o2.nums o3.nums).mono ?_
      rintro e w6 ⟨rfl, d6⟩
      go_wp2_with fail
      go_ret
      exact ⟨by simp, n1.trans d6.new⟩
    · have Hr := Lib.hid hr
      clear hr
      by_cases hneg : many < 0 ∨ 20 < many
      · by_cases hng : many < 0
        all_goals
          go_wp2_with fail
          refine (sameInts _ _ _ _ _ o2.nums o3.nums).mono ?_
          rintro e w6 ⟨rfl, d6⟩
          go_wp2_with fail
          go_ret
          exact ⟨by simp, n1.trans d6.new⟩
      · obtain ⟨m, rfl⟩ := Int.eq_ofNat_of_zero_le (show 0 ≤ many by omega)
        have hmo : manyOk (m : Int) = true := by simp [manyOk]; omega
        have hnl := newest_length Hr.out hmo
        have htl := newest_tail Hr.out hmo
        have hm20 : m ≤ 20 := by omega
        generalize newest xs (m : Int) = r at *
        have Htl := Lib.hid htl
        obtain ⟨a2, c2, rfl, r1, r2⟩ := o2.shape
        have Hmo := Lib.hid hmo
        clear htl hmo hneg
        rcases o1.1.cases with ⟨rfl, hn0⟩ | ⟨g, c1, rfl, hSg, hg, hc1, hc2⟩
        · obtain rfl : xs = [] := List.eq_nil_of_length_eq_zero hn0
          have hr0 : r = [] := List.eq_nil_of_length_eq_zero (by simpa using hnl)
          subst hr0
          rcases Nat.eq_zero_or_pos m with rfl | hmp
          all_goals
            go_wp2_with fail
            all_goals
              refine (sameInts _ _ [] [] _ (Nums.nil .i64 Any _) o2.nums).mono ?_
              rintro e w6 ⟨rfl, d6⟩
              go_wp2_with fail
              go_ret
              exact ⟨rfl, n1.trans d6.new⟩
        · unfold maxLen at hc2
          have hx := o1.nums
          obtain ⟨k, hk⟩ : ∃ k : Nat, k = xs.length - r.length := ⟨_, rfl⟩
          have hke : (xs.length : Int) - (r.length : Int) = (k : Int) := by omega
          have hkl : k ≤ xs.length := by omega
          have hkl' : (k : Int) ≤ (xs.length : Int) := by omega
          have htl := Htl.out
          rw [← hk] at htl
          have hd := hx.drop k hkl
          simp only [Nat.zero_add] at hd
          rw [htl] at hd
          have Hd := Lib.hid hd
          have Hnl := Lib.hid hnl
          have hcases : (m ≤ xs.length ∧ ((r.length : Int) == (m : Int)) = true) ∨ (¬ m ≤ xs.length ∧ ((r.length : Int) == (xs.length : Int)) = true) := by
            by_cases hml : m ≤ xs.length
            · exact .inl ⟨hml, by simp; omega⟩
            · exact .inr ⟨hml, by simp; omega⟩
          clear hk htl hd hnl
          by_cases hck : c1 = k
          · have hf := Hd.out
            rw [if_pos hck] at hf
            subst hck
            rw [Nat.sub_self, show xs.length - c1 = 0 from by omega] at hf
            have Hf := Lib.hid hf
            clear hf
            rcases hcases with ⟨hml, hb⟩ | ⟨hml, hb⟩
            · have hml' : (m : Int) ≤ (xs.length : Int) := by omega
              go_wp2_with fail
              refine (sameInts _ _ r r _ Hf.out o2.nums).mono ?_
              rintro e w6 ⟨rfl, d6⟩
              go_wp2_with fail
              go_ret
              exact ⟨rfl, n1.trans d6.new⟩
            · have hml' : ¬ (m : Int) ≤ (xs.length : Int) := by omega
              go_wp2_with fail
              refine (sameInts _ _ r r _ Hf.out o2.nums).mono ?_
              rintro e w6 ⟨rfl, d6⟩
              go_wp2_with fail
              go_ret
              exact ⟨rfl, n1.trans d6.new⟩
          · have hf := Hd.out
            rw [if_neg hck] at hf
            have Hf := Lib.hid hf
            clear hf
            rcases hcases with ⟨hml, hb⟩ | ⟨hml, hb⟩
            · have hml' : (m : Int) ≤ (xs.length : Int) := by omega
              go_wp2_with fail
              refine (sameInts _ _ r r _ Hf.out o2.nums).mono ?_
              rintro e w6 ⟨rfl, d6⟩
              go_wp2_with fail
              go_ret
              exact ⟨rfl, n1.trans d6.new⟩
            · have hml' : ¬ (m : Int) ≤ (xs.length : Int) := by omega
              go_wp2_with fail
              refine (sameInts _ _ r r _ Hf.out o2.nums).mono ?_
              rintro e w6 ⟨rfl, d6⟩
              go_wp2_with fail
              go_ret
              exact ⟨rfl, n1.trans d6.new⟩

end Go.Proofs.Ytfcdhmbooblpoaa
