/- Walks of the reference's KeepNewest, KeepSpans, KeepBoth. -/
import Derived.Test.YtfcdhmbooblpoaaKeep
import Derived.Deep.DeepCutAuto
namespace Go.Proofs.Ytfcdhmbooblpoaa
open Go.RowKit

def specNewest (xs : List Int) (many : Int) : List Int := if timesOk xs && manyOk many then xs.drop (xs.length - many.toNat) else []

theorem kept_empty (w : World) : Kept w [] (.returned (.slice (some ⟨w.heap.size, 0, none⟩) 0 0)) (w.alloc (.cells #[] 3)) :=
  ⟨_, rfl, (OwnNums.empty _ _ _).mono (fun k _ hk => by omega), (New.refl _).alloc _⟩
theorem Kept.of_new {w w1 w' : World} {ys : List Int} {e : Ending} (h : Kept w1 ys e w') (n : New w w1) : Kept w ys e w' := by
  obtain ⟨v, h1, h2, h3⟩ := h
  exact ⟨v, h1, h2.mono (fun k _ hk => Nat.le_trans n.size hk), n.trans h3⟩

set_option maxHeartbeats 1000000 in
theorem specKeepNewest {S : Nat → Prop} (v : Value) (xs : List Int) (many : Int) (w : World) (ho : OwnInts 3 S w v xs) :
    Calls Try.prog 21 #[v, .int .i64 many] w (Kept w (specNewest xs many)) := by
  have h := ho.nums
  rcases hr : timesOk xs with _ | _
  · have Hr := Lib.hid hr
    clear hr
    go_enter Try.func21, Try.ntmps21
    go_wp2_with fail
    refine (specTv_ok _ xs _ h).mono ?_
    rw [Hr.out]
    rintro e w1 ⟨rfl, d1⟩
    go_wp2_with fail
    go_ret
    rw [specNewest, Hr.out]
    exact (kept_empty w1).of_new d1.new
  · have hxl : xs.length ≤ 20 := by simp [timesOk] at hr; exact hr.1
    rcases hmo : manyOk many with _ | _
    · have Hr := Lib.hid hr
      have Hmo := Lib.hid hmo
      clear hr hmo
      go_enter Try.func21, Try.ntmps21
      go_wp2_with fail
      refine (specTv_ok _ xs _ h).mono ?_
      rw [Hr.out]
      rintro e w1 ⟨rfl, d1⟩
      go_wp2_with fail
      refine (in_is (r := false) Hmo.out _).mono ?_
      rintro e w2 ⟨rfl, rfl⟩
      go_wp2_with fail
      go_ret
      rw [specNewest, Hr.out, Hmo.out]
      exact (kept_empty w1).of_new d1.new
    · have Hr := Lib.hid hr
      have Hmo := Lib.hid hmo
      have hm : 0 ≤ many ∧ many ≤ 20 := by simpa [manyOk] using hmo
      clear hr hmo
      obtain ⟨m, rfl⟩ := Int.eq_ofNat_of_zero_le hm.1
      have hm20 : m ≤ 20 := by omega
      clear hm
      rcases ho.1.cases with ⟨rfl, hn0⟩ | ⟨g, c, rfl, hSg, hg, hc1, hc2⟩
      · obtain rfl : xs = [] := List.eq_nil_of_length_eq_zero hn0
        have h1 : ∀ w1 : World, New w w1 → Kept w [] (.returned (.slice (some ⟨w1.heap.size, 0, none⟩) 0 0)) (w1.alloc (.cells #[] 3)) := fun w1 n => (kept_empty w1).of_new n
        have H1 := Lib.hid h1
        clear h1
        rcases Nat.eq_zero_or_pos m with rfl | hm0
        all_goals
          go_enter Try.func21, Try.ntmps21
          go_wp2_with fail
          refine (specTv_ok _ [] _ h).mono ?_
          rw [Hr.out]
          rintro e w1 ⟨rfl, d1⟩
          go_wp2_with fail
          refine (in_is (r := true) Hmo.out _).mono ?_
          rintro e w2 ⟨rfl, rfl⟩
          go_wp2_with fail
          go_ret
          rw [specNewest, Hr.out, Hmo.out, List.drop_nil]
          exact H1.out _ d1.new
      · unfold maxLen at hc2
        have fin : ∀ (k : Nat) (w1 w2 : World) (v2 : Value) (T : Nat → Prop), Drew w w1 → k = xs.length - m → Row 3 1 T w2 v2 (0 + (xs.length - k)) ([] ++ (xs.drop k).map (Value.int .i64)) → (∀ j, T j → w1.heap.size ≤ j) → New w w2 → Kept w (specNewest xs (m : Int)) (.returned v2) w2 := by
          intro k w1 w2 v2 T d1 hk hr hT hn
          have o2 := OwnNums.of_append (xs := []) (ys := xs.drop k) hr (by simp) (fun x hx => ho.2 x (List.mem_of_mem_drop hx))
          have e1 : specNewest xs (m : Int) = [] ++ xs.drop k := by rw [specNewest, Hr.out, Hmo.out, hk]; rfl
          rw [e1]
          exact ⟨v2, rfl, o2.mono (fun j _ hj => Nat.le_trans d1.new.size (hT j hj)), hn⟩
        have Fin := Lib.hid fin
        have go : ∀ (k : Nat), k = xs.length - m → ((xs.length : Int) - (m : Int) < 0 ∧ k = 0 ∨ ¬ (xs.length : Int) - (m : Int) < 0 ∧ (xs.length : Int) - (m : Int) = (k : Int)) → Calls Try.prog 21 #[.slice (some ⟨g, 0, none⟩) xs.length c, .int .i64 m] w (Kept w (specNewest xs m)) := by
          intro k hk hcase
          have hkl : k ≤ xs.length := by omega
          have Hk := Lib.hid hk
          clear hk
          have hd := h.drop k hkl
          simp only [Nat.zero_add] at hd
          have Hd := Lib.hid hd
          clear hd
          rcases hcase with ⟨hneg, rfl⟩ | ⟨hpos, hke⟩
          · go_enter Try.func21, Try.ntmps21
            go_wp2_with fail
            refine (specTv_ok _ _ _ h).mono ?_
            rw [Hr.out]
            rintro e w1 ⟨rfl, d1⟩
            go_wp2_with fail
            refine (in_is (r := true) Hmo.out _).mono ?_
            rintro e w2 ⟨rfl, rfl⟩
            have hx := (h.new d1.new).new ((New.refl w1).alloc (.cells #[] 3))
            go_wp2_with (at_builtin; refine wpRow_append slInt _ _ rfl rfl (.slice (some ⟨w1.heap.size, 0, none⟩) 0 0) 0 [] rfl (OwnNums.empty .i64 3 w1).1 _ _ _ (xs.map (Value.int .i64)) rfl hx.src (oneCells _ _) (by unfold maxLen; omega) (by omega) ?_; intro v2 w2 o2 c2)
            go_ret
            refine Fin.out 0 w1 w2 _ _ d1 Hk.out o2 (fun j hj => ?_) ((d1.new.trans ((New.refl w1).alloc _)).trans_chg c2 (fun j hj e => by have e' := own_some e; simp only at e'; have := d1.new.size; omega))
            rcases hj with hj | hj
            · have e' := own_some hj; simp only at e'; omega
            · simp at hj; omega
          · go_enter Try.func21, Try.ntmps21
            go_wp2_with fail
            refine (specTv_ok _ _ _ h).mono ?_
            rw [Hr.out]
            rintro e w1 ⟨rfl, d1⟩
            go_wp2_with fail
            refine (in_is (r := true) Hmo.out _).mono ?_
            rintro e w2 ⟨rfl, rfl⟩
            have hx := (Hd.out.new d1.new).new ((New.refl w1).alloc (.cells #[] 3))
            have hkl' : (k : Int) ≤ (xs.length : Int) := by omega
            go_wp2_with (at_builtin; refine wpRow_append slInt _ _ rfl rfl (.slice (some ⟨w1.heap.size, 0, none⟩) 0 0) 0 [] rfl (OwnNums.empty .i64 3 w1).1 _ _ _ ((xs.drop k).map (Value.int .i64)) rfl hx.src (oneCells _ _) (by unfold maxLen; omega) (by omega) ?_; intro v2 w2 o2 c2)
            all_goals
              go_ret
              refine Fin.out k w1 w2 _ _ d1 Hk.out o2 (fun j hj => hj.elim (fun hj => by have e' := own_some hj; simp only at e'; omega) (fun hj => by simp at hj; omega)) ((d1.new.trans ((New.refl w1).alloc _)).trans_chg c2 (fun j hj e => by have e' := own_some e; simp only at e'; have := d1.new.size; omega))
        by_cases hmx : xs.length < m
        · exact go 0 (by omega) (.inl ⟨by omega, rfl⟩)
        · exact go (xs.length - m) rfl (.inr ⟨by omega, by omega⟩)

end Go.Proofs.Ytfcdhmbooblpoaa
