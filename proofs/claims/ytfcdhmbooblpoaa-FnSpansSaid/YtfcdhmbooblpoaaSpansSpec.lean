/- The walk of the reference's KeepSpans. -/
import Derived.Test.YtfcdhmbooblpoaaSpans
namespace Go.Proofs.Ytfcdhmbooblpoaa
open Go.RowKit

def lasts (span : Int) : List Int → List Int
  | [] => []
  | [x] => [x]
  | x :: y :: r => if y / span ≠ x / span then x :: lasts span (y :: r) else lasts span (y :: r)
def specSpans (xs : List Int) (span many : Int) : List Int :=
  if timesOk xs && spanOk span && manyOk many then (lasts span xs).drop ((lasts span xs).length - many.toNat) else []

theorem lasts_sub (span : Int) : ∀ xs : List Int, (lasts span xs).length ≤ xs.length
  | [] => by simp [lasts]
  | [x] => by simp [lasts]
  | x :: y :: r => by
    have := lasts_sub span (y :: r)
    rw [lasts]
    split <;> simp at this ⊢ <;> omega

theorem own_empty (w : World) : OwnInts 3 (fun k => w.heap.size ≤ k) (w.alloc (.cells #[] 3)) (.slice (some ⟨w.heap.size, 0, none⟩) 0 0) [] :=
  (OwnNums.empty _ _ _).mono (fun k _ hk => by omega)

set_option maxHeartbeats 2000000 in
theorem specKeepSpans {S : Nat → Prop} (v : Value) (xs : List Int) (span many : Int) (w : World) (h : Ints S w v xs) :
    Calls Try.prog 25 #[v, .int .i64 span, .int .i64 many] w (Kept w (specSpans xs span many)) := by
  have h0 := h
  obtain ⟨a0, c0, rfl, x1, ⟨x2, -⟩, x3, x4⟩ := h0
  unfold maxLen at x2
  have n0 : New w (w.alloc (.cells #[] 3)) := (New.refl w).alloc _
  have o0 := own_empty w
  have hx := h.new n0
  rcases hr : timesOk xs with _ | _
  · have Hr := Lib.hid hr
    clear hr x3 x4
    go_enter Try.func25, Try.ntmps25
    go_wp2_with fail
    refine (specTv_ok _ xs _ hx).mono ?_
    rw [Hr.out]
    rintro e w1 ⟨rfl, d1⟩
    go_wp2_with fail
    go_ret
    exact ⟨_, rfl, by rw [specSpans, Hr.out]; exact o0.new d1.new, n0.trans d1.new⟩
  · have hxl : xs.length ≤ 20 := by simp [timesOk] at hr; exact hr.1
    have hrange := ok_range hr
    have Hr := Lib.hid hr
    have Hrange := Lib.hid hrange
    clear hr hrange
    rcases hsp : spanOk span with _ | _
    · have Hsp := Lib.hid hsp
      clear hsp x3 x4
      go_enter Try.func25, Try.ntmps25
      go_wp2_with fail
      refine (specTv_ok _ xs _ hx).mono ?_
      rw [Hr.out]
      rintro e w1 ⟨rfl, d1⟩
      go_wp2_with fail
      refine (in_is (r := false) Hsp.out _).mono ?_
      rintro e w2 ⟨rfl, rfl⟩
      go_wp2_with fail
      go_ret
      exact ⟨_, rfl, by rw [specSpans, Hr.out, Hsp.out]; exact o0.new d1.new, n0.trans d1.new⟩
    · rcases hmo : manyOk many with _ | _
      · have Hsp := Lib.hid hsp
        have Hmo := Lib.hid hmo
        clear hsp hmo x3 x4
        go_enter Try.func25, Try.ntmps25
        go_wp2_with fail
        refine (specTv_ok _ xs _ hx).mono ?_
        rw [Hr.out]
        rintro e w1 ⟨rfl, d1⟩
        go_wp2_with fail
        refine (in_is (r := true) Hsp.out _).mono ?_
        rintro e w2 ⟨rfl, rfl⟩
        go_wp2_with fail
        refine (in_is (r := false) Hmo.out _).mono ?_
        rintro e w2 ⟨rfl, rfl⟩
        go_wp2_with fail
        go_ret
        exact ⟨_, rfl, by rw [specSpans, Hr.out, Hsp.out, Hmo.out]; exact o0.new d1.new, n0.trans d1.new⟩
      · have hsp' : 1 ≤ span ∧ span ≤ 9999 := by simpa [spanOk] using hsp
        have hm : 0 ≤ many ∧ many ≤ 20 := by simpa [manyOk] using hmo
        obtain ⟨hs1, hs2⟩ := hsp'
        have Hsp := Lib.hid hsp
        have Hmo := Lib.hid hmo
        obtain ⟨m, rfl⟩ := Int.eq_ofNat_of_zero_le hm.1
        have hm20 : m ≤ 20 := by omega
        have hout : ∀ cur, lasts span xs = cur → specSpans xs span (m : Int) = cur.drop (cur.length - m) := fun cur e => by rw [specSpans, Hr.out, Hsp.out, Hmo.out, e]; rfl
        have Hout := Lib.hid hout
        clear hsp hmo hm hout
        go_enter Try.func25, Try.ntmps25
        go_wp2_with fail
        refine (specTv_ok _ xs _ hx).mono ?_
        rw [Hr.out]
        rintro e w1 ⟨rfl, d1⟩
        go_wp2_with fail
        refine (in_is (r := true) Hsp.out _).mono ?_
        rintro e w2 ⟨rfl, rfl⟩
        go_wp2_with fail
        refine (in_is (r := true) Hmo.out _).mono ?_
        rintro e w2 ⟨rfl, rfl⟩
        go_wp2_with fail
        have n1 := n0.trans d1.new
        have o1 := o0.new d1.new
        clear n0 o0 hx d1
        go_loopw [7, 8] (fun ov i wr => ∃ (k : Nat) (cur : List Int), k ≤ xs.length ∧ i = .int .i64 k ∧ cur.length ≤ k ∧ lasts span xs = cur ++ lasts span (xs.drop k) ∧ OwnInts 3 (fun k => w.heap.size ≤ k) wr ov cur ∧ New w wr) (fun _ i _ => xs.length - (intOf i).toNat)
        case atStart => exact ⟨0, [], Nat.zero_le _, rfl, Nat.le_refl _, rfl, o1, n1⟩
        case round =>
          obtain ⟨k, cur, hk, rfl, hck, hl, ho, hn⟩ := hrel
          rename World => wr
          have Hl := Lib.hid hl
          clear hl
          by_cases hlt : k < xs.length
          · obtain ⟨x, hxk⟩ := get_of hlt
            rcases x4 with rfl | ⟨b, off, rfl, -, hb, hc⟩
            · simp at hlt
            have hcx : wr.cell? ⟨b, off + k, none⟩ = some (.int .i64 x) := hn.cell (hc k x hxk)
            have hfit : Fits .i64 x := x3 x (List.mem_of_getElem? hxk)
            obtain ⟨hx0, hx1⟩ := Hrange.out x (List.mem_of_getElem? hxk)
            have Hxk := Lib.hid (drop_of hxk)
            by_cases hend : k + 1 = xs.length
            · have hbe : (((k : Int) + 1) == (xs.length : Int)) = true := by simp; omega
              have hst : lasts span (xs.drop k) = x :: lasts span (xs.drop (k + 1)) := by
                rw [Hxk.out, drop_end (show ¬ k + 1 < xs.length by omega)]; rfl
              have Hst := Lib.hid hst
              clear hc hxk hst hend
              go_wp2_with fail
              go_quiet (fail)
              have d4 : Drew wr (wr.drewN nq) := ⟨_, rfl⟩
              have ho4 := ho.new d4.new
              have hn4 := hn.trans d4.new
              go_wp2_with (at_builtin; refine wpNums_append slInt _ _ rfl rfl _ cur x _ rfl ho4 hfit rfl (by omega) (by decide) ?_; intro v' w5 ho' hc')
              have hbl := ho4.lt
              have ho5 := ho'.mono (T := fun k => w.heap.size ≤ k) (fun k _ hk => by
                rcases hk with hk | hk
                · exact (hbl k hk).2
                · have := hn4.size; omega)
              have hn5 := hn4.trans_chg hc' (fun k hk e => by have := (hbl k e).2; omega)
              go_roundw
              case rel => exact ⟨k + 1, cur ++ [x], by omega, by go_num, by simp; omega, by rw [Hl.out, Hst.out]; simp, ho5, hn5⟩
              case measure => simp [intOf]; omega
            · obtain ⟨y, hyk⟩ := get_of (show k + 1 < xs.length by omega)
              have hcy : wr.cell? ⟨b, off + (k + 1), none⟩ = some (.int .i64 y) := hn.cell (hc (k + 1) y hyk)
              obtain ⟨hy0, hy1⟩ := Hrange.out y (List.mem_of_getElem? hyk)
              have hbe : (((k : Int) + 1) == (xs.length : Int)) = false := by simp; omega
              have hk1 : (k : Int) + 1 < (xs.length : Int) := by omega
              have hk2 : k + 1 < xs.length := by omega
              have hst : lasts span (xs.drop k) = if y / span ≠ x / span then x :: lasts span (xs.drop (k + 1)) else lasts span (xs.drop (k + 1)) := by
                rw [Hxk.out, drop_of hyk]; rfl
              have hsum : IntKind.i64.wrap ((k : Int) + 1) = (k : Int) + 1 := IntWalk.i64_in _ (by omega)
              have hsum0 : (0 : Int) ≤ (k : Int) + 1 := by omega
              have hsumn : ((k : Int) + 1).toNat = k + 1 := by omega
              clear hend hyk hc hxk
              by_cases hne : y / span = x / span
              · have hbn : (y / span != x / span) = false := by simp [hne]
                rw [if_neg (by simp [hne])] at hst
                have Hst := Lib.hid hst
                clear hst hne
                go_wp2_with fail
                go_quiet (fail)
                have d4 : Drew wr (wr.drewN nq) := ⟨_, rfl⟩
                go_wp2_with fail
                go_roundw
                case rel => exact ⟨k + 1, cur, by omega, by go_num, by omega, by rw [Hl.out, Hst.out], ho.new d4.new, hn.trans d4.new⟩
                case measure => simp [intOf]; omega
              · have hbn : (y / span != x / span) = true := by simp [hne]
                rw [if_pos hne] at hst
                have Hst := Lib.hid hst
                clear hst hne
                go_wp2_with fail
                go_quiet (fail)
                have d4 : Drew wr (wr.drewN nq) := ⟨_, rfl⟩
                have ho4 := ho.new d4.new
                have hn4 := hn.trans d4.new
                go_wp2_with (at_builtin; refine wpNums_append slInt _ _ rfl rfl _ cur x _ rfl ho4 hfit rfl (by omega) (by decide) ?_; intro v' w5 ho' hc')
                have hbl := ho4.lt
                have ho5 := ho'.mono (T := fun k => w.heap.size ≤ k) (fun k _ hk => by
                  rcases hk with hk | hk
                  · exact (hbl k hk).2
                  · have := hn4.size; omega)
                have hn5 := hn4.trans_chg hc' (fun k hk e => by have := (hbl k e).2; omega)
                go_roundw
                case rel => exact ⟨k + 1, cur ++ [x], by omega, by go_num, by simp; omega, by rw [Hl.out, Hst.out]; simp, ho5, hn5⟩
                case measure => simp [intOf]; omega
          · have hcur : lasts span xs = cur := by rw [Hl.out, drop_end hlt]; simp [lasts]
            have he := Hout.out cur hcur
            have hc20 : cur.length ≤ 20 := by omega
            have He := Lib.hid he
            clear hcur he x4 x3
            rcases ho.1.cases with ⟨rfl, hn0⟩ | ⟨g, c, rfl, hSg, hg, hc1, hc2⟩
            · obtain rfl : cur = [] := List.eq_nil_of_length_eq_zero hn0
              have hres : Kept w (specSpans xs span (m : Int)) (.returned (.slice (some ⟨wr.heap.size, 0, none⟩) 0 0)) (wr.alloc (.cells #[] 3)) := by
                rw [He.out, List.drop_nil]
                obtain ⟨v, k1, k2, k3⟩ := kept_empty wr
                exact ⟨v, k1, k2.mono (fun k _ hk => Nat.le_trans hn.size hk), hn.trans k3⟩
              have Hres := Lib.hid hres
              clear hres
              rcases Nat.eq_zero_or_pos m with rfl | hmp
              all_goals
                go_wp2_with fail
                go_ret
                exact Hres.out
            · unfold maxLen at hc2
              have fin : ∀ (K : Nat) (w2 : World) (v2 : Value) (T : Nat → Prop), K = cur.length - m → Row 3 1 T w2 v2 (0 + (cur.length - K)) ([] ++ (cur.drop K).map (Value.int .i64)) → (∀ j, T j → wr.heap.size ≤ j) → New w w2 → Kept w (specSpans xs span (m : Int)) (.returned v2) w2 := by
                intro K w2 v2 T hk hr hT hn'
                have o2 := OwnNums.of_append (xs := []) (ys := cur.drop K) hr (by simp) (fun x hx => ho.2 x (List.mem_of_mem_drop hx))
                rw [He.out, ← hk]
                exact ⟨v2, rfl, o2.mono (fun j _ hj => Nat.le_trans hn.size (hT j hj)), hn'⟩
              have Fin := Lib.hid fin
              clear fin
              obtain ⟨K, hK⟩ : ∃ K : Nat, K = cur.length - m := ⟨_, rfl⟩
              have hkl : K ≤ cur.length := by omega
              have hkl' : (K : Int) ≤ (cur.length : Int) := by omega
              have Hk := Lib.hid hK
              by_cases hmx : cur.length < m
              · have hneg : (cur.length : Int) - (m : Int) < 0 := by omega
                obtain rfl : K = 0 := by omega
                clear hK hmx
                have hx2 := ho.nums.new ((New.refl wr).alloc (.cells #[] 3))
                go_wp2_with (at_builtin; refine wpRow_append slInt _ _ rfl rfl (.slice (some ⟨wr.heap.size, 0, none⟩) 0 0) 0 [] rfl (OwnNums.empty .i64 3 wr).1 _ _ _ (cur.map (Value.int .i64)) rfl hx2.src (oneCells _ _) (by unfold maxLen; omega) (by omega) ?_; intro v2 w2 o2 c2)
                all_goals
                  go_ret
                  exact Fin.out 0 w2 _ _ Hk.out o2 (fun j hj => hj.elim (fun hj => by have e' := own_some hj; simp only at e'; omega) (fun hj => by simp at hj; omega)) ((hn.trans ((New.refl wr).alloc _)).trans_chg c2 (fun j hj e => by have e' := own_some e; simp only at e'; have := hn.size; omega))
              · have hke : (cur.length : Int) - (m : Int) = (K : Int) := by omega
                clear hK hmx
                have hd := ho.nums.drop K hkl
                simp only [Nat.zero_add] at hd
                have hx2 := (hd.new ((New.refl wr).alloc (.cells #[] 3)))
                clear hd
                go_wp2_with (at_builtin; refine wpRow_append slInt _ _ rfl rfl (.slice (some ⟨wr.heap.size, 0, none⟩) 0 0) 0 [] rfl (OwnNums.empty .i64 3 wr).1 _ _ _ ((cur.drop K).map (Value.int .i64)) rfl hx2.src (oneCells _ _) (by unfold maxLen; omega) (by omega) ?_; intro v2 w2 o2 c2)
                all_goals
                  go_ret
                  exact Fin.out K w2 _ _ Hk.out o2 (fun j hj => hj.elim (fun hj => by have e' := own_some hj; simp only at e'; omega) (fun hj => by simp at hj; omega)) ((hn.trans ((New.refl wr).alloc _)).trans_chg c2 (fun j hj e => by have e' := own_some e; simp only at e'; have := hn.size; omega))
      

end Go.Proofs.Ytfcdhmbooblpoaa
