/- PathValid, PathWithin, PathParent: the program's and the reference's. -/
import Derived.Test.YtkffejommncinaaDoorPath
import Derived.Test.YtkffejommncinaaDoorAppend1
namespace Go.Proofs.YtkffejommncinaaDoor
open Go.RowKit

theorem parts_valid (l : List UInt8) : decide (0 < (partsOf l).length) = pathOk l := by
  unfold partsOf
  have := cutS_pos l
  cases pathOk l <;> simp
  omega

set_option maxRecDepth 4000 in
theorem implValid (s : ByteArray) (w : World) (hs : s.size ≤ 1152921504606846976) :
    Calls Tryd.prog 72 #[.string s] w fun e w' => e = .returned (.bool (pathOk s.data.toList)) ∧ New w w' := by
  have hp := implParts s w hs
  rw [← parts_valid s.data.toList]
  have Hp := Lib.hid hp
  clear hp
  go_enter Tryd.func72, Tryd.ntmps72
  go_wp2_with fail
  refine Hp.out.mono ?_
  rintro e w1 ⟨v, rfl, ho, hn⟩
  obtain ⟨a, c, rfl, t1, t2, t3⟩ := ho.texts
  unfold maxLen at t2
  clear t3 ho
  go_wp2_with fail
  go_ret
  exact ⟨rfl, hn⟩

set_option maxRecDepth 4000 in
theorem implPath (s : ByteArray) (w : World) (hs : s.size ≤ 1152921504606846976) :
    Calls Tryd.prog 77 #[.string s] w fun e w' => e = .returned (.bool (pathOk s.data.toList)) ∧ New w w' := by
  have hp := implValid s w hs
  have Hp := Lib.hid hp
  clear hp
  go_enter Tryd.func77, Tryd.ntmps77
  go_wp2_with fail
  refine Hp.out.mono ?_
  rintro e w1 ⟨rfl, hn⟩
  go_wp2_with fail
  go_ret
  exact ⟨rfl, hn⟩

theorem cut_state (l : List UInt8) {f i : Nat} {c : UInt8} (hf : f ≤ i) (hc : l[i]? = some c) :
    (c = 47 → cutGo ((l.drop f).take (i - f)) (l.drop i) = (l.drop f).take (i - f) :: cutGo ((l.drop (i + 1)).take (i + 1 - (i + 1))) (l.drop (i + 1))) ∧
    (c ≠ 47 → cutGo ((l.drop f).take (i - f)) (l.drop i) = cutGo ((l.drop f).take (i + 1 - f)) (l.drop (i + 1))) := by
  obtain ⟨hi, rfl⟩ := List.getElem?_eq_some_iff.1 hc
  rw [List.drop_eq_getElem_cons hi]
  constructor
  · intro h
    rw [cutGo, if_pos h]; simp
  · intro h
    rw [cutGo, if_neg h]
    congr 1
    rw [show i + 1 - f = (i - f) + 1 from by omega, List.take_succ_eq_append_getElem (by simp; omega)]
    congr 2
    simp [show f + (i - f) = i from by omega]

set_option maxRecDepth 4000 in
set_option maxHeartbeats 1000000 in
theorem specCutS (s : ByteArray) (w : World) (hs : s.size ≤ 1048576) :
    Calls Tryd.prog 92 #[.string s] w (CutPostS w s.data.toList) := by
  have hsl := size_len s
  have hcl := cutGo_count [] s.data.toList
  have hcs := List.count_le_length (a := (47 : UInt8)) (l := s.data.toList)
  have hN : (cutS s.data.toList).length ≤ s.size + 1 := by unfold cutS; omega
  have Hsl := Lib.hid hsl
  clear hsl hcl hcs
  go_enter Tryd.func92, Tryd.ntmps92
  go_wp2_with fail
  go_loopg [3, 4, 5] s.size (fun gk s3 s4 s5 wr => ∃ (i f : Nat) (done : List (List UInt8)), gk = s.size - i ∧ f ≤ i ∧ i ≤ s.size ∧ s4 = .int .i64 f ∧ s5 = .int .i64 i ∧ done ++ cutGo ((s.data.toList.drop f).take (i - f)) (s.data.toList.drop i) = cutS s.data.toList ∧
    OwnTexts (fun j => w.heap.size ≤ j) wr s3 done ∧ New w wr)
  case atStart => exact ⟨0, 0, [], by omega, by omega, by omega, rfl, rfl, rfl, (Row.empty _ _ _).mono (fun _ _ h => by omega), (New.refl w).alloc _⟩
  case round =>
    obtain ⟨i, f, done, hgk, hf, hi, rfl, rfl, hd, ho, hn⟩ := hrel
    have hlen := congrArg List.length hd
    rw [List.length_append] at hlen
    have hdl : done.length ≤ s.size := by
      have := List.length_pos_iff.2 (cutGo_ne ((s.data.toList.drop f).take (i - f)) (s.data.toList.drop i))
      omega
    have Hgk := Lib.hid hgk
    have Hd := Lib.hid hd
    have hor : Row 9 1 (fun j => w.heap.size ≤ j) wr u3 done.length (done.map txt) := ho
    have hol := Row.lt ho
    have hos := ho.2
    have hsz := hn.size
    clear hgk hd hlen hN
    have step : ∀ (v' : Value) (w1 : World) (x : List UInt8), Row 9 1 (fun k => u3.ownBlock = some k ∨ wr.heap.size < k) w1 v' (done.length + 1) (done.map txt ++ [txt x]) → Chg (fun k => u3.ownBlock = some k) wr w1 →
        OwnTexts (fun j => w.heap.size ≤ j) w1 v' (done ++ [x]) ∧ New w w1 := by
      intro v' w1 x q1 c1
      refine ⟨?_, hn.trans_chg c1 (fun j hj e => by have := hos j e; omega)⟩
      unfold OwnTexts
      rw [List.length_append, List.map_append]
      exact q1.mono (fun j _ hj => by
        rcases hj with hj | hj
        · exact hos j hj
        · omega)
    have Step := Lib.hid step
    clear step
    by_cases hlt : i < s.size
    · have hb := byte_at s i hlt
      obtain ⟨hc1, hc2⟩ := cut_state s.data.toList hf hb
      by_cases h47 : s[i] = 47
      · have hg := hc1 h47
        have Hg := Lib.hid hg
        have h47' : ((s[i].toNat : Int) == 47) = true := by rw [h47]; rfl
        have Hb := Lib.hid hb
        clear hc1 hc2 hg h47 hb
        go_wp2_with (at_builtin; refine wpRow_append1 slStr _ _ rfl rfl _ done.length (done.map txt) _ _ rfl hor rfl rfl (by omega) (by decide) ?_; intro v' w1 q1 c1)
        rw [txt_cut] at q1
        obtain ⟨o1, n1⟩ := Step.out _ _ _ q1 c1
        go_roundg (s.size - (i + 1))
        case measure => rw [Hgk.out]; omega
        case rel => exact ⟨i + 1, i + 1, _, rfl, by omega, by omega, by go_num, by go_num, by rw [← Hd.out, Hg.out, List.append_assoc]; rfl, o1, n1⟩
      · have hg := hc2 h47
        have Hg := Lib.hid hg
        have h47' : ((s[i].toNat : Int) == 47) = false := by
          simp only [beq_eq_false_iff_ne, ne_eq]
          intro e
          exact h47 (UInt8.toNat_inj.1 (by simp; omega))
        clear hc1 hc2 hg h47 hb
        go_wp2_with fail
        go_roundg (s.size - (i + 1))
        case measure => rw [Hgk.out]; omega
        case rel => exact ⟨i + 1, f, done, rfl, by omega, by omega, rfl, by go_num, by rw [← Hd.out, Hg.out], ho, hn⟩
    · have hnil : s.data.toList.drop i = [] := List.drop_eq_nil_of_le (by have := Hsl.out; omega)
      have hcur : (s.data.toList.drop f).take (i - f) = (s.data.toList.drop f).take (s.size - f) := by rw [show i = s.size from by omega]
      have hfin : done ++ [(s.data.toList.drop f).take (s.size - f)] = cutS s.data.toList := by rw [← Hd.out, hnil, cutGo, hcur]
      have Hfin := Lib.hid hfin
      clear hnil hcur hfin
      go_wp2_with (at_builtin; refine wpRow_append1 slStr _ _ rfl rfl _ done.length (done.map txt) _ _ rfl hor rfl rfl (by omega) (by decide) ?_; intro v' w1 q1 c1)
      rw [txt_cut] at q1
      obtain ⟨o1, n1⟩ := Step.out _ _ _ q1 c1
      go_ret
      exact ⟨_, rfl, by rw [← Hfin.out]; exact o1, n1⟩

set_option maxRecDepth 4000 in
set_option maxHeartbeats 1000000 in
theorem specPath (s : ByteArray) (w : World) (hs : s.size ≤ 1048576) :
    Calls Tryd.prog 81 #[.string s] w fun e w' => e = .returned (.bool (pathOk s.data.toList)) ∧ New w w' := by
  have hsp := specCutS s w hs
  have Hsp := Lib.hid hsp
  have hxs : ∀ x ∈ cutS s.data.toList, x.length ≤ 1152921504606846976 := fun x hx => by
    have := cutGo_le [] _ x hx; have := size_len s; simp at *; omega
  have Hxs := Lib.hid hxs
  clear hsp hxs
  go_enter Tryd.func81, Tryd.ntmps81
  go_wp2_with fail
  refine Hsp.out.mono ?_
  rintro e w1 ⟨v, rfl, ho, hn⟩
  obtain ⟨a, c, rfl, t1, t2, t3⟩ := ho.texts
  unfold maxLen at t2
  generalize hP : cutS s.data.toList = ps at *
  have HP := Lib.hid hP
  clear hP
  go_wp2_with fail
  go_loop [4] (fun i => ∃ (k : Nat), k ≤ ps.length ∧ i = .int .i64 k ∧ (ps.take k).all wordOk = true) (fun i => ps.length - (intOf i).toNat)
  case atStart => exact ⟨0, Nat.zero_le _, rfl, rfl⟩
  case round =>
    obtain ⟨k, hk, rfl, ha⟩ := hrel
    have Ha := Lib.hid ha
    clear ha
    by_cases hlt : k < ps.length
    · obtain ⟨x, hx⟩ := get_of hlt
      rcases t3 with rfl | ⟨b, off, rfl, -, -, hc⟩
      · simp at hlt
      have hcell := hc k x hx
      unfold txt at hcell
      have Hx := Lib.hid hx
      clear hx hc
      have hxl : (⟨x.toArray⟩ : ByteArray).size ≤ 1152921504606846976 := Hxs.out x (List.mem_of_getElem? Hx.out)
      rcases hw : wordOk x with _ | _
      · have Hw := Lib.hid hw
        have hcall := specWord ⟨x.toArray⟩ w1 hxl
        rw [show (⟨x.toArray⟩ : ByteArray).data.toList = x from rfl, hw] at hcall
        have Hcall := Lib.hid hcall
        clear hw hcall
        have hb : pathOk s.data.toList = false := by unfold pathOk; rw [HP.out, all_bad Hx.out Hw.out]; simp
        have Hb := Lib.hid hb
        clear hb
        go_wp2_with fail
        refine Hcall.out.mono ?_
        rintro e w2 ⟨rfl, rfl⟩
        go_wp2_with fail
        go_ret
        exact ⟨ret_bool Hb.out.symm, hn⟩
      · have Hw := Lib.hid hw
        have hcall := specWord ⟨x.toArray⟩ w1 hxl
        rw [show (⟨x.toArray⟩ : ByteArray).data.toList = x from rfl, hw] at hcall
        have Hcall := Lib.hid hcall
        clear hw hcall
        go_wp2_with fail
        refine Hcall.out.mono ?_
        rintro e w2 ⟨rfl, rfl⟩
        go_wp2_with fail
        go_round
        case rel => exact ⟨k + 1, by omega, by go_num, all_take Hx.out Ha.out Hw.out⟩
        case measure => simp [intOf]; omega
    · have ha := Ha.out
      rw [List.take_of_length_le (by omega)] at ha
      have hg : pathOk s.data.toList = decide ((ps.length : Int) ≤ 4) := by
        unfold pathOk
        rw [HP.out, ha]; simp; omega
      have Hg := Lib.hid hg
      clear ha hg
      go_wp2_with fail
      go_ret
      exact ⟨ret_bool Hg.out.symm, hn⟩

end Go.Proofs.YtkffejommncinaaDoor
