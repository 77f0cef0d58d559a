/- Paths: strings.Split at a slash; parts and PathValid, the program's and the reference's. -/
import Derived.Test.YtkffejommncinaaDoorTexts
import Derived.Laws.Externs
import Derived.Laws.OwnMore
namespace Go.Proofs.YtkffejommncinaaDoor
open Go.RowKit

set_option maxRecDepth 4000 in
theorem slashIndex (s : ByteArray) (w : World) :
    Calls Tryd.prog 112 #[.string s, .int .u8 47] w fun e w' => e = .returned (.int .i64 (Lib.indexByte s.data.toList 47)) ∧ w = w' := by
  go_enter Tryd.func112, Tryd.ntmps112
  go_wp2
  rw [run_callFunc_extern Tryd.func116 (by kernel_rfl) (by kernel_rfl) (by kernel_rfl) (e := Extern.BytealgIndexByte.indexByte) (by kernel_rfl), Lib.run_indexByteString]
  simp only [Result.andThen]
  rw [Oper.upon_value]
  go_wp2
  go_ret
  exact ⟨rfl, rfl⟩

set_option maxRecDepth 100000 in
theorem sliteIndex (s : ByteArray) (w : World) :
    Calls Tryd.prog 110 #[.string s, .string ⟨#[47]⟩] w fun e w' => e = .returned (.int .i64 (Lib.indexByte s.data.toList 47)) ∧ w = w' := by
  go_enter Tryd.func110, Tryd.ntmps110
  go_wp2_with (go_at_call 112; refine (slashIndex _ _).mono ?_; rintro e w' ⟨rfl, rfl⟩)
  · have h : ([47] == s.toList) = true := by assumption
    go_ret
    refine ⟨?_, rfl⟩
    have e : s.data.toList = [47] := by rw [← Lib.toList_data]; exact (beq_iff_eq.1 h).symm
    rw [e]
    simp [Lib.indexByte]
  · go_ret
    exact ⟨rfl, rfl⟩

set_option maxRecDepth 4000 in
theorem strIndex (s : ByteArray) (w : World) :
    Calls Tryd.prog 106 #[.string s, .string ⟨#[47]⟩] w fun e w' => e = .returned (.int .i64 (Lib.indexByte s.data.toList 47)) ∧ w = w' := by
  go_enter Tryd.func106, Tryd.ntmps106
  go_wp2_with fail
  refine (sliteIndex s w).mono ?_
  rintro e w' ⟨rfl, rfl⟩
  go_wp2_with fail
  go_ret
  exact ⟨rfl, rfl⟩

set_option maxRecDepth 4000 in
theorem strCount (s : ByteArray) (w : World) :
    Calls Tryd.prog 105 #[.string s, .string ⟨#[47]⟩] w fun e w' => e = .returned (.int .i64 (s.data.toList.count 47 : Nat)) ∧ w = w' := by
  go_enter Tryd.func105, Tryd.ntmps105
  go_wp2
  rw [run_callFunc_extern Tryd.func109 (by kernel_rfl) (by kernel_rfl) (by kernel_rfl) (e := Extern.BytealgCount.count) (by kernel_rfl), Lib.run_countString]
  simp only [Result.andThen]
  rw [Oper.upon_value]
  go_wp2
  go_ret
  exact ⟨rfl, rfl⟩

def CutPostS (w : World) (l : List UInt8) (e : Ending) (w' : World) : Prop := ∃ v, e = .returned v ∧ OwnTexts (fun j => w.heap.size ≤ j) w' v (cutS l) ∧ New w w'

set_option maxRecDepth 4000 in
set_option maxHeartbeats 1000000 in
theorem genSplit (s : ByteArray) (w : World) (hs : s.size ≤ 1000) :
    Calls Tryd.prog 102 #[.string s, .string ⟨#[47]⟩, .int .i64 0, .int .i64 (-1)] w (CutPostS w s.data.toList) := by
  have hsl := size_len s
  have hcl := cutGo_count [] s.data.toList
  have hcs := List.count_le_length (a := (47 : UInt8)) (l := s.data.toList)
  obtain ⟨N, hN⟩ : ∃ N : Nat, (cutS s.data.toList).length = N := ⟨_, rfl⟩
  obtain ⟨cnt, hcnt⟩ : ∃ cnt : Nat, s.data.toList.count 47 = cnt := ⟨_, rfl⟩
  have hNc : (cnt : Int) + 1 = (N : Int) := by rw [← hN, ← hcnt]; unfold cutS; omega
  have hcc := fun (W : World) => strCount s W
  rw [hcnt] at hcc
  have Hcc := Lib.hid hcc
  have hN1 : 1 ≤ N := by rw [← hN]; exact cutS_pos _
  have hN2 : N ≤ s.size + 1 := by rw [← hN, ← hsl]; unfold cutS; omega
  have hN3 : (N : Int) ≤ (s.size : Int) + 1 := by omega
  have hN4 : ¬ ((s.size : Int) + 1 < (N : Int)) := by omega
  have HN := Lib.hid hN
  have Hsl := Lib.hid hsl
  clear hN hsl hcl hcs hcnt hcc
  go_enter Tryd.func102, Tryd.ntmps102
  go_wp2_with fail
  refine (Hcc.out _).mono ?_
  rintro e w' ⟨rfl, rfl⟩
  go_wp2_with (at_make; refine wpRow_make slStr _ _ rfl rfl .i64 .i64 N rfl rfl (by omega) (by unfold maxLen; omega) ?_; intro w1 hrow hn1 hlt1)
  go_loopg [0, 10, 11] (N - 1) (fun gk s0 s10 s11 wr => ∃ (k : Nat) (t : ByteArray) (cur : List Value) (done : List (List UInt8)), gk = N - 1 - k ∧ k ≤ N - 1 ∧ s0 = .string t ∧ s10 = .int .i64 k ∧ t.size ≤ s.size ∧ done.length = k ∧ done ++ cutS t.data.toList = cutS s.data.toList ∧
    New w wr ∧ Row 9 1 (fun j => j = w.heap.size) wr (.slice (some ⟨w.heap.size, 0, none⟩) N N) N cur ∧ cur.length = N ∧ cur.take k = done.map txt)
  case atStart => exact ⟨0, s, _, [], by omega, by omega, rfl, rfl, Nat.le_refl _, rfl, rfl, hn1, hrow, by simpa using hrow.1.1, rfl⟩
  case round =>
    obtain ⟨k, t, cur, done, hgk, hk, rfl, rfl, hts, hdl, hd, hn, hr, hcl, hct⟩ := hrel
    have hlen := congrArg List.length hd
    rw [List.length_append, HN.out] at hlen
    have hcount : t.data.toList.count 47 + 1 = (cutS t.data.toList).length := by unfold cutS; rw [cutGo_count]
    have Hgk := Lib.hid hgk
    have Hd := Lib.hid hd
    have Hdl := Lib.hid hdl
    have Hcl := Lib.hid hcl
    have Hct := Lib.hid hct
    have htl := size_len t
    have Htl := Lib.hid htl
    have hix : k < N - 1 → ∃ m : Nat, Lib.indexByte t.data.toList 47 = (m : Int) ∧ m < t.size := by
      intro hlt
      have hpos : 0 < t.data.toList.count 47 := by omega
      have hm : (47 : UInt8) ∈ t.data.toList := List.count_pos_iff.1 hpos
      have hge := Lib.indexByte_ge t.data.toList 47
      have hne : Lib.indexByte t.data.toList 47 ≠ -1 := fun e => (index_none _).1 e hm
      refine ⟨(Lib.indexByte t.data.toList 47).toNat, by omega, ?_⟩
      have := (index_some t.data.toList (Lib.indexByte t.data.toList 47).toNat (by omega)).1
      omega
    have hone : ¬ k < N - 1 → cutS t.data.toList = [t.data.toList] := by
      intro hge
      refine cutS_none ((index_none _).2 (fun hm => ?_))
      have := List.count_pos_iff.2 hm
      omega
    have Hix := Lib.hid hix
    have Hone := Lib.hid hone
    clear hgk hd hdl hcl hct htl hlen hcount hix hone
    obtain ⟨u, hu⟩ := get_of (show k < cur.length by rw [Hcl.out]; omega)
    have hcu := hr.cellAt hu
    have hfr := hr.frozenAt k
    clear hu
    by_cases hlt : k < N - 1
    · obtain ⟨m, hm, hmt⟩ := Hix.out hlt
      have hlt' : (k : Int) < (N : Int) - 1 := by omega
      have hcall := strIndex t wr
      rw [hm] at hcall
      have Hcall := Lib.hid hcall
      have Hm := Lib.hid hm
      clear hm hcall
      go_wp2_with (go_at_call 106; refine Hcall.out.mono ?_; rintro e w' ⟨rfl, rfl⟩)
      have e1 := cutS_at Hm.out
      go_roundg (N - 1 - (k + 1))
      case measure => rw [Hgk.out]; omega
      case rel =>
        refine ⟨k + 1, t.extract (m + 1) t.size, cur.set k (.string (t.extract 0 m)), done ++ [t.data.toList.take m], rfl, by omega, rfl, by go_num, ?_, by simp [Hdl.out], ?_, hn.setCell _ (by simp), hr.set _ _, by simp [Hcl.out], ?_⟩
        · simp; omega
        · rw [Lib.extract_to_end, ← Hd.out, e1, List.append_assoc]; rfl
        · rw [List.take_set, List.take_succ_eq_append_getElem (by rw [Hcl.out]; omega), Hct.out]
          rw [List.set_append_right _ _ (by simp [Hdl.out])]
          simp [Hdl.out, txt_cut]
    · have ek : k + 1 = N := by omega
      have hge' : ¬ ((k : Int) < (N : Int) - 1) := by omega
      have e1 := Hone.out hlt
      have Ek := Lib.hid ek
      have E1 := Lib.hid e1
      have hk1 : (k : Int) + 1 ≤ (N : Int) := by omega
      clear ek e1
      go_wp2_with fail
      go_ret
      have hcs : (cutS s.data.toList).length = k + 1 := by rw [HN.out, Ek.out]
      refine ⟨_, rfl, ?_, hn.setCell _ (by simp)⟩
      have hr2 := hr.set k (.string t)
      have ecur : cur.set k (.string t) = (cutS s.data.toList).map txt := by
        rw [← Hd.out, E1.out, List.map_append, ← Hct.out]
        have h1 : cur = cur.take k ++ [cur[k]'(by rw [Hcl.out]; omega)] := by
          have := List.take_succ_eq_append_getElem (l := cur) (i := k) (by rw [Hcl.out]; omega)
          rw [← this, List.take_of_length_le (by rw [Hcl.out]; omega)]
        have hk' : (cur.take k).length = k := by rw [List.length_take, Hcl.out]; omega
        conv => lhs; rw [h1]
        rw [List.set_append_right _ _ (by omega), hk', Nat.sub_self, List.set_cons_zero, txt_of]
        rfl
      rw [ecur] at hr2
      unfold OwnTexts
      rw [hcs]
      have hr3 : Row 9 1 (fun j => w.heap.size ≤ j) (wr.setCell ⟨w.heap.size, k, none⟩ (.string t)) (.slice (some ⟨w.heap.size, 0, none⟩) (k + 1) N) (k + 1) ((cutS s.data.toList).map txt) := by
        rw [Ek.out]
        exact hr2.mono (fun j _ hj => by omega)
      exact hr3

set_option maxRecDepth 4000 in
theorem strSplit (s : ByteArray) (w : World) (hs : s.size ≤ 1000) :
    Calls Tryd.prog 98 #[.string s, .string ⟨#[47]⟩] w (CutPostS w s.data.toList) := by
  have h := genSplit s w hs
  have H := Lib.hid h
  clear h
  go_enter Tryd.func98, Tryd.ntmps98
  go_wp2_with fail
  refine H.out.mono ?_
  rintro e w1 ⟨v, rfl, ho, hn⟩
  obtain ⟨a, c, rfl, -, -, -⟩ := ho.texts
  go_wp2_with fail
  go_ret
  exact ⟨_, rfl, ho, hn⟩

/-- the parts of a valid path, none of another text -/
def partsOf (l : List UInt8) : List (List UInt8) := if pathOk l then cutS l else []
def PartsPost (w : World) (l : List UInt8) (e : Ending) (w' : World) : Prop := ∃ v, e = .returned v ∧ OwnTexts (fun j => w.heap.size ≤ j) w' v (partsOf l) ∧ New w w'

theorem partsOf_bad {l : List UInt8} (h : pathOk l = false) : partsOf l = [] := by simp [partsOf, h]
theorem all_take {l : List (List UInt8)} {k : Nat} {x : List UInt8} (hx : l[k]? = some x) (ha : (l.take k).all wordOk = true) (hw : wordOk x = true) : (l.take (k + 1)).all wordOk = true := by
  obtain ⟨hk, rfl⟩ := List.getElem?_eq_some_iff.1 hx
  rw [List.take_succ_eq_append_getElem hk, List.all_append, ha]
  simp [hw]
theorem all_bad {l : List (List UInt8)} {k : Nat} {x : List UInt8} (hx : l[k]? = some x) (hw : wordOk x = false) : l.all wordOk = false := by
  rw [List.all_eq_false]
  exact ⟨x, List.mem_of_getElem? hx, by simp [hw]⟩

set_option maxRecDepth 4000 in
set_option maxHeartbeats 1000000 in
theorem implParts (s : ByteArray) (w : World) (hs : s.size ≤ 1152921504606846976) :
    Calls Tryd.prog 87 #[.string s] w (PartsPost w s.data.toList) := by
  have hsl := size_len s
  have Hsl := Lib.hid hsl
  clear hsl
  by_cases h23 : 23 < s.size
  · have hd : (23 : Int) < (s.size : Int) := by omega
    have hb : pathOk s.data.toList = false := by
      rcases hp : pathOk s.data.toList with _ | _
      · rfl
      · have := pathOk_short hp; have := Hsl.out; omega
    have hp := partsOf_bad hb
    have Hp := Lib.hid hp
    clear hb hp
    go_enter Tryd.func87, Tryd.ntmps87
    go_wp2
    go_ret
    exact ⟨_, rfl, by rw [Hp.out]; exact OwnTexts.nil _ _, New.refl _⟩
  · have hd : ¬ ((23 : Int) < (s.size : Int)) := by omega
    have hsp := strSplit s w (by omega)
    have Hsp := Lib.hid hsp
    clear hsp
    go_enter Tryd.func87, Tryd.ntmps87
    go_wp2_with fail
    refine Hsp.out.mono ?_
    rintro e w1 ⟨v, rfl, ho, hn⟩
    have ht := ho.texts
    obtain ⟨a, c, rfl, t1, t2, t3⟩ := ht
    unfold maxLen at t2
    by_cases h4 : 4 < (cutS s.data.toList).length
    · have hd4 : (4 : Int) < ((cutS s.data.toList).length : Int) := by omega
      have hb : pathOk s.data.toList = false := by unfold pathOk; rw [show decide ((cutS s.data.toList).length ≤ 4) = false from by simp; omega]; rfl
      have hp := partsOf_bad hb
      have Hp := Lib.hid hp
      clear hb hp
      go_wp2_with fail
      go_ret
      exact ⟨_, rfl, by rw [Hp.out]; exact OwnTexts.nil _ _, hn⟩
    · have hd4 : ¬ ((4 : Int) < ((cutS s.data.toList).length : Int)) := by omega
      have hxs : ∀ x ∈ cutS s.data.toList, x.length ≤ 1152921504606846976 := fun x hx => by
        have := cutGo_le [] _ x hx; have := Hsl.out; simp at *; omega
      have Hxs := Lib.hid hxs
      clear hxs
      generalize hP : cutS s.data.toList = ps at *
      have HP := Lib.hid hP
      clear hP
      go_wp2_with fail
      go_loop [16] (fun i => ∃ (k : Nat), k ≤ ps.length ∧ i = .int .i64 k ∧ (ps.take k).all wordOk = true) (fun i => ps.length - (intOf i).toNat)
      case atStart => exact ⟨0, Nat.zero_le _, rfl, rfl⟩
      case round =>
        obtain ⟨k, hk, rfl, ha⟩ := hrel
        have Ha := Lib.hid ha
        clear ha
        by_cases hlt : k < ps.length
        · obtain ⟨x, hx⟩ := get_of hlt
          rcases t3 with rfl | ⟨b, off, rfl, -, -, hc⟩
          · simp at hlt
          have hcell := hc k x hx
          unfold txt at hcell
          have Hx := Lib.hid hx
          clear hx hc
          have hxl : (⟨x.toArray⟩ : ByteArray).size ≤ 1152921504606846976 := Hxs.out x (List.mem_of_getElem? Hx.out)
          rcases hw : wordOk x with _ | _
          · have Hw := Lib.hid hw
            have hcall := implPart ⟨x.toArray⟩ w1 hxl
            rw [show (⟨x.toArray⟩ : ByteArray).data.toList = x from rfl, hw] at hcall
            have Hcall := Lib.hid hcall
            clear hw hcall
            have hb : pathOk s.data.toList = false := by unfold pathOk; rw [HP.out, all_bad Hx.out Hw.out]; simp
            have hp := partsOf_bad hb
            have Hp := Lib.hid hp
            clear hb hp
            go_wp2_with fail
            refine Hcall.out.mono ?_
            rintro e w2 ⟨rfl, rfl⟩
            go_wp2_with fail
            go_ret
            exact ⟨_, rfl, by rw [Hp.out]; exact OwnTexts.nil _ _, hn⟩
          · have Hw := Lib.hid hw
            have hcall := implPart ⟨x.toArray⟩ w1 hxl
            rw [show (⟨x.toArray⟩ : ByteArray).data.toList = x from rfl, hw] at hcall
            have Hcall := Lib.hid hcall
            clear hw hcall
            go_wp2_with fail
            refine Hcall.out.mono ?_
            rintro e w2 ⟨rfl, rfl⟩
            go_wp2_with fail
            go_round
            case rel => exact ⟨k + 1, by omega, by go_num, all_take Hx.out Ha.out Hw.out⟩
            case measure => simp [intOf]; omega
        · go_wp2_with fail
          go_ret
          have ha := Ha.out
          rw [List.take_of_length_le (by omega)] at ha
          have hg : partsOf s.data.toList = ps := by
            unfold partsOf pathOk
            rw [HP.out, ha, show decide (ps.length ≤ 4) = true from by simp; omega]; rfl
          exact ⟨_, rfl, by rw [hg]; exact ho, hn⟩

end Go.Proofs.YtkffejommncinaaDoor
