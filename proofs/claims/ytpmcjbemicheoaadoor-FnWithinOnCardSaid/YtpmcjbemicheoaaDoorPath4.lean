/- PathWithin and PathParent of the reference; the law on them. -/
import Derived.Test.YtpmcjbemicheoaaDoorPath3
namespace Go.Proofs.YtpmcjbemicheoaaDoor
open Go.RowKit

set_option maxHeartbeats 400000 in
theorem specParent (s : ByteArray) (w : World) (hs : s.size ≤ 1048576) :
    Calls Tryd.prog 19 #[.string s] w fun e w' => e = .returned (.tuple #[txt (parentIf s.data.toList), .bool (pathOk s.data.toList)]) ∧ New w w' := by
  have c1 := specPath s w hs
  have c2 := fun (W : World) => specLast s W (by omega)
  have hsl := size_len s
  rcases h1 : pathOk s.data.toList with _ | _
  · rw [h1] at c1
    have C1 := Lib.hid c1
    have hr : parentIf s.data.toList = [] := by simp [parentIf, h1]
    have Hr := Lib.hid hr
    clear c1 c2 hr h1 hsl
    go_enter Tryd.func19, Tryd.ntmps19
    go_wp2_with fail
    refine C1.out.mono ?_
    rintro e w1 ⟨rfl, hn⟩
    go_wp2_with fail
    go_ret2
    exact ⟨by rw [Hr.out]; rfl, hn⟩
  · rw [h1] at c1
    have C1 := Lib.hid c1
    have hr : parentIf s.data.toList = parentOf s.data.toList := by simp [parentIf, h1]
    have hbd := lastOf_bd s.data.toList
    by_cases hm1 : lastOf s.data.toList = -1
    · rw [(parent_none hm1).1] at hr
      rw [hm1] at c2
      have C2 := Lib.hid c2
      have hr2 : txt (parentIf s.data.toList) = Value.string ByteArray.empty := by rw [hr]; rfl
      have Hr := Lib.hid hr2
      clear c1 c2 hr hr2 h1 hsl hbd hm1
      go_enter Tryd.func19, Tryd.ntmps19
      go_wp2_with fail
      refine C1.out.mono ?_
      rintro e w1 ⟨rfl, hn⟩
      go_wp2_with fail
      refine (C2.out _).mono ?_
      rintro e w2 ⟨rfl, rfl⟩
      go_wp2_with fail
      go_ret2
      exact ⟨by rw [Hr.out]; rfl, hn⟩
    · obtain ⟨m, hm⟩ : ∃ m : Nat, lastOf s.data.toList = m := ⟨(lastOf s.data.toList).toNat, by omega⟩
      have hml : m ≤ s.size := by omega
      rw [(parent_some hm).1] at hr
      rw [hm] at c2
      have C2 := Lib.hid c2
      have hr2 : Value.string (s.extract 0 m) = txt (parentIf s.data.toList) := by rw [hr, txt_cut]; simp
      have Hr := Lib.hid hr2
      have hm0 : ¬ ((m : Int) < 0) := by omega
      clear c1 c2 hr hr2 h1 hsl hbd hm1 hm
      go_enter Tryd.func19, Tryd.ntmps19
      go_wp2_with fail
      refine C1.out.mono ?_
      rintro e w1 ⟨rfl, hn⟩
      go_wp2_with fail
      refine (C2.out _).mono ?_
      rintro e w2 ⟨rfl, rfl⟩
      go_wp2_with fail
      go_ret2
      exact ⟨by rw [← Hr.out]; rfl, hn⟩

def dirOk (d : List UInt8) : Bool := d.isEmpty || pathOk d

set_option maxHeartbeats 400000 in
theorem specDir (d : ByteArray) (w : World) (hd : d.size ≤ 1048576) :
    Calls Tryd.prog 23 #[.string d] w fun e w' => e = .returned (.bool (dirOk d.data.toList)) ∧ New w w' := by
  have ex := isEmpty_toList d
  rcases h2 : d.data.toList.isEmpty with _ | _
  · rw [h2] at ex
    have c1 := specPath d w hd
    have hr : dirOk d.data.toList = pathOk d.data.toList := by simp [dirOk, h2]
    have C1 := Lib.hid c1
    rw [hr]
    clear c1 hr h2
    go_enter Tryd.func23, Tryd.ntmps23
    go_wp2_with fail
    refine C1.out.mono ?_
    rintro e w1 ⟨rfl, hn⟩
    go_wp2_with fail
    go_ret
    exact ⟨rfl, hn⟩
  · rw [h2] at ex
    have hr : dirOk d.data.toList = true := by simp [dirOk, h2]
    rw [hr]
    clear hr h2
    go_enter Tryd.func23, Tryd.ntmps23
    go_wp2_with fail
    go_ret
    exact ⟨rfl, New.refl _⟩

def inSpec (p d : List UInt8) : Bool := d.isEmpty || p == d || inDir p d
theorem inDir_parts (p d : ByteArray) : inDir p.data.toList d.data.toList = (decide (d.size < p.size) && ((p.extract 0 d.size).toList == d.toList) && decide (p.data.toList[d.size]? = some 47)) := by
  rw [Bool.eq_iff_iff, inDir_iff]
  simp only [Bool.and_eq_true, decide_eq_true_eq, beq_iff_eq]
  rw [Lib.extract_toList, Lib.toList_data]
  have hp := size_len p
  have hd := size_len d
  constructor
  · rintro ⟨r, h⟩
    have hl := congrArg List.length h
    simp at hl
    refine ⟨⟨by omega, ?_⟩, ?_⟩
    · rw [h, List.drop_zero, Nat.sub_zero, ← hd]; simp
    · rw [h, ← hd]; simp
  · rintro ⟨⟨h1, h2⟩, h3⟩
    refine ⟨p.data.toList.drop (d.size + 1), ?_⟩
    rw [List.drop_zero, Nat.sub_zero] at h2
    obtain ⟨hlt, e⟩ := List.getElem?_eq_some_iff.1 h3
    conv => lhs; rw [← List.take_append_drop d.size p.data.toList, h2, List.drop_eq_getElem_cons hlt, e]

set_option maxHeartbeats 400000 in
theorem specIn (p d : ByteArray) (w : World) (_hp : p.size ≤ 1048576) (hd : d.size ≤ 1048576) :
    Calls Tryd.prog 24 #[.string p, .string d] w fun e w' => e = .returned (.bool (inSpec p.data.toList d.data.toList)) ∧ w = w' := by
  have ex := isEmpty_toList d
  have bx := beq_toList p d
  rcases h2 : d.data.toList.isEmpty with _ | _
  · rw [h2] at ex
    rcases h3 : (p.data.toList == d.data.toList) with _ | _
    · rw [h3] at bx
      have hr : inSpec p.data.toList d.data.toList = inDir p.data.toList d.data.toList := by simp only [inSpec, h2, h3]; rfl
      rw [inDir_parts] at hr
      have Hr := Lib.hid hr
      clear hr h2 h3
      by_cases hlt : d.size < p.size
      · have hd1 : decide ((d.size : Int) < (p.size : Int)) = true := by simp; omega
        have hb := byte_at p d.size hlt
        have he := eq47 p[d.size]
        have Hb := Lib.hid hb
        have He := Lib.hid he
        clear hb he
        rcases h4 : ((p.extract 0 d.size).toList == d.toList) with _ | _
        · have Hr2 : Hid (inSpec p.data.toList d.data.toList = false) := Lib.hid (by rw [Hr.out, h4]; simp)
          go_enter Tryd.func24, Tryd.ntmps24
          go_wp2_with fail
          go_ret
          exact ⟨ret_bool Hr2.out.symm, rfl⟩
        · have Hr2 : Hid (inSpec p.data.toList d.data.toList = ((p[d.size].toNat : Int) == 47)) := Lib.hid (by rw [Hr.out, h4, He.out, Hb.out]; simp [hlt])
          go_enter Tryd.func24, Tryd.ntmps24
          go_wp2_with fail
          go_ret
          exact ⟨ret_bool Hr2.out.symm, rfl⟩
      · have hd1 : decide ((d.size : Int) < (p.size : Int)) = false := by simp; omega
        have Hr2 : Hid (inSpec p.data.toList d.data.toList = false) := Lib.hid (by rw [Hr.out]; simp [hlt])
        go_enter Tryd.func24, Tryd.ntmps24
        go_wp2_with fail
        go_ret
        exact ⟨ret_bool Hr2.out.symm, rfl⟩
    · rw [h3] at bx
      have hr : inSpec p.data.toList d.data.toList = true := by simp only [inSpec, h2, h3]; rfl
      rw [hr]
      clear hr h2 h3
      go_enter Tryd.func24, Tryd.ntmps24
      go_wp2_with fail
      go_ret
      exact ⟨rfl, rfl⟩
  · rw [h2] at ex
    have hr : inSpec p.data.toList d.data.toList = true := by simp only [inSpec, h2]; rfl
    rw [hr]
    clear hr h2 bx
    go_enter Tryd.func24, Tryd.ntmps24
    go_wp2_with fail
    go_ret
    exact ⟨rfl, rfl⟩

theorem within_spec (p d : List UInt8) : within p d = (pathOk p && (dirOk d && inSpec p d)) := by
  unfold within dirOk inSpec
  cases h1 : pathOk p with
  | false => rfl
  | true =>
    cases h2 : d.isEmpty with
    | true => rfl
    | false =>
      cases h3 : (p == d) with
      | false => cases pathOk d <;> rfl
      | true => rw [beq_iff_eq] at h3; subst h3; rw [h1]; rfl

set_option maxHeartbeats 400000 in
theorem specPathWithin (p d : ByteArray) (w : World) (hp : p.size ≤ 1048576) (hd : d.size ≤ 1048576) :
    Calls Tryd.prog 8 #[.string p, .string d] w fun e w' => e = .returned (.bool (within p.data.toList d.data.toList)) ∧ New w w' := by
  have c1 := specPath p w hp
  have c2 := fun (W : World) => specDir d W hd
  have c3 := fun (W : World) => specIn p d W hp hd
  have hw := within_spec p.data.toList d.data.toList
  have C3 := Lib.hid c3
  rcases h1 : pathOk p.data.toList with _ | _
  · rw [h1] at c1 hw
    have C1 := Lib.hid c1
    rw [show within p.data.toList d.data.toList = false from hw]
    clear c1 c2 c3 h1 hw
    go_enter Tryd.func8, Tryd.ntmps8
    go_wp2_with fail
    refine C1.out.mono ?_
    rintro e w1 ⟨rfl, hn⟩
    go_wp2_with fail
    go_ret
    exact ⟨rfl, hn⟩
  · rw [h1] at c1 hw
    have C1 := Lib.hid c1
    rcases h2 : dirOk d.data.toList with _ | _
    · rw [h2] at c2 hw
      have C2 := Lib.hid c2
      rw [show within p.data.toList d.data.toList = false from hw]
      clear c1 c2 c3 h1 h2 hw
      go_enter Tryd.func8, Tryd.ntmps8
      go_wp2_with fail
      refine C1.out.mono ?_
      rintro e w1 ⟨rfl, hn⟩
      go_wp2_with fail
      refine (C2.out _).mono ?_
      rintro e w2 ⟨rfl, hn2⟩
      go_wp2_with fail
      go_ret
      exact ⟨rfl, hn.trans hn2⟩
    · rw [h2] at c2 hw
      have C2 := Lib.hid c2
      rw [show within p.data.toList d.data.toList = inSpec p.data.toList d.data.toList from hw]
      clear c1 c2 c3 h1 h2 hw
      generalize inSpec p.data.toList d.data.toList = r at *
      go_enter Tryd.func8, Tryd.ntmps8
      go_wp2_with fail
      refine C1.out.mono ?_
      rintro e w1 ⟨rfl, hn⟩
      go_wp2_with fail
      refine (C2.out _).mono ?_
      rintro e w2 ⟨rfl, hn2⟩
      go_wp2_with fail
      refine (C3.out _).mono ?_
      rintro e w3 ⟨rfl, rfl⟩
      go_wp2_with fail
      go_ret
      exact ⟨rfl, hn.trans hn2⟩

/-- What is within a directory is within its parent. -/
theorem within_parent {p d : List UInt8} (h : within p d = true) (hd : d ≠ []) : pathOk d = true ∧ within p (parentOf d) = true := by
  unfold within at h
  simp only [Bool.and_eq_true, Bool.or_eq_true, beq_iff_eq, List.isEmpty_iff] at h
  obtain ⟨h1, h2⟩ := h
  have hok : pathOk d = true := by
    rcases h2 with (h2 | h2) | h2
    · exact absurd h2 hd
    · rw [← h2]; exact h1
    · exact h2.1
  refine ⟨hok, ?_⟩
  have hbd := lastOf_bd d
  by_cases hm1 : lastOf d = -1
  · rw [(parent_none hm1).1]
    unfold within; rw [h1]; rfl
  · obtain ⟨m, hm⟩ : ∃ m : Nat, lastOf d = m := ⟨(lastOf d).toNat, by omega⟩
    obtain ⟨e1, e2, e3⟩ := parent_some hm
    rw [e1]
    have hcut : cutS d = cutS (d.take m) ++ [d.drop (m + 1)] := by
      unfold cutS
      conv => lhs; rw [e3]
      exact cutGo_last _ _ _ e2
    have hx : pathOk (d.take m) = true := by
      unfold pathOk at hok ⊢
      rw [hcut] at hok
      simp only [List.length_append, List.length_singleton, List.all_append, Bool.and_eq_true, decide_eq_true_eq] at hok ⊢
      exact ⟨by omega, hok.2.1⟩
    have hin : inDir p (d.take m) = true := by
      rw [inDir_iff]
      rcases h2 with (h2 | h2) | h2
      · exact absurd h2 hd
      · exact ⟨d.drop (m + 1), by rw [h2]; exact e3⟩
      · obtain ⟨r, hr⟩ := (inDir_iff p d).1 h2.2
        exact ⟨d.drop (m + 1) ++ 47 :: r, by rw [hr]; conv => lhs; rw [e3]; simp⟩
    unfold within
    rw [h1, hx, hin]; simp

end Go.Proofs.YtpmcjbemicheoaaDoor
