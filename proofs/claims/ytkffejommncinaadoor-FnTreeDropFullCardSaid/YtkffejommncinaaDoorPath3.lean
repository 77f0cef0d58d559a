/- PathWithin and PathParent, the program's and the reference's. -/
import Derived.Test.YtkffejommncinaaDoorPath2
namespace Go.Proofs.YtkffejommncinaaDoor
open Go.RowKit

def inDir (p d : List UInt8) : Bool := (d ++ [47]).isPrefixOf p
def within (p d : List UInt8) : Bool := pathOk p && (d.isEmpty || p == d || (pathOk d && inDir p d))

theorem inDir_iff (p d : List UInt8) : inDir p d = true ↔ ∃ r, p = d ++ 47 :: r := by
  unfold inDir
  rw [List.isPrefixOf_iff_prefix]
  constructor
  · rintro ⟨r, h⟩; exact ⟨r, by rw [← h]; simp⟩
  · rintro ⟨r, h⟩; exact ⟨r, by rw [h]; simp⟩

set_option maxRecDepth 4000 in
set_option maxHeartbeats 400000 in
theorem strHasPrefix (s p : ByteArray) (w : World) (_hs : s.size ≤ 9223372036854775807) (_hp : p.size ≤ 9223372036854775807) :
    Calls Tryd.prog 73 #[.string s, .string p] w fun e w' => e = .returned (.bool (p.data.toList.isPrefixOf s.data.toList)) ∧ w = w' := by
  have hr := Lib.hasPrefix_raw s p
  have Hr := Lib.hid hr
  clear hr
  by_cases h : p.size ≤ s.size
  · have hd : decide ((p.size : Int) ≤ (s.size : Int)) = true := by simp; omega
    go_enter Tryd.func73, Tryd.ntmps73
    go_wp2
    go_ret
    refine ⟨ret_bool ?_, rfl⟩
    have := Hr.out
    unfold Lib.hasPrefix at this
    rw [← this]
    simp [h]
  · have hd : decide ((p.size : Int) ≤ (s.size : Int)) = false := by simp; omega
    go_enter Tryd.func73, Tryd.ntmps73
    go_wp2
    go_ret
    refine ⟨ret_bool ?_, rfl⟩
    have := Hr.out
    unfold Lib.hasPrefix at this
    rw [← this]
    simp [h]

/-- the place of the last slash among the first k bytes, or -1 -/
def lastTo (l : List UInt8) : Nat → Int
  | 0 => -1
  | k + 1 => if l[k]? = some 47 then k else lastTo l k
def lastOf (l : List UInt8) : Int := lastTo l l.length
def parentOf (l : List UInt8) : List UInt8 := l.take (lastOf l).toNat
theorem lastTo_bd (l : List UInt8) : ∀ k, -1 ≤ lastTo l k ∧ lastTo l k < k ∨ lastTo l k = -1 ∧ k = 0
  | 0 => .inr ⟨rfl, rfl⟩
  | k + 1 => by
    left
    rw [lastTo]
    have := lastTo_bd l k
    split <;> omega
theorem lastTo_none (l : List UInt8) : ∀ k, lastTo l k = -1 → ∀ i, i < k → l[i]? ≠ some 47
  | 0, _, i, h => by omega
  | k + 1, h, i, hi => by
    rw [lastTo] at h
    split at h
    · omega
    · rename_i hn
      by_cases e : i = k
      · subst e; exact hn
      · exact lastTo_none l k h i (by omega)
theorem lastTo_some (l : List UInt8) : ∀ k (m : Nat), lastTo l k = m → m < k ∧ l[m]? = some 47 ∧ ∀ i, m < i → i < k → l[i]? ≠ some 47
  | 0, m, h => by simp [lastTo] at h <;> omega
  | k + 1, m, h => by
    rw [lastTo] at h
    split at h
    · rename_i hn
      obtain rfl : m = k := by omega
      exact ⟨by omega, hn, fun i _ _ => by omega⟩
    · rename_i hn
      obtain ⟨h1, h2, h3⟩ := lastTo_some l k m h
      refine ⟨by omega, h2, fun i hi hk => ?_⟩
      by_cases e : i = k
      · subst e; exact hn
      · exact h3 i hi (by omega)
theorem lastOf_bd (l : List UInt8) : -1 ≤ lastOf l ∧ lastOf l ≤ l.length := by
  have := lastTo_bd l l.length
  unfold lastOf; omega
theorem parent_none {l : List UInt8} (h : lastOf l = -1) : parentOf l = [] ∧ (47 : UInt8) ∉ l := by
  refine ⟨by unfold parentOf; rw [h]; rfl, fun hm => ?_⟩
  obtain ⟨i, hi, e⟩ := List.mem_iff_getElem.1 hm
  exact lastTo_none l _ h i hi (by rw [List.getElem?_eq_getElem hi, e])
theorem parent_some {l : List UInt8} {m : Nat} (h : lastOf l = m) : parentOf l = l.take m ∧ (47 : UInt8) ∉ l.drop (m + 1) ∧ l = l.take m ++ 47 :: l.drop (m + 1) := by
  obtain ⟨h1, h2, h3⟩ := lastTo_some l _ m h
  refine ⟨by unfold parentOf; rw [h]; rfl, fun hm => ?_, ?_⟩
  · obtain ⟨i, hi, e⟩ := List.mem_iff_getElem.1 hm
    have hi' : m + 1 + i < l.length := by simp at hi; omega
    refine h3 (m + 1 + i) (by omega) hi' ?_
    rw [List.getElem?_eq_getElem hi']
    rw [List.getElem_drop] at e
    rw [e]
  · obtain ⟨_, e⟩ := List.getElem?_eq_some_iff.1 h2
    conv => lhs; rw [← List.take_append_drop m l, List.drop_eq_getElem_cons h1, e]

theorem eq47 (c : UInt8) : ((c.toNat : Int) == 47) = decide (c = 47) := by
  by_cases h : c = 47
  · subst h; rfl
  · have : ¬ (c.toNat : Int) = 47 := fun e => h (UInt8.toNat_inj.1 (by simp; omega))
    simp [h, this]

set_option maxRecDepth 4000 in
set_option maxHeartbeats 400000 in
theorem specLast (s : ByteArray) (w : World) (hs : s.size ≤ 1152921504606846976) :
    Calls Tryd.prog 95 #[.string s] w fun e w' => e = .returned (.int .i64 (lastOf s.data.toList)) ∧ w = w' := by
  have hsl := size_len s
  have Hsl := Lib.hid hsl
  clear hsl
  go_enter Tryd.func95, Tryd.ntmps95
  go_wp2
  go_loop [3, 4] (fun o i => ∃ (k : Nat), k ≤ s.size ∧ i = .int .i64 k ∧ o = .int .i64 (lastTo s.data.toList k)) (fun _ i => s.size - (intOf i).toNat)
  case atStart => exact ⟨0, Nat.zero_le _, rfl, rfl⟩
  case round =>
    obtain ⟨k, hk, rfl, rfl⟩ := hrel
    by_cases hlt : k < s.size
    · have hb := byte_at s k hlt
      have he := eq47 s[k]
      by_cases h47 : s[k] = 47
      · have hst : lastTo s.data.toList (k + 1) = k := by rw [lastTo, if_pos (by rw [hb, h47])]
        rw [decide_eq_true h47] at he
        have Hst := Lib.hid hst
        clear hb hst h47
        generalize lastTo s.data.toList k = q
        go_wp2
        go_round
        case rel => exact ⟨k + 1, by omega, by go_num, by rw [Hst.out]⟩
        case measure => simp [intOf]; omega
      · have hst : lastTo s.data.toList (k + 1) = lastTo s.data.toList k := by rw [lastTo, if_neg (by rw [hb]; simpa using h47)]
        rw [decide_eq_false h47] at he
        have Hst := Lib.hid hst
        clear hb hst h47
        generalize hq : lastTo s.data.toList k = q at *
        have Hq := Lib.hid hq
        clear hq
        go_wp2
        go_round
        case rel => exact ⟨k + 1, by omega, by go_num, by rw [Hst.out]⟩
        case measure => simp [intOf]; omega
    · have ek : lastOf s.data.toList = lastTo s.data.toList k := by unfold lastOf; rw [Hsl.out, show s.size = k from by omega]
      have Ek := Lib.hid ek
      clear ek
      generalize hq : lastTo s.data.toList k = q at *
      have Hq := Lib.hid hq
      clear hq
      go_wp2
      go_ret
      exact ⟨ret_int Ek.out.symm, rfl⟩

theorem isEmpty_toList (s : ByteArray) : s.toList.isEmpty = s.data.toList.isEmpty := by rw [Lib.toList_data]
theorem beq_toList (s t : ByteArray) : (s.toList == t.toList) = (s.data.toList == t.data.toList) := by rw [Lib.toList_data, Lib.toList_data]

set_option maxRecDepth 4000 in
set_option maxHeartbeats 400000 in
theorem implWithin (p d : ByteArray) (w : World) (hp : p.size ≤ 1152921504606846976) (hd : d.size ≤ 1152921504606846976) :
    Calls Tryd.prog 46 #[.string p, .string d] w fun e w' => e = .returned (.bool (within p.data.toList d.data.toList)) ∧ New w w' := by
  have c1 := implValid p w hp
  have ex := isEmpty_toList d
  have bx := beq_toList p d
  rcases h1 : pathOk p.data.toList with _ | _
  · have hr : within p.data.toList d.data.toList = false := by simp [within, h1]
    rw [h1] at c1
    have C1 := Lib.hid c1
    have Hr := Lib.hid hr
    clear c1 hr h1 ex bx
    go_enter Tryd.func46, Tryd.ntmps46
    go_wp2_with fail
    refine C1.out.mono ?_
    rintro e w1 ⟨rfl, hn⟩
    go_wp2_with fail
    go_ret
    exact ⟨ret_bool Hr.out.symm, hn⟩
  · rw [h1] at c1
    have C1 := Lib.hid c1
    rcases h2 : d.data.toList.isEmpty with _ | _
    · rcases h3 : (p.data.toList == d.data.toList) with _ | _
      · have c2 := fun (W : World) => implValid d W hd
        rw [h2] at ex
        rw [h3] at bx
        rcases h4 : pathOk d.data.toList with _ | _
        · have hr : within p.data.toList d.data.toList = false := by simp only [within, h1, h2, h3, h4]; rfl
          rw [h4] at c2
          have C2 := Lib.hid c2
          have Hr := Lib.hid hr
          clear c1 c2 hr h1 h2 h3 h4
          go_enter Tryd.func46, Tryd.ntmps46
          go_wp2_with fail
          refine C1.out.mono ?_
          rintro e w1 ⟨rfl, hn⟩
          go_wp2_with fail
          refine (C2.out _).mono ?_
          rintro e w2 ⟨rfl, hn2⟩
          go_wp2_with fail
          go_ret
          exact ⟨ret_bool Hr.out.symm, hn.trans hn2⟩
        · have hr : within p.data.toList d.data.toList = inDir p.data.toList d.data.toList := by simp only [within, h1, h2, h3, h4]; rfl
          rw [h4] at c2
          have C2 := Lib.hid c2
          have Hr := Lib.hid hr
          have hsum : (d ++ ⟨#[47]⟩ : ByteArray).size ≤ 9223372036854775807 := by rw [ByteArray.size_append']; show d.size + 1 ≤ _; omega
          have c3 := fun (W : World) => strHasPrefix p (d ++ ⟨#[47]⟩) W (by omega) hsum
          have ed : (d ++ ⟨#[47]⟩ : ByteArray).data.toList = d.data.toList ++ [47] := by simp
          rw [ed] at c3
          have C3 := Lib.hid c3
          clear c1 c2 c3 hr h1 h2 h3 h4 ed
          go_enter Tryd.func46, Tryd.ntmps46
          go_wp2_with fail
          refine C1.out.mono ?_
          rintro e w1 ⟨rfl, hn⟩
          go_wp2_with fail
          refine (C2.out _).mono ?_
          rintro e w2 ⟨rfl, hn2⟩
          go_wp2_with fail
          refine (C3.out _).mono ?_
          rintro e w3 ⟨rfl, rfl⟩
          go_wp2_with fail
          go_ret
          exact ⟨ret_bool Hr.out.symm, hn.trans hn2⟩
      · have hr : within p.data.toList d.data.toList = true := by simp only [within, h1, h3]; simp
        rw [h2] at ex
        rw [h3] at bx
        have Hr := Lib.hid hr
        clear c1 hr h1 h2 h3
        go_enter Tryd.func46, Tryd.ntmps46
        go_wp2_with fail
        refine C1.out.mono ?_
        rintro e w1 ⟨rfl, hn⟩
        go_wp2_with fail
        go_ret
        exact ⟨ret_bool Hr.out.symm, hn⟩
    · have hr : within p.data.toList d.data.toList = true := by simp only [within, h1, h2]; simp
      rw [h2] at ex
      have Hr := Lib.hid hr
      clear c1 hr h1 h2 bx
      go_enter Tryd.func46, Tryd.ntmps46
      go_wp2_with fail
      refine C1.out.mono ?_
      rintro e w1 ⟨rfl, hn⟩
      go_wp2_with fail
      go_ret
      exact ⟨ret_bool Hr.out.symm, hn⟩

set_option maxRecDepth 4000 in
theorem implPathWithin (p d : ByteArray) (w : World) (hp : p.size ≤ 1152921504606846976) (hd : d.size ≤ 1152921504606846976) :
    Calls Tryd.prog 15 #[.string p, .string d] w fun e w' => e = .returned (.bool (within p.data.toList d.data.toList)) ∧ New w w' := by
  have c1 := implWithin p d w hp hd
  have C1 := Lib.hid c1
  clear c1
  go_enter Tryd.func15, Tryd.ntmps15
  go_wp2_with fail
  refine C1.out.mono ?_
  rintro e w1 ⟨rfl, hn⟩
  go_wp2_with fail
  go_ret
  exact ⟨rfl, hn⟩

def parentIf (l : List UInt8) : List UInt8 := if pathOk l then parentOf l else []

end Go.Proofs.YtkffejommncinaaDoor
