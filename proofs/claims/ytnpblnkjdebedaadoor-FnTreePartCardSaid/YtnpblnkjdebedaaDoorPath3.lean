/- PathWithin and PathParent, the program's and the reference's. -/
import Derived.Test.YtnpblnkjdebedaaDoorPath2
namespace Go.Proofs.YtnpblnkjdebedaaDoor
open Go.RowKit

def inDir (p d : List UInt8) : Bool := (d ++ [47]).isPrefixOf p
def within (p d : List UInt8) : Bool := pathOk p && (d.isEmpty || p == d || (pathOk d && inDir p d))

theorem inDir_iff (p d : List UInt8) : inDir p d = true ↔ ∃ r, p = d ++ 47 :: r := by
  unfold inDir
  rw [List.isPrefixOf_iff_prefix]
  constructor
  · rintro ⟨r, h⟩; exact ⟨r, by rw [← h]; simp⟩
  · rintro ⟨r, h⟩; exact ⟨r, by rw [h]; simp⟩

/-- the place of the last slash among the first k bytes, or -1 -/
def lastTo (l : List UInt8) : Nat → Int
  | 0 => -1
  | k + 1 => if l[k]? = some 47 then k else lastTo l k
def lastOf (l : List UInt8) : Int := lastTo l l.length
def parentOf (l : List UInt8) : List UInt8 := l.take (lastOf l).toNat
theorem lastTo_bd (l : List UInt8) : ∀ k, -1 ≤ lastTo l k ∧ lastTo l k < k ∨ lastTo l k = -1 ∧ k = 0
  | 0 => .inr ⟨rfl, rfl⟩
  | k + 1 => by
    left
    rw [lastTo]
    have := lastTo_bd l k
    split <;> omega
theorem lastTo_none (l : List UInt8) : ∀ k, lastTo l k = -1 → ∀ i, i < k → l[i]? ≠ some 47
  | 0, _, i, h => by omega
  | k + 1, h, i, hi => by
    rw [lastTo] at h
    split at h
    · omega
    · rename_i hn
      by_cases e : i = k
      · subst e; exact hn
      · exact lastTo_none l k h i (by omega)
theorem lastTo_some (l : List UInt8) : ∀ k (m : Nat), lastTo l k = m → m < k ∧ l[m]? = some 47 ∧ ∀ i, m < i → i < k → l[i]? ≠ some 47
  | 0, m, h => by simp [lastTo] at h <;> omega
  | k + 1, m, h => by
    rw [lastTo] at h
    split at h
    · rename_i hn
      obtain rfl : m = k := by omega
      exact ⟨by omega, hn, fun i _ _ => by omega⟩
    · rename_i hn
      obtain ⟨h1, h2, h3⟩ := lastTo_some l k m h
      refine ⟨by omega, h2, fun i hi hk => ?_⟩
      by_cases e : i = k
      · subst e; exact hn
      · exact h3 i hi (by omega)
theorem lastOf_bd (l : List UInt8) : -1 ≤ lastOf l ∧ lastOf l ≤ l.length := by
  have := lastTo_bd l l.length
  unfold lastOf; omega
theorem parent_none {l : List UInt8} (h : lastOf l = -1) : parentOf l = [] ∧ (47 : UInt8) ∉ l := by
  refine ⟨by unfold parentOf; rw [h]; rfl, fun hm => ?_⟩
  obtain ⟨i, hi, e⟩ := List.mem_iff_getElem.1 hm
  exact lastTo_none l _ h i hi (by rw [List.getElem?_eq_getElem hi, e])
theorem parent_some {l : List UInt8} {m : Nat} (h : lastOf l = m) : parentOf l = l.take m ∧ (47 : UInt8) ∉ l.drop (m + 1) ∧ l = l.take m ++ 47 :: l.drop (m + 1) := by
  obtain ⟨h1, h2, h3⟩ := lastTo_some l _ m h
  refine ⟨by unfold parentOf; rw [h]; rfl, fun hm => ?_, ?_⟩
  · obtain ⟨i, hi, e⟩ := List.mem_iff_getElem.1 hm
    have hi' : m + 1 + i < l.length := by simp at hi; omega
    refine h3 (m + 1 + i) (by omega) hi' ?_
    rw [List.getElem?_eq_getElem hi']
    rw [List.getElem_drop] at e
    rw [e]
  · obtain ⟨_, e⟩ := List.getElem?_eq_some_iff.1 h2
    conv => lhs; rw [← List.take_append_drop m l, List.drop_eq_getElem_cons h1, e]

theorem eq47 (c : UInt8) : ((c.toNat : Int) == 47) = decide (c = 47) := by
  by_cases h : c = 47
  · subst h; rfl
  · have : ¬ (c.toNat : Int) = 47 := fun e => h (UInt8.toNat_inj.1 (by simp; omega))
    simp [h, this]

set_option maxRecDepth 4000 in
set_option maxHeartbeats 400000 in
theorem specLast (s : ByteArray) (w : World) (hs : s.size ≤ 1152921504606846976) :
    Calls Tryd.prog 64 #[.string s] w fun e w' => e = .returned (.int .i64 (lastOf s.data.toList)) ∧ w = w' := by
  have hsl := size_len s
  have Hsl := Lib.hid hsl
  clear hsl
  go_enter Tryd.func64, Tryd.ntmps64
  go_wp2
  go_loop [3, 4] (fun o i => ∃ (k : Nat), k ≤ s.size ∧ i = .int .i64 k ∧ o = .int .i64 (lastTo s.data.toList k)) (fun _ i => s.size - (intOf i).toNat)
  case atStart => exact ⟨0, Nat.zero_le _, rfl, rfl⟩
  case round =>
    obtain ⟨k, hk, rfl, rfl⟩ := hrel
    by_cases hlt : k < s.size
    · have hb := byte_at s k hlt
      have he := eq47 s[k]
      by_cases h47 : s[k] = 47
      · have hst : lastTo s.data.toList (k + 1) = k := by rw [lastTo, if_pos (by rw [hb, h47])]
        rw [decide_eq_true h47] at he
        have Hst := Lib.hid hst
        clear hb hst h47
        generalize lastTo s.data.toList k = q
        go_wp2
        go_round
        case rel => exact ⟨k + 1, by omega, by go_num, by rw [Hst.out]⟩
        case measure => simp [intOf]; omega
      · have hst : lastTo s.data.toList (k + 1) = lastTo s.data.toList k := by rw [lastTo, if_neg (by rw [hb]; simpa using h47)]
        rw [decide_eq_false h47] at he
        have Hst := Lib.hid hst
        clear hb hst h47
        generalize hq : lastTo s.data.toList k = q at *
        have Hq := Lib.hid hq
        clear hq
        go_wp2
        go_round
        case rel => exact ⟨k + 1, by omega, by go_num, by rw [Hst.out]⟩
        case measure => simp [intOf]; omega
    · have ek : lastOf s.data.toList = lastTo s.data.toList k := by unfold lastOf; rw [Hsl.out, show s.size = k from by omega]
      have Ek := Lib.hid ek
      clear ek
      generalize hq : lastTo s.data.toList k = q at *
      have Hq := Lib.hid hq
      clear hq
      go_wp2
      go_ret
      exact ⟨ret_int Ek.out.symm, rfl⟩

set_option maxRecDepth 4000 in
set_option maxHeartbeats 400000 in
theorem implLast (s : ByteArray) (w : World) (hs : s.size ≤ 1152921504606846976) :
    Calls Tryd.prog 62 #[.string s, .int .u8 47] w fun e w' => e = .returned (.int .i64 (lastOf s.data.toList)) ∧ w = w' := by
  have hsl := size_len s
  have hg : lastOf s.data.toList = lastTo s.data.toList s.size := by unfold lastOf; rw [hsl]
  have Hg := Lib.hid hg
  clear hsl hg
  go_enter Tryd.func62, Tryd.ntmps62
  go_wp2
  go_loop [5] (fun i => ∃ (k : Nat), k ≤ s.size ∧ i = .int .i64 ((k : Int) - 1) ∧ lastTo s.data.toList s.size = lastTo s.data.toList k) (fun i => (intOf i + 1).toNat)
  case atStart => exact ⟨s.size, Nat.le_refl _, rfl, rfl⟩
  case round =>
    obtain ⟨k, hk, rfl, hq⟩ := hrel
    have Hq := Lib.hid hq
    clear hq
    rcases k with _ | j
    · have e : ((0 : Nat) : Int) - 1 = -1 := by omega
      rw [e]
      clear e
      go_wp2
      go_ret
      exact ⟨ret_int (by rw [Hg.out, Hq.out]; rfl), rfl⟩
    · have e : ((j + 1 : Nat) : Int) - 1 = (j : Int) := by omega
      rw [e]
      clear e
      have hlt : j < s.size := by omega
      have hb := byte_at s j hlt
      have he := eq47 s[j]
      by_cases h47 : s[j] = 47
      · have hst : lastTo s.data.toList (j + 1) = j := by rw [lastTo, if_pos (by rw [hb, h47])]
        rw [decide_eq_true h47] at he
        have Hst := Lib.hid hst
        clear hb hst h47
        go_wp2
        go_ret
        exact ⟨ret_int (by rw [Hg.out, Hq.out, Hst.out]), rfl⟩
      · have hst : lastTo s.data.toList (j + 1) = lastTo s.data.toList j := by rw [lastTo, if_neg (by rw [hb]; simpa using h47)]
        rw [decide_eq_false h47] at he
        have Hst := Lib.hid hst
        clear hb hst h47
        go_wp2
        go_round
        case rel => exact ⟨j, by omega, rfl, by rw [Hq.out, Hst.out]⟩
        case measure => simp [intOf] <;> omega

theorem isEmpty_toList (s : ByteArray) : s.toList.isEmpty = s.data.toList.isEmpty := by rw [Lib.toList_data]
theorem beq_toList (s t : ByteArray) : (s.toList == t.toList) = (s.data.toList == t.data.toList) := by rw [Lib.toList_data, Lib.toList_data]

def parentIf (l : List UInt8) : List UInt8 := if pathOk l then parentOf l else []

set_option maxRecDepth 4000 in
set_option maxHeartbeats 400000 in
theorem implParent0 (s : ByteArray) (w : World) (hs : s.size ≤ 1152921504606846976) :
    Calls Tryd.prog 42 #[.string s] w fun e w' => e = .returned (.tuple #[txt (parentIf s.data.toList), .bool (pathOk s.data.toList)]) ∧ New w w' := by
  have c1 := implValid s w hs
  have c2 := fun (W : World) => implLast s W (by omega)
  have hsl := size_len s
  rcases h1 : pathOk s.data.toList with _ | _
  · rw [h1] at c1
    have C1 := Lib.hid c1
    have hr : parentIf s.data.toList = [] := by simp [parentIf, h1]
    have Hr := Lib.hid hr
    clear c1 c2 hr h1 hsl
    go_enter Tryd.func42, Tryd.ntmps42
    go_wp2_with fail
    refine C1.out.mono ?_
    rintro e w1 ⟨rfl, hn⟩
    go_wp2_with fail
    go_ret2
    exact ⟨by rw [Hr.out]; rfl, hn⟩
  · rw [h1] at c1
    have C1 := Lib.hid c1
    have hr : parentIf s.data.toList = parentOf s.data.toList := by simp [parentIf, h1]
    have hbd := lastOf_bd s.data.toList
    by_cases hm1 : lastOf s.data.toList = -1
    · rw [(parent_none hm1).1] at hr
      rw [hm1] at c2
      have C2 := Lib.hid c2
      have Hr := Lib.hid hr
      clear c1 c2 hr h1 hsl hbd hm1
      go_enter Tryd.func42, Tryd.ntmps42
      go_wp2_with fail
      refine C1.out.mono ?_
      rintro e w1 ⟨rfl, hn⟩
      go_wp2_with fail
      refine (C2.out _).mono ?_
      rintro e w2 ⟨rfl, rfl⟩
      go_wp2_with fail
      go_ret2
      exact ⟨by rw [Hr.out]; rfl, hn⟩
    · obtain ⟨m, hm⟩ : ∃ m : Nat, lastOf s.data.toList = m := ⟨(lastOf s.data.toList).toNat, by omega⟩
      have hml : m ≤ s.size := by omega
      rw [(parent_some hm).1] at hr
      rw [hm] at c2
      have C2 := Lib.hid c2
      have hr2 : Value.string (s.extract 0 m) = txt (parentIf s.data.toList) := by rw [hr, txt_cut]; simp
      have Hr := Lib.hid hr2
      clear c1 c2 hr hr2 h1 hsl hbd hm1 hm
      go_enter Tryd.func42, Tryd.ntmps42
      go_wp2_with fail
      refine C1.out.mono ?_
      rintro e w1 ⟨rfl, hn⟩
      go_wp2_with fail
      refine (C2.out _).mono ?_
      rintro e w2 ⟨rfl, rfl⟩
      go_wp2_with fail
      go_ret2
      exact ⟨by rw [← Hr.out]; rfl, hn⟩

set_option maxRecDepth 4000 in
theorem implPathParent (s : ByteArray) (w : World) (hs : s.size ≤ 1152921504606846976) :
    Calls Tryd.prog 19 #[.string s] w fun e w' => e = .returned (.tuple #[txt (parentIf s.data.toList), .bool (pathOk s.data.toList)]) ∧ New w w' := by
  have c1 := implParent0 s w hs
  have C1 := Lib.hid c1
  clear c1
  generalize parentIf s.data.toList = x at *
  generalize pathOk s.data.toList = ok at *
  go_enter Tryd.func19, Tryd.ntmps19
  go_wp2_with fail
  refine C1.out.mono ?_
  rintro e w1 ⟨rfl, hn⟩
  unfold txt
  go_wp2_with fail
  go_ret2
  exact ⟨rfl, hn⟩

end Go.Proofs.YtnpblnkjdebedaaDoor
