/- The reference's l5Parent, l5At, l5Home. -/
import Derived.Test.YtkffejommncinaaDoorItemsA
import Derived.Test.YtkffejommncinaaDoorTreeA
import Derived.Deep.RegionHeld3
namespace Go.Proofs.YtkffejommncinaaDoor
open Go.RowKit

set_option maxRecDepth 4000 in
set_option maxHeartbeats 400000 in
theorem spec5Parent (l : List UInt8) (w : World) (hs : l.length ≤ 1048576) :
    Calls Tryd.prog 84 #[txt l] w fun e w' => e = .returned (txt (parentOf l)) ∧ w = w' := by
  have hsz : (⟨l.toArray⟩ : ByteArray).size = l.length := by show l.toArray.size = _; simp
  have c2 := fun (W : World) => specLast ⟨l.toArray⟩ W (by omega)
  rw [show (⟨l.toArray⟩ : ByteArray).data.toList = l from rfl] at c2
  have hbd := lastOf_bd l
  unfold txt
  by_cases hm1 : lastOf l = -1
  · rw [hm1] at c2
    have C2 := Lib.hid c2
    have hr : Value.string ((⟨l.toArray⟩ : ByteArray).extract 0 (max (-1 : Int) 0).toNat) = Value.string ⟨(parentOf l).toArray⟩ := by
      rw [(parent_none hm1).1, show (max (-1 : Int) 0).toNat = 0 from rfl]
      have := txt_cut ⟨l.toArray⟩ 0 0
      unfold txt at this
      rw [this]; simp
    have Hr := Lib.hid hr
    clear c2 hr hbd hm1
    go_enter Tryd.func84, Tryd.ntmps84
    go_wp2_with fail
    refine (C2.out _).mono ?_
    rintro e w2 ⟨rfl, rfl⟩
    go_wp2_with fail
    go_ret
    exact ⟨by rw [← Hr.out]; rfl, rfl⟩
  · obtain ⟨m, hm⟩ : ∃ m : Nat, lastOf l = m := ⟨(lastOf l).toNat, by omega⟩
    have hml : m ≤ l.length := by omega
    rw [hm] at c2
    have C2 := Lib.hid c2
    have hr2 : Value.string ((⟨l.toArray⟩ : ByteArray).extract 0 m) = Value.string ⟨(parentOf l).toArray⟩ := by
      rw [(parent_some hm).1]
      have := txt_cut ⟨l.toArray⟩ 0 m
      unfold txt at this
      rw [this]; simp
    have Hr := Lib.hid hr2
    have hm0 : ¬ ((m : Int) < 0) := by omega
    clear c2 hr2 hbd hm1 hm
    go_enter Tryd.func84, Tryd.ntmps84
    go_wp2_with fail
    refine (C2.out _).mono ?_
    rintro e w2 ⟨rfl, rfl⟩
    go_wp2_with fail
    go_ret
    exact ⟨by rw [← Hr.out]; rfl, rfl⟩

/-- the place of a path, or -1 -/
def atFrom (p : List UInt8) : Nat → List ItemR → Int
  | _, [] => -1
  | k, o :: r => if o.path = p then k else atFrom p (k + 1) r
def atI (os : List ItemR) (p : List UInt8) : Int := atFrom p 0 os
theorem atFrom_cases (p : List UInt8) : ∀ (r : List ItemR) (k : Nat), (atFrom p k r = -1 ∧ findI r p = none) ∨ ∃ (i : Nat) (o : ItemR), atFrom p k r = ((k + i : Nat) : Int) ∧ r[i]? = some o ∧ o.path = p ∧ findI r p = some o
  | [], k => .inl ⟨rfl, rfl⟩
  | o :: r, k => by
    unfold findI at *
    rw [atFrom]
    by_cases h : o.path = p
    · rw [if_pos h]
      exact .inr ⟨0, o, by simp, rfl, h, by rw [List.find?_cons_of_pos (by simpa using h)]⟩
    · rw [if_neg h, List.find?_cons_of_neg (by simpa using h)]
      rcases atFrom_cases p r (k + 1) with h1 | ⟨i, o', h1, h2, h3, h4⟩
      · exact .inl h1
      · exact .inr ⟨i + 1, o', by rw [h1]; congr 1; omega, by simpa using h2, h3, h4⟩
theorem atI_cases (os : List ItemR) (p : List UInt8) : (atI os p = -1 ∧ findI os p = none) ∨ ∃ (i : Nat) (o : ItemR), atI os p = (i : Int) ∧ os[i]? = some o ∧ o.path = p ∧ findI os p = some o := by
  unfold atI
  have := atFrom_cases p os 0
  simpa using this

set_option maxRecDepth 4000 in
set_option maxHeartbeats 400000 in
theorem specAt {S : Nat → Prop} (v : Value) (os : List ItemR) (p : List UInt8) (w : World) (h : Items S w v os) :
    Calls Tryd.prog 42 #[v, txt p] w fun e w' => e = .returned (.int .i64 (atI os p)) ∧ w = w' := by
  have h0 := h
  obtain ⟨-, a, c, rfl, h1, h2, -⟩ := h
  unfold maxLen at h2
  have hat := fun (k : Nat) (o : ItemR) (ho : os[k]? = some o) => Items.at h0 ho
  have Hat := Lib.hid hat
  unfold txt
  clear hat h0
  go_enter Tryd.func42, Tryd.ntmps42
  go_wp2
  go_loopg [5] os.length (fun gk i wr => ∃ (k : Nat), gk = os.length - k ∧ k ≤ os.length ∧ i = .int .i64 k ∧ w = wr ∧ Hid (atI os p = atFrom p k (os.drop k)))
  case atStart => exact ⟨0, by omega, Nat.zero_le _, rfl, rfl, Lib.hid rfl⟩
  case round =>
    obtain ⟨k, hgk, hk, rfl, rfl, he⟩ := hrel
    have Hgk := Lib.hid hgk
    clear hgk
    by_cases hlt : k < os.length
    · obtain ⟨o, ho⟩ := get_of hlt
      obtain ⟨bb, off, c', uv, e1, hbb, c0, -⟩ := Hat.out k o ho
      simp only [Value.slice.injEq] at e1
      obtain ⟨rfl, -, rfl⟩ := e1
      have Hd := Lib.hid (drop_of ho)
      unfold txt at c0
      clear ho
      by_cases hp : o.path = p
      · have hr : atI os p = k := by rw [he.out, Hd.out, atFrom, if_pos hp]
        have Hr := Lib.hid hr
        have hb : (o.path == p) = true := by simp [hp]
        clear hr hp
        go_wp2_with fail
        go_ret
        exact ⟨ret_int Hr.out.symm, rfl⟩
      · have hr : atI os p = atFrom p (k + 1) (os.drop (k + 1)) := by rw [he.out, Hd.out, atFrom, if_neg hp]
        have Hr := Lib.hid hr
        have hb : (o.path == p) = false := by simp [hp]
        clear hr hp
        go_wp2_with fail
        go_roundg (os.length - (k + 1))
        case measure => rw [Hgk.out]; omega
        case rel => exact ⟨k + 1, rfl, by omega, by go_num, rfl, Hr⟩
    · have hr : atI os p = -1 := by rw [he.out, drop_end hlt]; rfl
      have Hr := Lib.hid hr
      clear hr
      go_wp2_with fail
      go_ret
      exact ⟨ret_int Hr.out.symm, rfl⟩

set_option maxRecDepth 4000 in
set_option maxHeartbeats 400000 in
theorem specHome {S : Nat → Prop} (v : Value) (os : List ItemR) (p : List UInt8) (w : World) (h : Items S w v os) (hs : p.length ≤ 1048576) :
    Calls Tryd.prog 67 #[v, txt p] w fun e w' => e = .returned (.bool (homeS os p)) ∧ New w w' := by
  have Hp := Lib.hid (spec5Parent p w hs)
  have Ha := Lib.hid (specAt v os (parentOf p) w h)
  have h0 := h
  obtain ⟨-, a, c, rfl, h1, h2, -⟩ := h
  unfold maxLen at h2
  have hat := fun (W : World) (n : New w W) (k : Nat) (o : ItemR) (ho : os[k]? = some o) => Items.at (Recs.new h0 n) ho
  have Hat := Lib.hid hat
  unfold txt at Hp Ha ⊢
  clear hat h0
  have hh : homeS os p = ((parentOf p).isEmpty || ((findI os (parentOf p)).map (·.dir)).getD false) := rfl
  have hcs := atI_cases os (parentOf p)
  generalize hd : parentOf p = d at *
  clear hd
  by_cases hde : d = []
  · subst hde
    have Hh := Lib.hid (show homeS os p = true from by rw [hh]; rfl)
    generalize atI os [] = r at *
    clear hh hcs
    go_enter Tryd.func67, Tryd.ntmps67
    go_wp2_with fail
    refine Hp.out.mono ?_
    rintro e w2 ⟨rfl, rfl⟩
    go_wp2_with fail
    refine Ha.out.mono ?_
    rintro e w2 ⟨rfl, rfl⟩
    go_wp2_with fail
    go_ret
    exact ⟨by rw [Hh.out]; rfl, New.refl _⟩
  · have hne : (d == []) = false := by simp [hde]
    have hem : d.isEmpty = false := by simpa using hde
    rw [hem, Bool.false_or] at hh
    rcases hcs with ⟨e1, e2⟩ | ⟨i, o, e1, e2, e3, e4⟩
    · have Hh := Lib.hid (show homeS os p = false from by rw [hh, e2]; rfl)
      rw [e1] at Ha
      clear hh e1 e2
      go_enter Tryd.func67, Tryd.ntmps67
      go_wp2_with fail
      refine Hp.out.mono ?_
      rintro e w2 ⟨rfl, rfl⟩
      go_wp2_with fail
      refine Ha.out.mono ?_
      rintro e w2 ⟨rfl, rfl⟩
      go_wp2_with fail
      go_ret
      exact ⟨by rw [Hh.out]; rfl, New.refl _⟩
    · have Hh := Lib.hid (show homeS os p = o.dir from by rw [hh, e4]; rfl)
      rw [e1] at Ha
      have hi := (List.getElem?_eq_some_iff.1 e2).1
      obtain ⟨bb, off, c', uv, e5, hbb, c0, c1, -⟩ := Hat.out w (New.refl w) i o e2
      simp only [Value.slice.injEq] at e5
      obtain ⟨rfl, -, rfl⟩ := e5
      clear hh e1 e2 e3 e4 c0
      go_enter Tryd.func67, Tryd.ntmps67
      go_wp2_with fail
      refine Hp.out.mono ?_
      rintro e w2 ⟨rfl, rfl⟩
      go_wp2_with fail
      refine Ha.out.mono ?_
      rintro e w2 ⟨rfl, rfl⟩
      go_wp2_with fail
      go_ret
      exact ⟨by rw [Hh.out]; rfl, New.refl _⟩
end Go.Proofs.YtkffejommncinaaDoor
