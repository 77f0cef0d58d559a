/- dirOf, find: the directory that a path is in, the node of a path. -/
import Derived.Test.YtkffejommncinaaDoorForest
namespace Go.Proofs.YtkffejommncinaaDoor
open Go.RowKit

set_option maxRecDepth 4000 in
set_option maxHeartbeats 400000 in
theorem pathParts (s : ByteArray) (w : World) (hs : s.size ≤ 1152921504606846976) : Calls Tryd.prog 86 #[.string s] w (PartsPost w s.data.toList) := by
  have Hc := Lib.hid (implParts s w hs)
  go_enter Tryd.func86, Tryd.ntmps86
  go_wp2_with fail
  refine Hc.out.mono ?_
  rintro e w1 ⟨v, rfl, o1, n1⟩
  obtain ⟨a, c, rfl, -⟩ := Row.shape o1
  have Ho := Lib.hid o1
  clear o1
  go_wp2_with fail
  go_ret
  exact ⟨_, rfl, Ho.out, n1⟩

theorem Texts.takeT {S : Nat → Prop} {w : World} {a : Option Addr} {n c : Nat} {ls : List (List UInt8)} (h : Texts S w (.slice a n c) ls) (m : Nat) (hm : m ≤ n) : Texts S w (.slice a m c) (ls.take m) := by
  obtain ⟨a', c', e, h1, h2, h4⟩ := h
  simp only [Value.slice.injEq] at e
  obtain ⟨rfl, rfl, rfl⟩ := e
  have hl : (ls.take m).length = m := by simp; omega
  refine ⟨a, c, by rw [hl], by omega, h2, ?_⟩
  rcases h4 with rfl | ⟨b, off, rfl, hs, hb, hc⟩
  · exact .inl (by simp)
  · refine .inr ⟨b, off, rfl, hs, hb, fun i x hx => hc i x ?_⟩
    rw [List.getElem?_take] at hx
    split at hx
    · exact hx
    · simp at hx

def hasDir (ns : List Nd) (l : List UInt8) : Bool := pathOk l && dirAt ns (cutS l).dropLast
def DirPost (ns : List Nd) (b : Key → Nat) (l : List UInt8) (w : World) (e : Ending) (w' : World) : Prop :=
  (if hasDir ns l = true then e = .returned (.tuple #[.pointer (some ⟨b (cutS l).dropLast, 0, none⟩), txt (nameOf (cutS l))]) else e = .returned (.tuple #[.pointer none, txt []])) ∧ New w w'

set_option maxRecDepth 4000 in
set_option maxHeartbeats 1000000 in
theorem nodeDirOf {S : Nat → Prop} {w : World} {b : Key → Nat} {u kv : Key → Value} {ns : List Nd} (F : Forest S w b u kv ns) (G : Good ns) (hl : ns.length ≤ 1000) (l : List UInt8) (hs : l.length ≤ 1048576) :
    Calls Tryd.prog 70 #[.pointer (some ⟨b [], 0, none⟩), txt l] w (DirPost ns b l w) := by
  have hpp := pathParts ⟨l.toArray⟩ w (by show l.toArray.size ≤ _; simp; omega)
  rw [show (⟨l.toArray⟩ : ByteArray).data.toList = l from rfl] at hpp
  have hroot : hasKey ns [] = true := by
    obtain ⟨x, hx, e, -⟩ := G.root
    exact hasKey_iff.2 ⟨x, hx, e⟩
  have hat := fun (R : Nat → Prop) (W : World) (n : New w W) (ps : List (List UInt8)) (v : Value) (h : Texts R W v ps) => nodeAt (F.new n) G hl hroot ps v h
  have Hat := Lib.hid hat
  have hcs := fun (W : World) (n : New w W) (x : Nd) (hx : x ∈ ns) => ((F.new n).cells hx).2.1
  have Hcs := Lib.hid hcs
  have HG := Lib.hid G
  unfold txt
  have Hpp := Lib.hid hpp
  clear hat hcs hpp hroot G F
  rcases hok : pathOk l with _ | _
  · have hd : hasDir ns l = false := by unfold hasDir; rw [hok]; rfl
    have Hd := Lib.hid hd
    have hp0 := partsOf_bad hok
    have Hp0 := Lib.hid hp0
    clear hd hok hp0
    go_enter Tryd.func70, Tryd.ntmps70
    go_wp2_with fail
    refine Hpp.out.mono ?_
    rintro e w1 ⟨v, rfl, o1, n1⟩
    rw [Hp0.out] at o1
    obtain ⟨a, c, rfl, -⟩ := Row.shape o1
    clear o1
    simp only [List.length_nil]
    go_wp2_with fail
    go_ret2
    exact ⟨by rw [Hd.out]; rfl, n1⟩
  · have hp0 : partsOf l = cutS l := by simp [partsOf, hok]
    have Hp0 := Lib.hid hp0
    obtain ⟨m, hm⟩ : ∃ m, (cutS l).length = m + 1 := ⟨(cutS l).length - 1, by have := cutS_pos l; omega⟩
    have hlast : (cutS l)[m]? = some (nameOf (cutS l)) := by
      unfold nameOf
      rw [List.getLast?_eq_getElem?, hm, Nat.add_sub_cancel]
      obtain ⟨x, hx⟩ := get_of (show m < (cutS l).length by omega)
      rw [hx]; rfl
    have hdl : (cutS l).take m = (cutS l).dropLast := by rw [List.dropLast_eq_take, hm, Nat.add_sub_cancel]
    have hm4 : m ≤ 4 := by
      simp only [pathOk, Bool.and_eq_true, decide_eq_true_eq] at hok
      omega
    have hhd : hasDir ns l = dirAt ns (cutS l).dropLast := by unfold hasDir; rw [hok]; rfl
    have Hhd := Lib.hid hhd
    have Hdl := Lib.hid hdl
    have Hlast := Lib.hid hlast
    have Hm := Lib.hid hm
    clear hp0 hlast hdl hok hhd hm
    go_enter Tryd.func70, Tryd.ntmps70
    go_wp2_with fail
    refine Hpp.out.mono ?_
    rintro e w1 ⟨v, rfl, o1, n1⟩
    rw [Hp0.out] at o1
    have t1 := o1.texts
    obtain ⟨a, c, rfl, s1, s2, -⟩ := Row.shape o1
    unfold maxLen at s2
    have t2 := t1.takeT m (by rw [Hm.out]; omega)
    rw [Hdl.out] at t2
    have hcall := Hat.out _ w1 n1 _ _ t2
    rw [List.nil_append] at hcall
    obtain ⟨bb, off, hab, hcl⟩ : ∃ bb off, a = some ⟨bb, off, none⟩ ∧ w1.cell? ⟨bb, off + m, none⟩ = some (txt (nameOf (cutS l))) := by
      obtain ⟨a', c', e, -, -, h4⟩ := t1
      simp only [Value.slice.injEq] at e
      obtain ⟨rfl, -, rfl⟩ := e
      rcases h4 with h4 | ⟨bb, off, rfl, -, -, hc⟩
      · exact absurd h4 (cutS_ne l)
      · exact ⟨bb, off, rfl, hc m _ Hlast.out⟩
    subst hab
    have Hcall := Lib.hid hcall
    rw [Hm.out] at s1 ⊢
    unfold txt at hcl
    generalize hN : nameOf (cutS l) = N at *
    have HN := Lib.hid hN
    generalize hK : (cutS l).dropLast = K at *
    have HK := Lib.hid hK
    clear hcall t1 t2 o1 hN hK
    have hsub : ((m + 1 : Nat) : Int) - 1 = (m : Int) := by omega
    rcases hdd : dirAt ns K with _ | _
    · have Hdd := Lib.hid hdd
      rcases hhk : hasKey ns K with _ | _
      · rw [ptrAt_not hhk] at Hcall
        clear hhk hdd
        go_wp2_with fail
        refine Hcall.out.mono ?_
        rintro e w2 ⟨rfl, rfl⟩
        go_wp2_with fail
        go_ret2
        exact ⟨by rw [Hhd.out, HK.out, Hdd.out]; rfl, n1⟩
      · obtain ⟨x, hx, ex⟩ := hasKey_iff.1 hhk
        have hdx : x.dir = false := by
          have := HG.out.dir_of hx
          rw [ex, hdd] at this
          exact this.symm
        have hc1 := Hcs.out w1 n1 x hx
        rw [hdx, ex] at hc1
        rw [ptrAt_has hhk] at Hcall
        clear hhk hdd hdx hx ex
        go_wp2_with fail
        refine Hcall.out.mono ?_
        rintro e w2 ⟨rfl, rfl⟩
        go_wp2_with fail
        go_ret2
        exact ⟨by rw [Hhd.out, HK.out, Hdd.out]; rfl, n1⟩
    · have Hdd := Lib.hid hdd
      obtain ⟨x, hx, ex, hdx⟩ := dirAt_has hdd
      have hhk : hasKey ns K = true := hasKey_iff.2 ⟨x, hx, ex⟩
      have hc1 := Hcs.out w1 n1 x hx
      rw [hdx, ex] at hc1
      rw [ptrAt_has hhk] at Hcall
      clear hhk hdd hdx hx ex
      go_wp2_with fail
      refine Hcall.out.mono ?_
      rintro e w2 ⟨rfl, rfl⟩
      go_wp2_with fail
      go_quiet (fail)
      go_wp2_with fail
      go_ret2
      exact ⟨by rw [Hhd.out, HK.out, Hdd.out]; exact (by rw [HN.out]; rfl), by first | exact n1.drewN _ | exact n1.drew | exact n1⟩

def FindPost (ns : List Nd) (b : Key → Nat) (l : List UInt8) (w : World) (e : Ending) (w' : World) : Prop :=
  e = .returned (if pathOk l = true then ptrAt ns b (cutS l) else .pointer none) ∧ New w w'

set_option maxRecDepth 4000 in
set_option maxHeartbeats 1000000 in
theorem nodeFind {S : Nat → Prop} {w : World} {b : Key → Nat} {u kv : Key → Value} {ns : List Nd} (F : Forest S w b u kv ns) (G : Good ns) (hl : ns.length ≤ 1000) (l : List UInt8) (hs : l.length ≤ 1048576) :
    Calls Tryd.prog 41 #[.pointer (some ⟨b [], 0, none⟩), txt l] w (FindPost ns b l w) := by
  have hdo := nodeDirOf F G hl l hs
  have hat := fun (R : Nat → Prop) (W : World) (n : New w W) (k : Key) (hk : hasKey ns k = true) (ps : List (List UInt8)) (v : Value) (h : Texts R W v ps) => nodeAt (F.new n) G hl hk ps v h
  have Hat := Lib.hid hat
  have HG := Lib.hid G
  unfold DirPost at hdo
  unfold txt at hdo ⊢
  rcases hd : hasDir ns l with _ | _
  · have hfin : (if pathOk l = true then ptrAt ns b (cutS l) else .pointer none) = .pointer none := by
      split
      · rename_i hok
        refine ptrAt_not ?_
        rcases hq : hasKey ns (cutS l) with _ | _
        · rfl
        · have := HG.out.dirs (cutS_ne l) hq
          unfold hasDir at hd
          rw [hok, this] at hd
          cases hd
      · rfl
    rw [hd] at hdo
    have Hdo := Lib.hid hdo
    have Hfin := Lib.hid hfin
    clear hd hdo hfin hat F G
    go_enter Tryd.func41, Tryd.ntmps41
    go_wp2_with fail
    refine Hdo.out.mono ?_
    rintro e w1 ⟨rfl, n1⟩
    go_wp2_with fail
    go_ret
    exact ⟨by rw [Hfin.out]; rfl, n1⟩
  · have hfin : (if pathOk l = true then ptrAt ns b (cutS l) else .pointer none) = ptrAt ns b ((cutS l).dropLast ++ [nameOf (cutS l)]) := by
      have hok : pathOk l = true := by
        unfold hasDir at hd
        rw [Bool.and_eq_true] at hd
        exact hd.1
      rw [if_pos hok, ← key_split (cutS_ne l)]
    have hda : hasKey ns (cutS l).dropLast = true := by
      unfold hasDir at hd
      rw [Bool.and_eq_true] at hd
      obtain ⟨x, hx, e, -⟩ := dirAt_has hd.2
      exact hasKey_iff.2 ⟨x, hx, e⟩
    rw [hd] at hdo
    have Hdo := Lib.hid hdo
    have Hfin := Lib.hid hfin
    have Hda := Lib.hid hda
    clear hd hdo hfin hat hda F G
    generalize hN : nameOf (cutS l) = N at *
    generalize hK : (cutS l).dropLast = K at *
    clear hN hK
    go_enter Tryd.func41, Tryd.ntmps41
    go_wp2_with fail
    refine Hdo.out.mono ?_
    rintro e w1 ⟨rfl, n1⟩
    have n2 : New w (w1.alloc (.cells #[.string ⟨N.toArray⟩] 9)) := n1.alloc _
    have ht : Texts Any (w1.alloc (.cells #[.string ⟨N.toArray⟩] 9)) (.slice (some ⟨w1.heap.size, 0, none⟩) 1 1) [N] := by
      refine ⟨_, 1, rfl, Nat.le_refl _, by unfold maxLen; omega, .inr ⟨_, 0, rfl, trivial, by simp, fun i x hx => ?_⟩⟩
      rcases i with _ | i
      · simp at hx; subst hx
        rw [Nat.zero_add, cell_alloc]; rfl
      · simp at hx
    have hcall := Hat.out _ _ n2 K Hda.out [N] _ ht
    have Hcall := Lib.hid hcall
    clear hcall ht
    go_wp2_with fail
    refine Hcall.out.mono ?_
    rintro e w2 ⟨rfl, rfl⟩
    generalize hQ : ptrAt ns b (K ++ [N]) = Q at *
    go_wp2_with fail
    go_ret
    exact ⟨by rw [Hfin.out]; first | rfl | (rw [hQ]; rfl), n2⟩
end Go.Proofs.YtkffejommncinaaDoor
