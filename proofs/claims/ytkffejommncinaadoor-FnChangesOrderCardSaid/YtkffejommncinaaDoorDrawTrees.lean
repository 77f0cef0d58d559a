/- The draws of trees: l91At, DrawTreeValid, DrawTreeFind, DrawTreeList. -/
import Derived.Test.YtkffejommncinaaDoorDrawTree
import Derived.Test.YtkffejommncinaaDoorTextsA
namespace Go.Proofs.YtkffejommncinaaDoor
open Go.RowKit

theorem small_all {os : List ItemR} (h : ∀ o ∈ os, smallI o) : ∀ o ∈ os, o.size ≤ 1048576 := fun o ho => by
  obtain ⟨h1, h2⟩ := h o ho
  unfold ItemR.size; omega
theorem parent_small (l : List UInt8) : (parentOf l).length ≤ l.length := by
  unfold parentOf; rw [List.length_take]; omega

def TreeDrawn (w : World) (e : Ending) (w' : World) : Prop :=
  ∃ v os, e = .returned v ∧ (os.length ≤ 9 ∧ ∀ o ∈ os, smallI o) ∧ OwnItems (fun j => w.heap.size ≤ j) w' v os ∧ New w w'

def AtPost (g m : Nat) (w : World) (e : Ending) (w' : World) : Prop :=
  ∃ l, e = .returned (txt l) ∧ l.length ≤ 100 ∧ Rd g w' (m + 4) ∧ Chg (fun k => k = g) w w'

set_option maxRecDepth 4000 in
set_option maxHeartbeats 400000 in
theorem l91At {S : Nat → Prop} (g m : Nat) (v : Value) (os : List ItemR) (w : World) (h : Rd g w m) (hm : m ≤ 600000) (hv : Items S w v os) (hS : ∀ j, S j → j ≠ g) (hl : os.length ≤ 20) (hsm : ∀ o ∈ os, smallI o) :
    Calls Tryd.prog 39 #[.pointer (some ⟨g, 0, none⟩), v] w (AtPost g m w) := by
  have h0 := hv
  obtain ⟨-, a, c, rfl, h1, h2, -⟩ := hv
  unfold maxLen at h2
  by_cases hz : os.length = 0
  · go_enter Tryd.func39, Tryd.ntmps39
    go_wp2_with fail
    refine (drawPath g m w h (by omega)).mono ?_
    rintro e w1 ⟨l, rfl, hll, hr, c1⟩
    unfold txt
    go_wp2_with fail
    go_ret
    exact ⟨l, rfl, hll, hr.mono (by omega), c1⟩
  · have hpos : (0 : Int) < (os.length : Int) := by omega
    go_enter Tryd.func39, Tryd.ntmps39
    go_wp2_with fail
    refine (pick g m 4 w h (by omega) (by omega) (by omega)).mono ?_
    rintro e w1 ⟨t, rfl, ht0, ht1, hr1, cc1⟩
    by_cases ht : 0 < t
    · go_wp2_with fail
      refine (pick g _ os.length w1 hr1 (by omega) (by omega) (by omega)).mono ?_
      rintro e w2 ⟨q, rfl, hq0, hq1, hr2, cc2⟩
      obtain ⟨k, rfl⟩ : ∃ k : Nat, q = k := ⟨q.toNat, by omega⟩
      obtain ⟨o, ho⟩ := get_of (show k < os.length by omega)
      have hv2 := Recs.chg h0 (cc1.trans cc2) (fun j _ hj e => hS j hj e)
      obtain ⟨b, off, c', u, e1, -, c0, -⟩ := Items.at hv2 ho
      simp only [Value.slice.injEq] at e1
      obtain ⟨rfl, -, rfl⟩ := e1
      have hol := (hsm o (List.mem_of_getElem? ho)).1
      have hcc := cc1.trans cc2
      unfold txt at c0
      clear ho hv2 cc1 cc2 h0
      go_wp2_with fail
      go_ret
      exact ⟨o.path, rfl, hol, hr2.mono (by omega), hcc⟩
    · go_wp2_with fail
      refine (drawPath g _ w1 hr1 (by omega)).mono ?_
      rintro e w2 ⟨l, rfl, hll, hr, c2⟩
      unfold txt
      go_wp2_with fail
      go_ret
      exact ⟨l, rfl, hll, hr.mono (by omega), cc1.trans c2⟩

def TreePathDrawn (w : World) (e : Ending) (w' : World) : Prop :=
  ∃ v os l, e = .returned (.tuple #[v, txt l]) ∧ (os.length ≤ 9 ∧ ∀ o ∈ os, smallI o) ∧ l.length ≤ 100 ∧ OwnItems (fun j => w.heap.size ≤ j) w' v os ∧ New w w'

set_option maxRecDepth 4000 in
set_option maxHeartbeats 400000 in
theorem drawTreeFind {S : Nat → Prop} (v : Value) (bs : List Int) (w : World) (h : Nums .u8 S w v bs) :
    Calls Tryd.prog 11 #[v] w (TreePathDrawn w) := by
  have hop := l6Open v bs w h
  have Hop := Lib.hid hop
  clear hop h
  go_enter Tryd.func11, Tryd.ntmps11
  go_wp2_with fail
  refine Hop.out.mono ?_
  rintro e w1 ⟨g, rfl, hg, hr, n1⟩
  have hgl := hr.lt
  go_wp2_with fail
  refine (l91Tree g 0 w1 hr (by omega)).mono ?_
  rintro e w2 ⟨v2, os, rfl, hs, o2, hr2, c2⟩
  obtain ⟨a, c, rfl, -⟩ := o2.shape
  have z1 := n1.size
  go_wp2_with fail
  refine (l91At g _ _ os w2 hr2 (by omega) o2.recs (fun j hj e => by omega) (by omega) hs.2).mono ?_
  rintro e w3 ⟨l, rfl, hl, -, c3⟩
  unfold txt
  go_wp2_with fail
  go_ret2
  exact ⟨_, os, l, rfl, hs, hl, OwnRecs.mono (OwnRecs.chg o2 c3 (fun j _ hj e => by omega)) (fun j _ hj => by omega), n1.trans_chg (c2.trans c3) (fun k hk e => by omega)⟩

end Go.Proofs.YtkffejommncinaaDoor
