/- StoreKeep and StoreDrop: the reference's. -/
import Derived.Test.YtiakljmdongplaaStoreKeep
namespace Go.Proofs.Ytiakljmdongplaa
open Go.RowKit

theorem held_set2 {y : Int} : ∀ (os : List HeldR) {k : Nat} {o : HeldR}, os[k]? = some o → (heldFlds os).set (k * 3 + 2) (.int y) = heldFlds (os.set k { o with uses := y })
  | [], _, _, h => by simp at h
  | a :: os, 0, o, h => by
    obtain rfl : a = o := by simpa using h
    simp [heldFlds, HeldR.flds]
  | a :: os, k + 1, o, h => by
    have ih := held_set2 (y := y) os (k := k) (o := o) (by simpa using h)
    simp only [heldFlds] at ih ⊢
    rw [List.flatMap_cons, List.set_cons_succ, List.flatMap_cons, ← ih, show (k + 1) * 3 + 2 = (k * 3 + 2) + 3 by omega]
    rfl

def NoneAt (w : World) (e : Ending) (w' : World) : Prop :=
  ∃ v, e = .returned (.tuple #[v, .bool false]) ∧ OwnHelds (fun j => w.heap.size ≤ j) w' v [] ∧ New w w'
theorem NoneAt.keep {r : Option (List HeldR)} (hr : r = none) {w : World} {e : Ending} {w' : World} (h : NoneAt w e w') : KeepPost r w e w' := by
  subst hr; exact h
theorem none_made {w w1 : World} (n : New w w1) : NoneAt w (.returned (.tuple #[.slice (some ⟨w1.heap.size, 0, none⟩) 0 0, .bool false])) (w1.alloc (.cells #[] 49)) :=
  ⟨_, rfl, (OwnRecs.empty 49 3 w1).mono (fun _ _ hj => Nat.le_trans n.size hj), n.alloc _⟩

set_option maxRecDepth 4000 in
set_option maxHeartbeats 2000000 in
theorem specStoreKeep {S : Nat → Prop} (v : Value) (os : List HeldR) (k : Int) (w : World) (h : Helds S w v os) :
    Calls Try.prog 15 #[v, .int .i64 k] w (KeepPost (keepH k os) w) := by
  have h0 := h
  have hat := specAt v os k w h
  have hok := specStoreValid v os w h
  obtain ⟨-, a, c, rfl, h1, h2, -⟩ := h
  unfold maxLen at h2
  have Hat := Lib.hid hat
  have Hok := Lib.hid hok
  clear hat hok
  rcases hs : storeOk os with _ | _
  · have hr : keepH k os = none := by rw [keepH, if_neg (by rw [hs]; simp)]
    rw [hs] at Hok
    have Hr := Lib.hid hr
    clear hr hs
    go_enter Try.func15, Try.ntmps15
    go_wp2_with fail
    refine Hat.out.mono ?_
    rintro e w1 ⟨rfl, rfl⟩
    go_wp2_with fail
    refine Hok.out.mono ?_
    rintro e w2 ⟨rfl, n2⟩
    go_wp2_with fail
    go_ret2
    exact NoneAt.keep Hr.out (none_made n2)
  · rw [hs] at Hok
    rcases atH_cases k os with ⟨ha, -⟩ | ⟨i, o, ha, ho, hid⟩
    · have hr : keepH k os = none := by rw [keepH, if_pos hs, ha]
      rw [ha, placeOf] at Hat
      have Hr := Lib.hid hr
      clear hr hs ha
      go_enter Try.func15, Try.ntmps15
      go_wp2_with fail
      refine Hat.out.mono ?_
      rintro e w1 ⟨rfl, rfl⟩
      go_wp2_with fail
      refine Hok.out.mono ?_
      rintro e w2 ⟨rfl, n2⟩
      go_wp2_with fail
      go_ret2
      exact NoneAt.keep Hr.out (none_made n2)
    · rw [ha, placeOf] at Hat
      have hil := (List.getElem?_eq_some_iff.1 ho).1
      have hoc := fun (W : World) (n : New w W) => Helds.at (Recs.new h0 n) ho
      have Hoc := Lib.hid hoc
      obtain ⟨s1, s2, s3⟩ := storeOk_all hs
      have hu := s2 o (List.mem_of_getElem? ho)
      by_cases hc : o.uses = 999
      · have hr : keepH k os = none := by rw [keepH, if_pos hs, ha]; simp only [ho, if_pos hc]
        have Hr := Lib.hid hr
        clear hr hs ha s1 s2 s3 hu ho hoc
        go_enter Try.func15, Try.ntmps15
        go_wp2_with fail
        refine Hat.out.mono ?_
        rintro e w1 ⟨rfl, rfl⟩
        go_wp2_with fail
        refine Hok.out.mono ?_
        rintro e w2 ⟨rfl, n2⟩
        obtain ⟨b, off, c', u, e1, hb, c0, c1, c2, i0, i2, r2⟩ := Hoc.out w2 n2
        simp only [Value.slice.injEq] at e1
        obtain ⟨rfl, -, rfl⟩ := e1
        clear r2
        go_wp2_with fail
        go_ret2
        exact NoneAt.keep Hr.out (none_made n2)
      · have hr : keepH k os = some (os.set i { o with uses := o.uses + 1 }) := by rw [keepH, if_pos hs, ha]; simp only [ho, if_neg hc]
        have Hr := Lib.hid hr
        have hb2 : (o.uses == 999) = false := by simpa using hc
        have hcopy := fun (W : World) (n : New w W) => specCopy (.slice a os.length c) os W (Recs.new h0 n) s1 (fun o ho => (blockOk_len (s2 o ho).2.2.2.2).2)
        have Hcopy := Lib.hid hcopy
        have hset := held_set2 (y := o.uses + 1) os ho
        have Hset := Lib.hid hset
        have hfl := (heldFlds_get ho).2.2
        have Hfl := Lib.hid hfl
        clear hr hs ha s1 s2 s3 ho hoc hcopy hset hfl hc
        go_enter Try.func15, Try.ntmps15
        go_wp2_with fail
        refine Hat.out.mono ?_
        rintro e w1 ⟨rfl, rfl⟩
        go_wp2_with fail
        refine Hok.out.mono ?_
        rintro e w2 ⟨rfl, n2⟩
        obtain ⟨b, off, c', u, e1, hb, c0, c1, c2, i0, i2, r2⟩ := Hoc.out w2 n2
        simp only [Value.slice.injEq] at e1
        obtain ⟨rfl, -, rfl⟩ := e1
        clear r2
        go_wp2_with fail
        refine (Hcopy.out w2 n2).mono ?_
        rintro e w3 ⟨v3, rfl, o3, n3⟩
        obtain ⟨b3, c3, u3, rfl, hS, hb3, k0, k1, -⟩ := OwnRecs.at o3 Hfl.out
        have o4 := OwnRecs.putInt (y := o.uses + 1) o3 Hfl.out (I64.mk (by omega) (by omega))
        rw [Hset.out] at o4
        have cs := chg_set1 w3 b3 (i * 3 + 2) (.int .i64 (o.uses + 1))
        obtain ⟨_, _, ev, x1, x2, -⟩ := OwnRecs.shape o3
        simp only [Value.slice.injEq] at ev
        obtain ⟨-, -, rfl⟩ := ev
        unfold maxLen at x2
        have k0' : u3 = .int .i64 o.uses := by
          obtain ⟨_, _, u4, ev, -, -, k4, -, ow⟩ := OwnRecs.at o3 Hfl.out
          simp only [Value.slice.injEq, Option.some.injEq, Addr.mk.injEq] at ev
          obtain ⟨⟨rfl, -, -⟩, -, rfl⟩ := ev
          rw [k0] at k4
          rw [Option.some.inj k4]
          exact ow.1
        subst k0'
        have n4 : New w (w3.setCell ⟨b3, i * 3 + 2, none⟩ (.int .i64 (o.uses + 1))) := (n2.trans n3).trans_chg cs (fun j hj e => by have := n2.size; have h' : w2.heap.size ≤ b3 := hS; omega)
        have o5 : OwnHelds (fun j => w.heap.size ≤ j) (w3.setCell ⟨b3, i * 3 + 2, none⟩ (.int .i64 (o.uses + 1))) (.slice (some ⟨b3, 0, none⟩) os.length c3) (os.set i { o with uses := o.uses + 1 }) := by
          unfold OwnHelds
          rw [List.length_set]
          exact o4.mono (fun j _ hj => by have := n2.size; omega)
        clear o3 o4 cs c0 c1 c2
        go_wp2_with fail
        go_ret2
        rw [Hr.out]
        exact ⟨_, rfl, o5, n4⟩
end Go.Proofs.Ytiakljmdongplaa
