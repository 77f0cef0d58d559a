/- What the file calls answer, in the two cases; the draws of files in stores. -/
import Derived.Test.YtfhnhggmoplmiaaFileSpec
import Derived.Test.YtfhnhggmoplmiaaStoreCalls
import Derived.Test.YtfhnhggmoplmiaaDrawFile
namespace Go.Proofs.Ytfhnhggmoplmiaa
open Go.RowKit

section
variable {w w' : World} {e : Ending} {os : List HeldR} {ks : List Int}
theorem fileSome {r : Option (List HeldR × List Int)} (hr : r = some (os, ks)) (h : FilePost r w e w') : ∃ v t, e = .returned (.tuple #[v, t, .bool true]) ∧ OwnHelds (fun j => w.heap.size ≤ j) w' v os ∧ Ints (fun j => w.heap.size ≤ j) w' t ks ∧ New w w' := by
  subst hr
  obtain ⟨v, t, B, h1, h2, h3, h4, h5⟩ := h
  exact ⟨v, t, h1, OwnRecs.mono h2 (fun j _ hj => by omega), h3.nums.mono (fun j _ hj => hj.1), h5⟩
theorem fileNone {r : Option (List HeldR × List Int)} (hr : r = none) (h : FilePost r w e w') : ∃ v t, e = .returned (.tuple #[v, t, .bool false]) ∧ OwnHelds (fun j => w.heap.size ≤ j) w' v [] ∧ Ints (fun j => w.heap.size ≤ j) w' t [] ∧ New w w' := by
  subst hr
  obtain ⟨v, t, B, h1, h2, h3, h4, h5⟩ := h
  exact ⟨v, t, h1, OwnRecs.mono h2 (fun j _ hj => by omega), h3.nums.mono (fun j _ hj => hj.1), h5⟩
theorem fileReadSome {r : Option (List HeldR × List Int)} (hr : r = some (os, ks)) (h : FileRead r w e w') : ∃ v t, e = .returned (.tuple #[v, t, .bool true]) ∧ Helds (fun j => w.heap.size ≤ j) w' v os ∧ Ints (fun j => w.heap.size ≤ j) w' t ks ∧ New w w' := by
  subst hr; exact h
theorem fileReadNone {r : Option (List HeldR × List Int)} (hr : r = none) (h : FileRead r w e w') : ∃ v t, e = .returned (.tuple #[v, t, .bool false]) ∧ Helds (fun j => w.heap.size ≤ j) w' v [] ∧ Ints (fun j => w.heap.size ≤ j) w' t [] ∧ New w w' := by
  subst hr; exact h
end

set_option maxRecDepth 4000 in
set_option maxHeartbeats 1000000 in
theorem drawFileStore {S : Nat → Prop} (v : Value) (bs : List Int) (w : World) (h : Nums .u8 S w v bs) :
    Calls Try.prog 30 #[v] w (DrawnBlock w) := by
  go_enter Try.func30, Try.ntmps30
  go_wp2_with fail
  refine (l6Open v bs w h).mono ?_
  rintro e w1 ⟨g, rfl, hg, hr, n1⟩
  go_wp2_with fail
  refine (l91Store g 0 w1 hr (by omega)).mono ?_
  rintro e w2 ⟨v2, os, rfl, ⟨hl, -⟩, ho, hr2, c2⟩
  have hgl := hr.lt
  have z1 := n1.size
  have z2 := c2.size
  obtain ⟨-, a, c, rfl, -⟩ := id ho
  go_wp2_with fail
  refine (l91File g _ w2 hr2 (by omega)).mono ?_
  rintro e w3 ⟨u, xs, rfl, hxs, hx, hr3, c3⟩
  have ho3 := (Recs.chg ho c3 (fun j _ hj e => by omega)).mono (T := fun j => w.heap.size ≤ j) (fun j _ hj => by omega)
  obtain ⟨au, cu, rfl, -, -⟩ := hx.shape
  go_wp2_with fail
  go_ret2
  exact ⟨_, os, _, xs, rfl, hl, ho3, hx.nums.mono (fun j _ hj => by omega), n1.trans_chg (c2.trans c3) (fun k hk e => by omega)⟩

set_option maxRecDepth 4000 in
set_option maxHeartbeats 2000000 in
theorem drawFileLoad {S : Nat → Prop} (v : Value) (bs : List Int) (w : World) (h : Nums .u8 S w v bs) :
    Calls Try.prog 24 #[v] w (DrawnBlock w) := by
  go_enter Try.func24, Try.ntmps24
  go_wp2_with fail
  refine (l6Open v bs w h).mono ?_
  rintro e w1 ⟨g, rfl, hg, hr, n1⟩
  go_wp2_with fail
  refine (l91Store g 0 w1 hr (by omega)).mono ?_
  rintro e w2 ⟨v2, os, rfl, ⟨hl, -⟩, ho, hr2, c2⟩
  have hgl := hr.lt
  have z1 := n1.size
  have z2 := c2.size
  obtain ⟨-, a, c, rfl, -⟩ := id ho
  go_wp2_with fail
  refine (l91File g _ w2 hr2 (by omega)).mono ?_
  rintro e w3 ⟨u, xs, rfl, hxs, hx, hr3, c3⟩
  have ho3 := Recs.chg ho c3 (fun j _ hj e => by omega)
  have z3 := c3.size
  have n3 := n1.trans_chg (c2.trans c3) (fun k hk e => by omega)
  obtain ⟨au, cu, rfl, -, -⟩ := hx.shape
  have hcall := specFileStore _ _ os xs _ ho3 hx.nums
  have Hcall := Lib.hid hcall
  clear hcall ho ho3 hx c2 c3 n1 h
  rcases hr : fileStoreH xs os with _ | ⟨os', ks⟩
  · have Hr := Lib.hid hr
    clear hr
    go_wp2_with fail
    refine (Hcall.out.mono fun e w2 h => fileReadNone Hr.out h).mono ?_
    rintro e w4 ⟨v4, t4, rfl, o4, i4, n4⟩
    have hr4 := hr3.new n4
    have z4 := n4.size
    clear o4 i4
    go_wp2_with fail
    refine (l91Store g _ w4 hr4 (by omega)).mono ?_
    rintro e w5 ⟨v5, os5, rfl, ⟨hl5, -⟩, ho5, hr5, c5⟩
    have z5 := c5.size
    obtain ⟨-, a5, c5', rfl, -⟩ := id ho5
    go_wp2_with fail
    go_ret2
    have ol := lit_ints w5 [1, 2] (by intro x hx; simp at hx; rcases hx with rfl | rfl <;> exact I64.mk (by omega) (by omega)) (by simp)
    have n6 : New w5 (w5.alloc (.cells #[.int .i64 1, .int .i64 2] 3)) := (New.refl _).alloc _
    exact ⟨_, os5, _, [1, 2], rfl, hl5, (Recs.new ho5 n6).mono (fun j _ hj => by omega), ol.nums.mono (fun j _ hj => by omega), ((n3.trans n4).trans_chg c5 (fun k hk e => by omega)).trans n6⟩
  · have Hr := Lib.hid hr
    have hl' := (storeOk_all (law_fileStore hr).1).1
    obtain ⟨hfo, hlk, -⟩ := law_fileMany hr
    have hkl : ks.length ≤ 4 := by
      have := cuts_count xs
      have := (fileOk_parts hfo).1
      omega
    clear hr hfo hlk
    go_wp2_with fail
    refine (Hcall.out.mono fun e w2 h => fileReadSome Hr.out h).mono ?_
    rintro e w4 ⟨v4, t4, rfl, o4, i4, n4⟩
    have hr4 := hr3.new n4
    have z4 := n4.size
    obtain ⟨-, a4, c4, rfl, -⟩ := id o4
    obtain ⟨b4, d4, rfl, y1, ⟨y2, -⟩, -, -⟩ := id i4
    unfold maxLen at y2
    go_wp2_with fail
    refine (pick g _ 6 _ hr4 (by omega) (by omega) (by omega)).mono ?_
    rintro e w5 ⟨t, rfl, ht0, ht1, hr5, c5⟩
    have o5 := Recs.chg o4 c5 (fun j _ hj e => by omega)
    have i5 := i4.chg c5 (fun j _ hj e => by omega)
    have n5 := (n3.trans n4).trans_chg c5 (fun k hk e => by omega)
    have z5 := c5.size
    clear o4 i4 c5 n3 n4 hr4
    by_cases hq : t = 0
    · subst hq
      have m6 : New w5 (w5.alloc (.cells #[] 3)) := (New.refl _).alloc _
      have M6 := Lib.hid m6
      clear m6
      go_wp2_with first
        | (at_builtin
           refine wpRow_append slInt _ _ rfl rfl (.slice (some ⟨w5.heap.size, 0, none⟩) 0 0) 0 [] rfl (Row.empty 3 1 w5) b4 ks.length d4 (ks.map (Value.int .i64)) rfl (Nums.src (i5.new M6.out)) (oneCells _ _) ?_ ?_ ?_
           · unfold maxLen; omega
           · omega
           intro v7 w7 o7 c7
           have n7 : New w5 w7 := M6.out.trans_chg c7 (fun j hj e => by have e' := own_some e; simp only at e'; omega)
           rw [Nat.zero_add, List.nil_append] at o7
           have o7' : OwnInts 3 (fun j => w5.heap.size ≤ j) w7 v7 ks := by
             refine ⟨o7.mono (fun j _ hj => ?_), i5.fits⟩
             rcases hj with hj | hj
             · have e' := own_some hj; simp only at e'; omega
             · simp at hj; omega
           have h7 := hr5.new n7
           have p7 := Recs.mono (Recs.new o5 n7) (T := fun j => g < j) (fun j _ hj => by omega)
           obtain ⟨a7, d7, rfl, -, -⟩ := o7'.shape
           clear o7 c7)
        | fail
      refine (l91Id g _ _ os' w7 h7 (by omega) p7 (by omega)).mono ?_
      rintro e w8 ⟨x, rfl, hx64, h8, c8⟩
      have z7 := n7.size
      have z8 := c8.size
      have o8 := o7'.old.chg c8 (fun j _ hj e => by omega)
      have p8 := Recs.chg (Recs.old (Recs.new o5 n7)) c8 (fun j _ hj e => by omega)
      have n8 := (n5.trans n7).trans_chg c8 (fun k hk e => by omega)
      have o5s := Recs.chg (Recs.new (Recs.old o5) n7) c8 (fun j _ hj e => by omega)
      clear o7' p7 c8 n7 n5 o5
      go_wp2_with (at_builtin; refine wpNums_append slInt _ _ rfl rfl _ ks x _ rfl o8 hx64 rfl (by omega) (by decide) ?_; intro v' w9 ho9 hc9)
      have hbl : ∀ j, (Value.slice a7 ks.length d7).ownBlock = some j → w5.heap.size ≤ j := fun j hj => (o8.lt j hj).2.1
      obtain ⟨a9, d9, e9, -, -⟩ := ho9.shape
      subst e9
      go_ret2
      exact ⟨_, os', _, ks ++ [x], rfl, hl', (Recs.chg o5s hc9 (fun j _ hj e => by have := hbl j e; omega)).mono (fun j _ hj => by omega), ho9.nums.mono (fun j _ hj => by
        rcases hj with hj | hj
        · have := hbl j hj; omega
        · omega), n8.trans_chg hc9 (fun j hj e => by have := hbl j e; omega)⟩
    · have hq' : (t == 0) = false := by simp [hq]
      go_wp2_with fail
      go_ret2
      exact ⟨_, os', _, ks, rfl, hl', o5.mono (fun j _ hj => by omega), i5.mono (fun j _ hj => by omega), n5⟩

set_option maxRecDepth 4000 in
theorem drawFileFree {S : Nat → Prop} (v : Value) (bs : List Int) (w : World) (h : Nums .u8 S w v bs) :
    Calls Try.prog 33 #[v] w (DrawnBlock w) := by
  go_enter Try.func33, Try.ntmps33
  go_wp2_with fail
  refine (drawFileLoad v bs w h).mono ?_
  rintro e w1 ⟨v1, os, u1, xs, rfl, hl, ho, hx, n1⟩
  obtain ⟨-, a, c, rfl, -⟩ := id ho
  obtain ⟨au, cu, rfl, -⟩ := id hx
  go_wp2_with fail
  go_ret2
  exact ⟨_, os, _, xs, rfl, hl, ho, hx, n1⟩
end Go.Proofs.Ytfhnhggmoplmiaa
