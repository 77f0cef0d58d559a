/- The draws of holds: DrawHoldTags, DrawHoldPut, DrawHoldDrop. -/
import Derived.Test.YtapobonfnjgnoaaDrawHold
namespace Go.Proofs.Ytapobonfnjgnoaa
open Go.RowKit

def snaps2 : List (List UInt8) := [[115], [116], [117], [118], [120]]
def snaps3 : List (List UInt8) := [[115], [116], [119], [118], [83]]
def tags3 : List (List UInt8) := [[106, 111, 98], [108, 97, 119], [110, 101, 119]]

def DrawnTags (w : World) (e : Ending) (w' : World) : Prop :=
  ∃ v os s, e = .returned (.tuple #[v, .string ⟨(s : List UInt8).toArray⟩]) ∧ s.length ≤ 100 ∧ os.length ≤ 8 ∧ (∀ o ∈ os, Hund o) ∧ Holds Any w' v os ∧ New w w'
def DrawnHold (w : World) (e : Ending) (w' : World) : Prop :=
  ∃ v os x, e = .returned (.tuple #[v, .agg #[.string ⟨(HoldR.snap x).toArray⟩, .string ⟨x.tag.toArray⟩]]) ∧ Hund x ∧ os.length ≤ 8 ∧ (∀ o ∈ os, Hund o) ∧ Holds Any w' v os ∧ New w w'

set_option maxRecDepth 4000 in
set_option maxHeartbeats 1000000 in
theorem drawHoldTags {S : Nat → Prop} (v : Value) (bs : List Int) (w : World) (h : Nums .u8 S w v bs) :
    Calls Try.prog 17 #[v] w (DrawnTags w) := by
  have Hop := Lib.hid (l6Open v bs w h)
  have Hof := Lib.hid drawOf
  clear h
  go_enter Try.func17, Try.ntmps17
  go_wp2_with fail
  refine Hop.out.mono ?_
  rintro e w1 ⟨g, rfl, hg, hr, n1⟩
  go_wp2_with fail
  refine (l92Holds g 0 w1 hr (by omega)).mono ?_
  rintro e w2 ⟨v2, os, rfl, hl, hund, ho, hr2, c2⟩
  have hgl := hr.lt
  have z1 := n1.size
  have z2 := c2.size
  have Hund := Lib.hid hund
  clear hund
  obtain ⟨a2, cc2, rfl, -⟩ := ho.shape
  go_wp2_with fail
  refine (Hof.out g _ 5 w2.heap.size (w2.alloc (.cells (snaps2.map txt).toArray 9)) (hr2.new ((New.refl _).alloc _)) (by omega) (by omega) (by omega) (by omega) (lit_cells w2 snaps2 _ (by decide))).mono ?_
  rintro e w3 ⟨l, rfl, hll, hr3, c3⟩
  have nc : Chg (fun j => j = g) w2 w3 := (((New.refl w2).alloc (.cells (snaps2.map txt).toArray 9)).chg _).trans c3
  have ho3 := OwnRecs.chg ho nc (fun j _ hj e => by omega)
  have n3 : New w w3 := n1.trans_chg (c2.trans nc) (fun k hk e => by omega)
  unfold txt
  go_wp2_with fail
  go_ret2
  exact ⟨_, os, l, rfl, hll, hl, Hund.out, (OwnRecs.recs ho3).mono (fun _ _ _ => trivial), n3⟩

set_option maxRecDepth 4000 in
set_option maxHeartbeats 2000000 in
theorem drawHoldPut {S : Nat → Prop} (v : Value) (bs : List Int) (w : World) (h : Nums .u8 S w v bs) :
    Calls Try.prog 10 #[v] w (DrawnHold w) := by
  have n0 : New w (w.alloc (.cells #[.string ⟨#[]⟩, .string ⟨#[]⟩] 25)) := (New.refl w).alloc _
  have hB : (w.alloc (.cells #[.string ⟨#[]⟩, .string ⟨#[]⟩] 25)).heap[w.heap.size]? = some (.cells #[.string ⟨#[]⟩, .string ⟨#[]⟩] 25) := heap_alloc_new w _
  have Hop := Lib.hid (l6Open v bs _ (h.new n0))
  have Hof := Lib.hid drawOf
  have N0 := Lib.hid n0
  have HB := Lib.hid hB
  have z00 : w.heap.size < (w.alloc (.cells #[.string ⟨#[]⟩, .string ⟨#[]⟩] 25)).heap.size := by simp
  clear n0 hB h
  go_enter Try.func10, Try.ntmps10
  go_wp2_with fail
  refine Hop.out.mono ?_
  rintro e w1 ⟨g, rfl, hg, hr, n1⟩
  go_wp2_with fail
  refine (l92Holds g 0 w1 hr (by omega)).mono ?_
  rintro e w2 ⟨v2, os, rfl, hl, hund, ho, hr2, c2⟩
  have hgl := hr.lt
  have z1 := n1.size
  have z2 := c2.size
  have Hund := Lib.hid hund
  clear hund
  obtain ⟨a2, cc2, rfl, -⟩ := ho.shape
  go_wp2_with fail
  refine (Hof.out g _ 5 w2.heap.size (w2.alloc (.cells (snaps3.map txt).toArray 9)) (hr2.new ((New.refl _).alloc _)) (by omega) (by omega) (by omega) (by omega) (lit_cells w2 snaps3 _ (by decide))).mono ?_
  rintro e w3 ⟨l, rfl, hll, hr3, c3⟩
  have nc : Chg (fun j => j = g) w2 w3 := (((New.refl w2).alloc (.cells (snaps3.map txt).toArray 9)).chg _).trans c3
  have z3 := nc.size
  unfold txt
  go_wp2_with fail
  refine (Hof.out g _ 3 w3.heap.size (w3.alloc (.cells (tags3.map txt).toArray 9)) (hr3.new ((New.refl _).alloc _)) (by omega) (by omega) (by omega) (by omega) (lit_cells w3 tags3 _ (by decide))).mono ?_
  rintro e w4 ⟨l4, rfl, hl4, hr4, c4⟩
  have nc4 : Chg (fun j => j = g) w3 w4 := (((New.refl w3).alloc (.cells (tags3.map txt).toArray 9)).chg _).trans c4
  have ho4 := (OwnRecs.chg (OwnRecs.chg ho nc (fun j _ hj e => by omega)) nc4 (fun j _ hj e => by omega))
  have n4 : New w w4 := (N0.out.trans n1).trans_chg ((c2.trans nc).trans nc4) (fun k hk e => by omega)
  have hB4 := nc4.heap (nc.heap (c2.heap (n1.heap HB.out) (fun e => by omega)) (fun e => by omega)) (fun e => by omega)
  have c10 : w4.cell? ⟨w.heap.size, 0, none⟩ = some (.string ⟨#[]⟩) := by simp [World.cell?, hB4]
  have c11 : w4.cell? ⟨w.heap.size, 1, none⟩ = some (.string ⟨#[]⟩) := by simp [World.cell?, hB4]
  have f10 : w4.frozen? ⟨w.heap.size, 0, none⟩ = false := by simp [World.frozen?, hB4]
  have f11 : w4.frozen? ⟨w.heap.size, 1, none⟩ = false := by simp [World.frozen?, hB4]
  generalize hgb : w.heap.size = gb at *
  clear hB4 c4 c3 nc nc4 c2 n1 hr hr2 hr3 hr4
  unfold txt
  go_wp2_with fail
  have cs := set2H w4 gb (.string ⟨l.toArray⟩) (.string ⟨l4.toArray⟩)
  refine bodyPost_ret (v := .tuple #[.slice a2 os.length cc2, .agg #[.string ⟨l.toArray⟩, .string ⟨l4.toArray⟩]]) (by simp [results, Try.results10, go_sem, c10, c11]) rfl ?_
  exact ⟨_, os, ⟨l, l4⟩, rfl, ⟨hll, hl4⟩, hl, Hund.out, (OwnRecs.recs (OwnRecs.chg ho4 cs (fun j _ hj e => by omega))).mono (fun _ _ _ => trivial), n4.trans_chg cs (fun j hj e => by omega)⟩

set_option maxRecDepth 4000 in
set_option maxHeartbeats 2000000 in
theorem drawHoldDrop {S : Nat → Prop} (v : Value) (bs : List Int) (w : World) (h : Nums .u8 S w v bs) :
    Calls Try.prog 21 #[v] w (DrawnHold w) := by
  have n0 : New w (w.alloc (.cells #[.string ⟨#[]⟩, .string ⟨#[]⟩] 25)) := (New.refl w).alloc _
  have hB : (w.alloc (.cells #[.string ⟨#[]⟩, .string ⟨#[]⟩] 25)).heap[w.heap.size]? = some (.cells #[.string ⟨#[]⟩, .string ⟨#[]⟩] 25) := heap_alloc_new w _
  have Hop := Lib.hid (l6Open v bs _ (h.new n0))
  have N0 := Lib.hid n0
  have HB := Lib.hid hB
  have z00 : w.heap.size < (w.alloc (.cells #[.string ⟨#[]⟩, .string ⟨#[]⟩] 25)).heap.size := by simp
  clear n0 hB h
  go_enter Try.func21, Try.ntmps21
  go_wp2_with fail
  refine Hop.out.mono ?_
  rintro e w1 ⟨g, rfl, hg, hr, n1⟩
  go_wp2_with fail
  refine (l92Holds g 0 w1 hr (by omega)).mono ?_
  rintro e w2 ⟨v2, os, rfl, hl, hund, ho, hr2, c2⟩
  have hgl := hr.lt
  have z1 := n1.size
  have z2 := c2.size
  have Hund := Lib.hid hund
  obtain ⟨a2, cc2, rfl, -⟩ := ho.shape
  have n2 : New w w2 := (N0.out.trans n1).trans_chg c2 (fun k hk e => by omega)
  have HB2 := Lib.hid (c2.heap (n1.heap HB.out) (fun e => by omega))
  generalize hgb : w.heap.size = gb at *
  clear hund c2 n1 hr
  by_cases h0 : os.length = 0
  · have hnil : os = [] := List.eq_nil_of_length_eq_zero h0
    subst hnil
    have hB2 := HB2.out
    have c10 : w2.cell? ⟨gb, 0, none⟩ = some (.string ⟨#[]⟩) := by simp [World.cell?, hB2]
    have c11 : w2.cell? ⟨gb, 1, none⟩ = some (.string ⟨#[]⟩) := by simp [World.cell?, hB2]
    have f10 : w2.frozen? ⟨gb, 0, none⟩ = false := by simp [World.frozen?, hB2]
    have f11 : w2.frozen? ⟨gb, 1, none⟩ = false := by simp [World.frozen?, hB2]
    clear h0 hB2
    go_wp2_with fail
    have cs := set2H w2 gb (.string ⟨#[115]⟩) (.string ⟨#[106, 111, 98]⟩)
    refine bodyPost_ret (v := .tuple #[.slice a2 0 cc2, .agg #[.string ⟨#[115]⟩, .string ⟨#[106, 111, 98]⟩]]) (by simp [results, Try.results21, go_sem, c10, c11]) rfl ?_
    exact ⟨_, [], ⟨[115], [106, 111, 98]⟩, rfl, ⟨by decide, by decide⟩, hl, Hund.out, (OwnRecs.recs (OwnRecs.chg ho cs (fun j _ hj e => by omega))).mono (fun _ _ _ => trivial), n2.trans_chg cs (fun j hj e => by omega)⟩
  · have h0' : (0 : Int) < (os.length : Int) := by omega
    have hne : ¬ (os = []) := fun e => h0 (by rw [e]; rfl)
    have H1L := Lib.hid (show (1 : Int) ≤ (os.length : Int) by omega)
    clear h0
    go_wp2_with fail
    refine (pick g _ 4 w2 hr2 (by omega) (by omega) (by omega)).mono ?_
    rintro e w3 ⟨r3, rfl, hr30, hr31, hr3, c3⟩
    have z3 := c3.size
    have ho3 := OwnRecs.chg ho c3 (fun j _ hj e => by omega)
    have n3 := n2.trans_chg c3 (fun k hk e => by omega)
    have HB3 := Lib.hid (c3.heap HB2.out (fun e => by omega))
    by_cases hq : 0 < r3
    · have hqd : decide (0 < r3) = true := by simp [hq]
      go_wp2_with fail
      have hr3' : Rd g w3.drew (0 + 100 + 1) := hr3.new (New.refl w3).drew
      have ho3' : OwnHolds (fun j => w1.heap.size ≤ j) w3.drew (.slice a2 os.length cc2) os := OwnRecs.new ho3 (New.refl w3).drew
      have HB3' := Lib.hid (show w3.drew.heap[gb]? = _ from HB3.out)
      have n3' : New w w3.drew := n3.drew
      clear ho ho3 hr2 hr3 c3 HB3 HB2 n2 n3
      go_region_with (go_at_call 45; refine (pick g _ os.length _ hr3' (by omega) H1L.out (by omega)).mono ?_; rintro e w4 ⟨r5, rfl, hr50, hr51, hr4, c4⟩; obtain ⟨t, rfl⟩ : ∃ t : Nat, r5 = t := ⟨r5.toNat, by omega⟩; have ho4 := OwnRecs.chg ho3' c4 (fun j _ hj e => by omega); obtain ⟨o, hto⟩ := get_of (xs := os) (k := t) (by omega); obtain ⟨b, off, ch, e1, -, k0, k1, kl0, kl1⟩ := Holds.at (OwnRecs.recs ho4) hto; simp only [Value.slice.injEq] at e1; obtain ⟨rfl, -, rfl⟩ := e1; unfold txt at k0 k1; have hB4 := c4.heap HB3'.out (fun e => by omega); have c10 : w4.cell? ⟨gb, 0, none⟩ = some (.string ⟨#[]⟩) := (by simp [World.cell?, hB4]); have c11 : w4.cell? ⟨gb, 1, none⟩ = some (.string ⟨#[]⟩) := (by simp [World.cell?, hB4]); have f10 : w4.frozen? ⟨gb, 0, none⟩ = false := (by simp [World.frozen?, hB4]); have f11 : w4.frozen? ⟨gb, 1, none⟩ = false := (by simp [World.frozen?, hB4]); have Hto := Lib.hid hto; clear hto hB4)
      have cs := set2H w4 gb (.string ⟨o.snap.toArray⟩) (.string ⟨o.tag.toArray⟩)
      have n4 : New w w4 := n3'.trans_chg c4 (fun j hj e => by omega)
      have Ho4 := Lib.hid ((OwnRecs.recs (OwnRecs.chg ho4 cs (fun j _ hj e => by omega))).mono (T := Any) (fun _ _ _ => trivial))
      have N5 := Lib.hid (n4.trans_chg cs (fun j hj e => by omega))
      clear ho4 cs n4 c4 hr4 hr3' ho3' n3'
      go_wp2_with fail
      refine bodyPost_ret (v := .tuple #[.slice (some ⟨b, off, none⟩) os.length cc2, .agg #[.string ⟨o.snap.toArray⟩, .string ⟨o.tag.toArray⟩]]) (by simp [results, Try.results21, go_sem, c10, c11]) rfl ?_
      exact ⟨_, os, o, rfl, Hund.out o (List.mem_of_getElem? Hto.out), hl, Hund.out, Ho4.out, N5.out⟩
    · have hqd : decide (0 < r3) = false := by simp [hq]
      have hB3 := HB3.out
      have c10 : w3.cell? ⟨gb, 0, none⟩ = some (.string ⟨#[]⟩) := by simp [World.cell?, hB3]
      have c11 : w3.cell? ⟨gb, 1, none⟩ = some (.string ⟨#[]⟩) := by simp [World.cell?, hB3]
      have f10 : w3.frozen? ⟨gb, 0, none⟩ = false := by simp [World.frozen?, hB3]
      have f11 : w3.frozen? ⟨gb, 1, none⟩ = false := by simp [World.frozen?, hB3]
      clear hB3
      go_wp2_with fail
      have cs := set2H w3 gb (.string ⟨#[115]⟩) (.string ⟨#[106, 111, 98]⟩)
      refine bodyPost_ret (v := .tuple #[.slice a2 os.length cc2, .agg #[.string ⟨#[115]⟩, .string ⟨#[106, 111, 98]⟩]]) (by simp [results, Try.results21, go_sem, c10, c11]) rfl ?_
      exact ⟨_, os, ⟨[115], [106, 111, 98]⟩, rfl, ⟨by decide, by decide⟩, hl, Hund.out, (OwnRecs.recs (OwnRecs.chg ho3 cs (fun j _ hj e => by omega))).mono (fun _ _ _ => trivial), n3.trans_chg cs (fun j hj e => by omega)⟩
end Go.Proofs.Ytapobonfnjgnoaa
