/- The draw of a tree and an item: DrawTreePut (printed by wip/gen_drawput.py). -/
import Derived.Test.YtkffejommncinaaDoorDrawTrees
import Derived.Deep.RegionHeld3
namespace Go.Proofs.YtkffejommncinaaDoor
open Go.RowKit

def Pm (g mm : Nat) (w : World) (B : Nat) (W : World) (v : Value) (os : List ItemR) : Prop :=
  OwnItems (fun j => w.heap.size ≤ j ∧ j < B) W v os ∧ Rd g W mm ∧ Chg (fun k => k = g) w W ∧ B ≤ W.heap.size
theorem Pm.start {g mm : Nat} {w wr : World} {v : Value} {os : List ItemR} (h1 : OwnItems (fun j => w.heap.size ≤ j) wr v os) (h2 : Rd g wr mm) (h3 : Chg (fun k => k = g) w wr) : Pm g mm w wr.heap.size wr v os :=
  ⟨OwnRecs.old h1, h2, h3, Nat.le_refl _⟩
theorem Pm.new {g mm : Nat} {w : World} {B : Nat} {W W' : World} {v : Value} {os : List ItemR} (h : Pm g mm w B W v os) (n : New W W') : Pm g mm w B W' v os :=
  ⟨OwnRecs.new h.1 n, h.2.1.new n, h.2.2.1.trans (n.chg _), Nat.le_trans h.2.2.2 n.size⟩
theorem Pm.pick {g mm m2 : Nat} {w : World} {B : Nat} {W W' : World} {v : Value} {os : List ItemR} (h : Pm g mm w B W v os) (r : Rd g W' m2) (c : Chg (fun k => k = g) W W') (hg : g < w.heap.size) : Pm g m2 w B W' v os :=
  ⟨OwnRecs.chg h.1 c (fun j _ hj e => by omega), r, h.2.2.1.trans c, Nat.le_trans h.2.2.2 c.size⟩
theorem Pm.put {g mm : Nat} {w : World} {B : Nat} {W W' : World} {v : Value} {os : List ItemR} {gx : Nat} (h : Pm g mm w B W v os) (c : Chg (fun k => k = gx) W W') (hgx : B ≤ gx) (hg : g < w.heap.size) (hw : w.heap.size ≤ B) : Pm g mm w B W' v os :=
  ⟨OwnRecs.chg h.1 c (fun j _ hj e => by omega), h.2.1.chg c (fun j e => by omega), h.2.2.1.step c (fun j hj e => by omega), Nat.le_trans h.2.2.2 c.size⟩
theorem Pm.le {g mm m2 : Nat} {w : World} {B : Nat} {W : World} {v : Value} {os : List ItemR} (h : Pm g mm w B W v os) (hm : mm ≤ m2) : Pm g m2 w B W v os := ⟨h.1, h.2.1.mono hm, h.2.2⟩

/-- one more number -/
theorem pm_snoc {g mm m2 : Nat} {w : World} {B : Nat} {wr w6 w7 : World} {v : Value} {os : List ItemR} {gx : Nat} {l : List UInt8} {a5 a7 : Option Addr} {d5 d7 : Nat} {xs : List Int} {t : Int}
    (M : Pm g mm w B wr v os) (x1 : wr.heap[gx]? = some (.cells #[txt l, .bool false, .slice a5 xs.length d5] 28)) (x2 : OwnInts 3 (fun j => B ≤ j ∧ j ≠ gx) wr (.slice a5 xs.length d5) xs) (ht0 : 0 ≤ t) (ht1 : t < 100)
    (hg : g < w.heap.size) (zr : w.heap.size ≤ B) (hgx : B ≤ gx) (h6 : Rd g w6 m2) (c6 : Chg (fun k => k = g) (wr.drewN 1) w6)
    (q7 : Row 3 1 (fun k => Value.ownBlock (.slice a5 xs.length d5) = some k ∨ w6.heap.size < k) w7 (.slice a7 (xs.length + 1) d7) (xs.length + 1) (xs.map (Value.int .i64) ++ [.int .i64 (1 + t)]))
    (c7 : Chg (fun k => Value.ownBlock (.slice a5 xs.length d5) = some k) w6 w7) :
    XAt gx B l false (xs ++ [1 + t]) (w7.setCell ⟨gx, 2, none⟩ (.slice a7 (xs.length + 1) d7)) ∧ Pm g m2 w B (w7.setCell ⟨gx, 2, none⟩ (.slice a7 (xs.length + 1) d7)) v os := by
  have hown : ∀ j, Value.ownBlock (.slice a5 xs.length d5) = some j → B ≤ j ∧ j ≠ gx := fun j e => x2.1.2 j e
  have hn : Chg (fun k => k = g) wr w6 := ((New.refl wr).drewN 1).chg _ |>.trans c6
  have hlt : gx < wr.heap.size := (Array.getElem?_eq_some_iff.1 x1).1
  have hz := hn.size
  have g7 := c7.heap (hn.heap x1 (by omega)) (fun e => (hown gx e).2 rfl)
  have cs := chg_set1 w7 gx 2 (.slice a7 (xs.length + 1) d7)
  refine ⟨⟨.slice a7 (xs.length + 1) d7, by simp [World.setCell, Array.getElem?_modify, g7], ?_⟩, ?_⟩
  · have r : OwnInts 3 _ w7 (.slice a7 (xs.length + 1) d7) (xs ++ [1 + t]) := ⟨by
      rw [List.length_append, List.length_singleton, List.map_append]; exact q7, by
      intro x hx
      rcases List.mem_append.1 hx with hx | hx
      · exact x2.2 x hx
      · simp at hx; subst hx; exact I64.mk (by omega) (by omega)⟩
    refine (r.chg cs (fun j _ hj e => ?_)).mono (fun j _ hj => ?_)
    · rcases hj with hj | hj
      · exact (hown j hj).2 e
      · omega
    · rcases hj with hj | hj
      · exact hown j hj
      · have := M.2.2.2; omega
  · have M6 := M.pick h6 hn hg
    have M7 : Pm g m2 w B w7 v os := ⟨OwnRecs.chg M6.1 c7 (fun j _ hj e => by have := (hown j e).1; omega), M6.2.1.chg c7 (fun j e => by have := (hown j e).1; omega), M6.2.2.1.step c7 (fun j hj e => by have := (hown j e).1; omega), Nat.le_trans M6.2.2.2 c7.size⟩
    exact M7.put cs hgx hg zr
/-- the path anew -/
theorem pm_path {g mm : Nat} {w : World} {B : Nat} {W : World} {v : Value} {os : List ItemR} {gx : Nat} {l l' : List UInt8} {dd : Bool} {xs : List Int}
    (M : Pm g mm w B W v os) (X : XAt gx B l dd xs W) (hg : g < w.heap.size) (zr : w.heap.size ≤ B) (hgx : B ≤ gx) :
    XAt gx B l' dd xs (W.setCell ⟨gx, 0, none⟩ (.string ⟨l'.toArray⟩)) ∧ Pm g mm w B (W.setCell ⟨gx, 0, none⟩ (.string ⟨l'.toArray⟩)) v os := by
  obtain ⟨u, x1, x2⟩ := X
  have cs := chg_set1 W gx 0 (.string ⟨l'.toArray⟩)
  exact ⟨⟨u, by simp [World.setCell, Array.getElem?_modify, x1, txt], x2.chg cs (fun j _ hj e => hj.2 e)⟩, M.put cs hgx hg zr⟩
theorem lit_int5 (w : World) : OwnInts 3 (fun j => w.heap.size ≤ j) (w.alloc (.cells #[.int .i64 1, .int .i64 2, .int .i64 3, .int .i64 4, .int .i64 5] 3)) (.slice (some ⟨w.heap.size, 0, none⟩) 5 5) [1, 2, 3, 4, 5] := by
  refine ⟨⟨⟨by simp, .inr ⟨w.heap.size, 5, _, rfl, Nat.zero_le _, heap_alloc_new _ _, Nat.le_refl _, by unfold maxLen; omega, by simp, by simp⟩⟩, fun k hk => ?_⟩, fun x hx => by simp at hx; rcases hx with rfl | rfl | rfl | rfl | rfl <;> exact I64.mk (by omega) (by omega)⟩
  simp [Value.ownBlock] at hk; omega

theorem ids5 {g mm : Nat} {w : World} {B : Nat} {W : World} {v : Value} {os : List ItemR} {gx : Nat} {l : List UInt8} {dd : Bool} {u : Value}
    (M : Pm g mm w B W v os) (x1 : W.heap[gx]? = some (.cells #[txt l, .bool dd, u] 28)) (hg : g < w.heap.size) (zr : w.heap.size ≤ B) (hgx : B ≤ gx) :
    (((W.setCell ⟨gx, 2, none⟩ (.slice (some ⟨W.heap.size, 0, none⟩) 5 5)).alloc (.cells #[.int .i64 1, .int .i64 2, .int .i64 3, .int .i64 4, .int .i64 5] 3)).heap[gx]? = some (.cells #[txt l, .bool dd, .slice (some ⟨W.heap.size, 0, none⟩) 5 5] 28) ∧
      OwnInts 3 (fun j => B ≤ j ∧ j ≠ gx) ((W.setCell ⟨gx, 2, none⟩ (.slice (some ⟨W.heap.size, 0, none⟩) 5 5)).alloc (.cells #[.int .i64 1, .int .i64 2, .int .i64 3, .int .i64 4, .int .i64 5] 3)) (.slice (some ⟨W.heap.size, 0, none⟩) 5 5) [1, 2, 3, 4, 5]) ∧
    Pm g mm w B ((W.setCell ⟨gx, 2, none⟩ (.slice (some ⟨W.heap.size, 0, none⟩) 5 5)).alloc (.cells #[.int .i64 1, .int .i64 2, .int .i64 3, .int .i64 4, .int .i64 5] 3)) v os := by
  have hlt : gx < W.heap.size := (Array.getElem?_eq_some_iff.1 x1).1
  have cs := chg_set1 W gx 2 (.slice (some ⟨W.heap.size, 0, none⟩) 5 5)
  have hsz : (W.setCell ⟨gx, 2, none⟩ (.slice (some ⟨W.heap.size, 0, none⟩) 5 5)).heap.size = W.heap.size := by simp [World.setCell]
  have h2 := lit_int5 (W.setCell ⟨gx, 2, none⟩ (.slice (some ⟨W.heap.size, 0, none⟩) 5 5))
  rw [hsz] at h2
  refine ⟨⟨((New.refl _).alloc _).heap (by simp [World.setCell, Array.getElem?_modify, x1]), h2.mono (fun j _ hj => ?_)⟩, (M.put cs hgx hg zr).new ((New.refl _).alloc _)⟩
  have := M.2.2.2
  omega

def PutDrawn (w : World) (e : Ending) (w' : World) : Prop :=
  ∃ v os u o, e = .returned (.tuple #[v, .agg #[txt (ItemR.path o), .bool o.dir, u]]) ∧ (os.length ≤ 9 ∧ ∀ o ∈ os, smallI o) ∧ smallI o ∧ OwnItems (fun j => w.heap.size ≤ j) w' v os ∧ OwnInts 3 (fun j => w.heap.size ≤ j) w' u o.ids ∧ New w w'
theorem put_end {g mm : Nat} {w w1 : World} {B : Nat} {W : World} {v : Value} {os : List ItemR} {gx gb : Nat} {l : List UInt8} {dd : Bool} {xs : List Int} {u : Value}
    (hl : l.length ≤ 100) (hxl : xs.length ≤ 5) (M : Pm g mm w1 B W v os) (x2 : OwnInts 3 (fun j => B ≤ j ∧ j ≠ gx) W u xs) (hs : os.length ≤ 9) (hsB : Hid (∀ o ∈ os, smallI o)) (zw : w.heap.size ≤ g) (hgb : w.heap.size ≤ gb) (hgbw : gb < w1.heap.size)
    (hg : g < w1.heap.size) (zr : w1.heap.size ≤ B) (n : New w w1) :
    ∀ w7, Chg (fun k => k = gb) W w7 → PutDrawn w (.returned (.tuple #[v, .agg #[txt l, .bool dd, u]])) w7 := fun w7 c => by
  have z := n.size
  exact ⟨v, os, u, ⟨l, dd, xs⟩, rfl, ⟨hs, hsB.out⟩, ⟨hl, by show xs.length ≤ 10; omega⟩, OwnRecs.mono (OwnRecs.chg M.1 c (fun j _ hj e => by omega)) (fun j _ hj => by omega), (x2.chg c (fun j _ hj e => by omega)).mono (fun j _ hj => by omega), (n.trans_chg M.2.2.1 (fun k hk e => by omega)).trans_chg c (fun k hk e => by omega)⟩
def paths3 : List (List UInt8) := [[100], [97, 47, 122], [98, 47, 121], [97, 47, 120, 47, 114], [99, 47, 119]]

set_option maxRecDepth 4000 in
set_option maxHeartbeats 4000000 in
theorem drawTreePut {S : Nat → Prop} (v : Value) (bs : List Int) (w : World) (h : Nums .u8 S w v bs) :
    Calls Tryd.prog 17 #[v] w (PutDrawn w) := by
  have n0 : New w (w.alloc (.cells #[.string ⟨#[]⟩, .bool false, .slice none 0 0] 28)) := (New.refl w).alloc _
  have hB : (w.alloc (.cells #[.string ⟨#[]⟩, .bool false, .slice none 0 0] 28)).heap[w.heap.size]? = some (.cells #[.string ⟨#[]⟩, .bool false, .slice none 0 0] 28) := heap_alloc_new w _
  have hop := l6Open v bs _ (h.new n0)
  have Hop := Lib.hid hop
  have N0 := Lib.hid n0
  have HB := Lib.hid hB
  have z0 := n0.size
  have z00 : w.heap.size < (w.alloc (.cells #[.string ⟨#[]⟩, .bool false, .slice none 0 0] 28)).heap.size := by simp
  clear hop n0 hB h
  go_enter Tryd.func17, Tryd.ntmps17
  go_wp2_with fail
  refine Hop.out.mono ?_
  rintro e w1 ⟨g, rfl, hgn, hr, n1⟩
  have hg := hr.lt
  have z1 := n1.size
  have N1 := Lib.hid (N0.out.trans n1)
  have HBz := Lib.hid (n1.heap HB.out)
  generalize hgbe : w.heap.size = gb at *
  have hgb : w.heap.size ≤ gb := Nat.le_of_eq hgbe
  have hgbw : gb < w1.heap.size := by omega
  have hgbg : gb < g := by omega
  have zw : w.heap.size ≤ g := by omega
  clear HB N0 Hop n1 hgbe
  go_wp2_with fail
  refine (l91Tree g 0 w1 hr (by omega)).mono ?_
  rintro e w2 ⟨v2, os, rfl, ⟨hs, hsm⟩, o2, hr2, c2⟩
  have hsB := Lib.hid hsm
  obtain ⟨av, cv, rfl, -⟩ := o2.shape
  have M2 := Pm.start o2 hr2 c2
  have zr := c2.size
  go_wp2_with fail
  refine (l91At g _ _ os w2 hr2 (by omega) o2.recs (fun j hj e => by omega) (by omega) hsm).mono ?_
  rintro e w3 ⟨l, rfl, hl, hr3, c3⟩
  have M3 := M2.pick hr3 c3 hg
  generalize hBe : w2.heap.size = B at *
  clear M2 o2 hr2 c2 c3 hsm hBe
  unfold txt
  go_wp2_with fail
  refine (pick g _ 4 _ hr3 (by omega) (by omega) (by omega)).mono ?_
  rintro e w4 ⟨t4, rfl, ht40, ht41, hr4, c4⟩
  have M4 := M3.pick hr4 c4 hg
  have z4 := M4.2.2.2
  clear M3 hr3 c4 hr
  have XM : ∃ gx, gx = w4.heap.size + 1 ∧ B ≤ gx ∧ XAt gx B l (t4 == 0) [] ((w4.alloc (.cells #[] 3)).alloc (.cells #[.string ⟨l.toArray⟩, .bool (t4 == 0), .slice (some ⟨w4.heap.size, 0, none⟩) 0 0] 28)) ∧ Pm g 55 w1 B ((w4.alloc (.cells #[] 3)).alloc (.cells #[.string ⟨l.toArray⟩, .bool (t4 == 0), .slice (some ⟨w4.heap.size, 0, none⟩) 0 0] 28)) (.slice av os.length cv) os := by
    refine ⟨_, rfl, by omega, ⟨.slice (some ⟨w4.heap.size, 0, none⟩) 0 0, ?_, ?_⟩, (M4.new ((New.refl _).alloc _)).new ((New.refl _).alloc _)⟩
    · have h := heap_alloc_new (w4.alloc (.cells #[] 3)) (.cells #[.string ⟨l.toArray⟩, .bool (t4 == 0), .slice (some ⟨w4.heap.size, 0, none⟩) 0 0] 28)
      rw [World.size_alloc] at h
      exact h
    · have h1 := Row.empty 3 1 w4
      have h2 : OwnInts 3 _ _ _ [] := ⟨h1, by simp⟩
      exact (h2.new ((New.refl _).alloc _)).mono (fun j _ hj => by omega)
  have XM := Lib.hid XM
  clear M4 hr4
  go_upto_region 4 with fail
  obtain ⟨gx, hgxe, hgx, X, M⟩ := XM.out
  rw [← hgxe]
  generalize (t4 == 0) = dd at X M ⊢
  generalize ((w4.alloc (.cells #[] 3)).alloc (.cells #[.string ⟨l.toArray⟩, .bool dd, .slice (some ⟨w4.heap.size, 0, none⟩) 0 0] 28)) = W5 at X M ⊢
  have M5 := Lib.hid M
  have X5 := Lib.hid X
  clear XM X M
  go_wp2_with fail
  refine (pick g 55 2 W5 M5.out.2.1 (by omega) (by omega) (by omega)).mono ?_
  rintro e w6 ⟨t6, rfl, ht60, ht61, h6, c6⟩
  have M6 := Lib.hid (M5.out.pick h6 c6 hg)
  have X6 := Lib.hid (XAt.chg X5.out c6 (fun j hj => ⟨by omega, by omega⟩))
  have z6 := M6.out.2.2.2
  clear M5 X5 c6 hgxe ht40 ht41 z4
  go_upto_if 21 with fail
  go_cut [6] from 7 to 48 (fun s6 wx => s6 = .pointer (some ⟨gx, 0, none⟩) ∧ ∃ (l : List UInt8) (xs : List Int), l.length ≤ 100 ∧ xs.length ≤ 0 ∧ XAt gx B l dd xs wx ∧ Pm g 57 w1 B wx (.slice av os.length cv) os)
  case first =>
    by_cases ht : t6 = 0
    · subst ht
      have nl : New w6 (w6.alloc (.cells (paths3.map txt).toArray 9)) := (New.refl _).alloc _
      have M7 := Lib.hid (M6.out.new nl)
      have X7 := Lib.hid (X6.out.new nl)
      have hgz : w6.heap.size ≠ g := by omega
      clear M6 X6 nl
      go_wp2_with fail
      refine (drawOf g 56 5 w6.heap.size (w6.alloc (.cells (paths3.map txt).toArray 9)) (h6.new ((New.refl _).alloc _)) (by omega) (by omega) (by omega) hgz (lit_cells w6 paths3 _ (by decide))).mono ?_
      rintro e w8 ⟨l', rfl, hl', h8, c8⟩
      have M8 := M7.out.pick h8 c8 hg
      have X8 := XAt.chg X7.out c8 (fun j hj => ⟨by omega, by omega⟩)
      obtain ⟨u8, x1, x2⟩ := id X8
      obtain ⟨b0, -, -, f0, -, -⟩ := set3_cells x1
      have fin := pm_path (l' := l') M8 X8 hg zr hgx
      clear X8 x1 x2 M8 M7 X7 c8 h8
      unfold txt
      go_wp2_with fail
      go_meet
      case rel => exact ⟨rfl, l', [], hl', by simp, fin.1, fin.2⟩
    · have ht' : (t6 == 0) = false := by simp [ht]
      go_wp2_with fail
      go_meet
      case rel => exact ⟨rfl, l, [], hl, by simp, X6.out, M6.out.le (by omega)⟩
  case rest =>
    obtain ⟨rfl, l, xs, hl, hx0, X, M⟩ := hcut
    have hxl : xs.length ≤ 5 := by omega
    have X6 := Lib.hid X
    have M6 := Lib.hid M
    have zc := M.2.2.2
    clear X M
    rcases dd with _ | _
    · obtain ⟨u, x1, x2⟩ := X6.out
      obtain ⟨-, b1, -, -, -, -⟩ := set3_cells x1
      clear x1 x2
      go_wp2_with fail
      refine (pick g 57 3 wc M6.out.2.1 (by omega) (by omega) (by omega)).mono ?_
      rintro e wr ⟨t7, rfl, ht70, ht71, h7, c7⟩
      have X7 := Lib.hid (XAt.chg X6.out c7 (fun j hj => ⟨by omega, by omega⟩))
      have M7 := Lib.hid (M6.out.pick h7 c7 hg)
      have z7 := M7.out.2.2.2
      clear b1 X6 M6 h7 c7 zc
      go_upto_if 33 with fail
      go_cut [6] from 7 to 48 (fun s6 wx => s6 = .pointer (some ⟨gx, 0, none⟩) ∧ ∃ (xs : List Int), xs.length ≤ 5 ∧ XAt gx B l false xs wx ∧ Pm g 59 w1 B wx (.slice av os.length cv) os)
      case first =>
        by_cases ht : 0 < t7
        · obtain ⟨⟨u5, x1, x2⟩, M5⟩ := And.intro X7.out M7.out
          obtain ⟨a5, d5, rfl, s1, s2⟩ := x2.shape
          obtain ⟨b0, b1, b2, -, -, f2⟩ := set3_cells x1
          have X1 := Lib.hid x1
          have X2 := Lib.hid x2
          have M5 := Lib.hid M5
          clear X7 M7 x1 x2
          unfold maxLen at s2
          have k2d : (wr.drewN 1).cell? ⟨gx, 2, none⟩ = some (.slice a5 xs.length d5) := b2
          go_wp2_with fail
          refine wp_region_held_drew (S := (fun _ => True)) (by kernel_rfl) ?_ (fun hHeld => ?_)
          · exact trivial
          refine wpAnyH_take (i := 0) (v := ?_) (oi := ?_) ?hi_1 ?hs_1 ?hf_1 ?hr_1 ?hQ_1 ?hy_1 ?hS_1 ?h_1
          case hi_1 => (simp only [List.getElem?_toArray, List.getElem?_cons_zero] <;> rfl)
          case hs_1 => kernel_rfl
          case hf_1 => kernel_rfl
          case hr_1 => kernel_rfl
          case hQ_1 => exact fun _ _ _ h => h
          case hy_1 => (refine Or.inl ⟨by rfl, ?_⟩; intro w hSw; (try dsimp only at hSw); go_simp; try with_reducible rfl)
          case hS_1 => assumption
          try go_frame
          refine wpAnyH_take (i := 2) (v := ?_) (oi := ?_) ?hi_2 ?hs_2 ?hf_2 ?hr_2 ?hQ_2 ?hy_2 ?hS_2 ?h_2
          case hi_2 => (simp only [List.getElem?_toArray, List.getElem?_cons_zero, List.getElem?_cons_succ] <;> rfl)
          case hs_2 => kernel_rfl
          case hf_2 => kernel_rfl
          case hr_2 => kernel_rfl
          case hQ_2 => exact fun _ _ _ h => h
          case hy_2 => (refine Or.inl ⟨by rfl, ?_⟩; intro w hSw; (try dsimp only at hSw); go_simp; try with_reducible rfl)
          case hS_2 => assumption
          try go_frame
          refine wpAnyH_ready (rs := [1, 3]) (by kernel_rfl) (by simp) ?_
          refine (AllReadyH.cons (o := ?_) ?hi_3 (fun K hK => ?h_3) (AllReadyH.cons (o := ?_) ?hi_4 (fun K hK => ?h_4) AllReadyH.nil))
          case hi_3 => (simp only [List.getElem?_toArray, List.getElem?_cons_zero, List.getElem?_cons_succ] <;> rfl)
          case hi_4 => (simp only [List.getElem?_toArray, List.getElem?_cons_zero, List.getElem?_cons_succ] <;> rfl)
          · skip
            go_simp
            refine hK.out _ _ ?_ (fun hHeld => ?_)
            · exact trivial
            clear hK K
            try go_frame
            refine wpAnyH_ready (rs := [3]) (by kernel_rfl) (by simp) ?_
            refine AllReadyH.cons (o := ?_) ?hi_5 (fun K hK => ?h_5) AllReadyH.nil
            case hi_5 => (simp only [List.getElem?_toArray, List.getElem?_cons_zero, List.getElem?_cons_succ] <;> rfl)
            go_simp
            (refine (pick g 58 6 _ (M5.out.2.1.new ((New.refl _).drewN 1)) (by omega) (by omega) (by omega)).mono ?_; rintro e w6 ⟨t, rfl, ht0, ht1, h6, c6⟩; have k6 := c6.cell k2d (by omega); have hwr : IntKind.i64.wrap (1 + t) = 1 + t := by { simp [IntKind.wrap, IntKind.bits, IntKind.signed]; omega }; go_wp2_with fail)
            refine hK.out _ _ ?_ (fun hHeld => ?_)
            · exact trivial
            clear hK K
            try go_frame
            refine wpAnyH_take (i := 4) (v := ?_) (oi := ?_) ?hi_6 ?hs_6 ?hf_6 ?hr_6 ?hQ_6 ?hy_6 ?hS_6 ?h_6
            case hi_6 => (simp only [List.getElem?_toArray, List.getElem?_cons_zero, List.getElem?_cons_succ] <;> rfl)
            case hs_6 => kernel_rfl
            case hf_6 => kernel_rfl
            case hr_6 => kernel_rfl
            case hQ_6 => exact fun _ _ _ h => h
            case hy_6 => (refine Or.inl ⟨by rfl, ?_⟩; intro w hSw; (try dsimp only at hSw); go_simp; try with_reducible rfl)
            case hS_6 => assumption
            try go_frame
            refine wpAnyH_ready (rs := [5]) (by kernel_rfl) (by simp) ?_
            refine AllReadyH.cons (o := ?_) ?hi_7 (fun K hK => ?h_7) AllReadyH.nil
            case hi_7 => (simp only [List.getElem?_toArray, List.getElem?_cons_zero, List.getElem?_cons_succ] <;> rfl)
            go_simp
            refine hK.out _ _ ?_ (fun hHeld => ?_)
            · exact trivial
            clear hK K
            try go_frame
            refine wpAnyH_ready (rs := [6]) (by kernel_rfl) (by simp) ?_
            refine (AllReadyH.cons (o := ?_) ?hi_8 (fun K hK => ?h_8) AllReadyH.nil)
            case hi_8 => (simp only [List.getElem?_toArray, List.getElem?_cons_zero, List.getElem?_cons_succ] <;> rfl)
            refine stepRow_appendRec slInt _ _ rfl rfl (.slice a5 xs.length d5) xs.length (xs.map (Value.int .i64)) [.int .i64 (1 + t)] 3 rfl ((X2.out.new ((New.refl _).drewN 1)).chg c6 (fun j _ hj e => by omega)).1 rfl (by intro u hu; simp at hu; subst hu; rfl) rfl (by omega) (by decide) ?_
            intro v7 w7 q7 c7
            obtain ⟨a7, d7, rfl, -⟩ := q7.shape
            have e7 : Value.ownBlock (.slice a5 xs.length d5) ≠ some gx := (fun e => (X2.out.1.2 gx e).2 rfl)
            have g7 := c7.heap (c6.heap X1.out (by omega)) e7
            obtain ⟨-, -, k7, -, -, f7⟩ := set3_cells g7
            refine hK.out _ _ ?_ (fun hHeld => ?_)
            · trivial
            clear hK K
            try go_frame
            refine wpAnyH_take (i := 7) (v := ?_) (oi := ?_) ?hi_9 ?hs_9 ?hf_9 ?hr_9 ?hQ_9 ?hy_9 ?hS_9 ?h_9
            case hi_9 => (simp only [List.getElem?_toArray, List.getElem?_cons_zero, List.getElem?_cons_succ] <;> rfl)
            case hs_9 => kernel_rfl
            case hf_9 => kernel_rfl
            case hr_9 => kernel_rfl
            case hQ_9 => exact fun _ _ _ h => h
            case hy_9 => (refine Or.inl ⟨by rfl, ?_⟩; intro w hSw; (try dsimp only at hSw); go_simp; try with_reducible rfl)
            case hS_9 => assumption
            try go_frame
            refine wpAnyH_ready (rs := [8]) (by kernel_rfl) (by simp) ?_
            refine AllReadyH.cons (o := ?_) ?hi_10 (fun K hK => ?h_10) AllReadyH.nil
            case hi_10 => (simp only [List.getElem?_toArray, List.getElem?_cons_zero, List.getElem?_cons_succ] <;> rfl)
            go_simp
            refine hK.out _ _ ?_ (fun hHeld => ?_)
            · exact trivial
            clear hK K
            try go_frame
            refine wpAnyH_done (by kernel_rfl) ?_ _
            go_wp2_with fail
            have fin := pm_snoc M5.out X1.out X2.out (by omega) (by omega) hg zr hgx h6 c6 q7 c7
            go_meet
            case rel => exact ⟨rfl, xs ++ [1 + t], by simp; omega, fin.1, fin.2.le (by omega)⟩
          · skip
            go_simp
            (refine (pick g 58 6 _ (M5.out.2.1.new ((New.refl _).drewN 1)) (by omega) (by omega) (by omega)).mono ?_; rintro e w6 ⟨t, rfl, ht0, ht1, h6, c6⟩; have k6 := c6.cell k2d (by omega); have hwr : IntKind.i64.wrap (1 + t) = 1 + t := by { simp [IntKind.wrap, IntKind.bits, IntKind.signed]; omega }; go_wp2_with fail)
            refine hK.out _ _ ?_ (fun hHeld => ?_)
            · exact trivial
            clear hK K
            try go_frame
            refine wpAnyH_take (i := 4) (v := ?_) (oi := ?_) ?hi_11 ?hs_11 ?hf_11 ?hr_11 ?hQ_11 ?hy_11 ?hS_11 ?h_11
            case hi_11 => (simp only [List.getElem?_toArray, List.getElem?_cons_zero, List.getElem?_cons_succ] <;> rfl)
            case hs_11 => kernel_rfl
            case hf_11 => kernel_rfl
            case hr_11 => kernel_rfl
            case hQ_11 => exact fun _ _ _ h => h
            case hy_11 => (refine Or.inl ⟨by rfl, ?_⟩; intro w hSw; (try dsimp only at hSw); go_simp; try with_reducible rfl)
            case hS_11 => assumption
            try go_frame
            refine wpAnyH_ready (rs := [1, 5]) (by kernel_rfl) (by simp) ?_
            refine (AllReadyH.cons (o := ?_) ?hi_12 (fun K hK => ?h_12) (AllReadyH.cons (o := ?_) ?hi_13 (fun K hK => ?h_13) AllReadyH.nil))
            case hi_12 => (simp only [List.getElem?_toArray, List.getElem?_cons_zero, List.getElem?_cons_succ] <;> rfl)
            case hi_13 => (simp only [List.getElem?_toArray, List.getElem?_cons_zero, List.getElem?_cons_succ] <;> rfl)
            · skip
              go_simp
              refine hK.out _ _ ?_ (fun hHeld => ?_)
              · exact trivial
              clear hK K
              try go_frame
              refine wpAnyH_ready (rs := [5]) (by kernel_rfl) (by simp) ?_
              refine AllReadyH.cons (o := ?_) ?hi_14 (fun K hK => ?h_14) AllReadyH.nil
              case hi_14 => (simp only [List.getElem?_toArray, List.getElem?_cons_zero, List.getElem?_cons_succ] <;> rfl)
              go_simp
              refine hK.out _ _ ?_ (fun hHeld => ?_)
              · exact trivial
              clear hK K
              try go_frame
              refine wpAnyH_ready (rs := [6]) (by kernel_rfl) (by simp) ?_
              refine (AllReadyH.cons (o := ?_) ?hi_15 (fun K hK => ?h_15) AllReadyH.nil)
              case hi_15 => (simp only [List.getElem?_toArray, List.getElem?_cons_zero, List.getElem?_cons_succ] <;> rfl)
              refine stepRow_appendRec slInt _ _ rfl rfl (.slice a5 xs.length d5) xs.length (xs.map (Value.int .i64)) [.int .i64 (1 + t)] 3 rfl ((X2.out.new ((New.refl _).drewN 1)).chg c6 (fun j _ hj e => by omega)).1 rfl (by intro u hu; simp at hu; subst hu; rfl) rfl (by omega) (by decide) ?_
              intro v7 w7 q7 c7
              obtain ⟨a7, d7, rfl, -⟩ := q7.shape
              have e7 : Value.ownBlock (.slice a5 xs.length d5) ≠ some gx := (fun e => (X2.out.1.2 gx e).2 rfl)
              have g7 := c7.heap (c6.heap X1.out (by omega)) e7
              obtain ⟨-, -, k7, -, -, f7⟩ := set3_cells g7
              refine hK.out _ _ ?_ (fun hHeld => ?_)
              · trivial
              clear hK K
              try go_frame
              refine wpAnyH_take (i := 7) (v := ?_) (oi := ?_) ?hi_16 ?hs_16 ?hf_16 ?hr_16 ?hQ_16 ?hy_16 ?hS_16 ?h_16
              case hi_16 => (simp only [List.getElem?_toArray, List.getElem?_cons_zero, List.getElem?_cons_succ] <;> rfl)
              case hs_16 => kernel_rfl
              case hf_16 => kernel_rfl
              case hr_16 => kernel_rfl
              case hQ_16 => exact fun _ _ _ h => h
              case hy_16 => (refine Or.inl ⟨by rfl, ?_⟩; intro w hSw; (try dsimp only at hSw); go_simp; try with_reducible rfl)
              case hS_16 => assumption
              try go_frame
              refine wpAnyH_ready (rs := [8]) (by kernel_rfl) (by simp) ?_
              refine AllReadyH.cons (o := ?_) ?hi_17 (fun K hK => ?h_17) AllReadyH.nil
              case hi_17 => (simp only [List.getElem?_toArray, List.getElem?_cons_zero, List.getElem?_cons_succ] <;> rfl)
              go_simp
              refine hK.out _ _ ?_ (fun hHeld => ?_)
              · exact trivial
              clear hK K
              try go_frame
              refine wpAnyH_done (by kernel_rfl) ?_ _
              go_wp2_with fail
              have fin := pm_snoc M5.out X1.out X2.out (by omega) (by omega) hg zr hgx h6 c6 q7 c7
              go_meet
              case rel => exact ⟨rfl, xs ++ [1 + t], by simp; omega, fin.1, fin.2.le (by omega)⟩
            · skip
              go_simp
              refine hK.out _ _ ?_ (fun hHeld => ?_)
              · exact trivial
              clear hK K
              try go_frame
              have k6' := keep_alloc k6 (.cells #[.int .i64 (1 + t)] 3)
              refine wpAnyH_ready (rs := [1]) (by kernel_rfl) (by simp) ?_
              refine AllReadyH.cons (o := ?_) ?hi_18 (fun K hK => ?h_18) AllReadyH.nil
              case hi_18 => (simp only [List.getElem?_toArray, List.getElem?_cons_zero, List.getElem?_cons_succ] <;> rfl)
              go_simp
              refine hK.out _ _ ?_ (fun hHeld => ?_)
              · exact trivial
              clear hK K
              try go_frame
              refine wpAnyH_ready (rs := [6]) (by kernel_rfl) (by simp) ?_
              refine (AllReadyH.cons (o := ?_) ?hi_19 (fun K hK => ?h_19) AllReadyH.nil)
              case hi_19 => (simp only [List.getElem?_toArray, List.getElem?_cons_zero, List.getElem?_cons_succ] <;> rfl)
              refine stepRow_appendRec slInt _ _ rfl rfl (.slice a5 xs.length d5) xs.length (xs.map (Value.int .i64)) [.int .i64 (1 + t)] 3 rfl ((X2.out.new ((New.refl _).drewN 1)).chg c6 (fun j _ hj e => by omega)).1 rfl (by intro u hu; simp at hu; subst hu; rfl) rfl (by omega) (by decide) ?_
              intro v7 w7 q7 c7
              obtain ⟨a7, d7, rfl, -⟩ := q7.shape
              have e7 : Value.ownBlock (.slice a5 xs.length d5) ≠ some gx := (fun e => (X2.out.1.2 gx e).2 rfl)
              have g7 := c7.heap (c6.heap X1.out (by omega)) e7
              obtain ⟨-, -, k7, -, -, f7⟩ := set3_cells g7
              refine hK.out _ _ ?_ (fun hHeld => ?_)
              · trivial
              clear hK K
              try go_frame
              refine wpAnyH_take (i := 7) (v := ?_) (oi := ?_) ?hi_20 ?hs_20 ?hf_20 ?hr_20 ?hQ_20 ?hy_20 ?hS_20 ?h_20
              case hi_20 => (simp only [List.getElem?_toArray, List.getElem?_cons_zero, List.getElem?_cons_succ] <;> rfl)
              case hs_20 => kernel_rfl
              case hf_20 => kernel_rfl
              case hr_20 => kernel_rfl
              case hQ_20 => exact fun _ _ _ h => h
              case hy_20 => (refine Or.inl ⟨by rfl, ?_⟩; intro w hSw; (try dsimp only at hSw); go_simp; try with_reducible rfl)
              case hS_20 => assumption
              try go_frame
              refine wpAnyH_ready (rs := [8]) (by kernel_rfl) (by simp) ?_
              refine AllReadyH.cons (o := ?_) ?hi_21 (fun K hK => ?h_21) AllReadyH.nil
              case hi_21 => (simp only [List.getElem?_toArray, List.getElem?_cons_zero, List.getElem?_cons_succ] <;> rfl)
              go_simp
              refine hK.out _ _ ?_ (fun hHeld => ?_)
              · exact trivial
              clear hK K
              try go_frame
              refine wpAnyH_done (by kernel_rfl) ?_ _
              go_wp2_with fail
              have fin := pm_snoc M5.out X1.out X2.out (by omega) (by omega) hg zr hgx h6 c6 q7 c7
              go_meet
              case rel => exact ⟨rfl, xs ++ [1 + t], by simp; omega, fin.1, fin.2.le (by omega)⟩
        · go_wp2_with fail
          go_meet
          case rel => exact ⟨rfl, xs, hxl, X7.out, M7.out.le (by omega)⟩
      case rest =>
        clear X7 M7 hxl hx0
        obtain ⟨rfl, xs, hxl, X, M⟩ := hcut
        have X6 := Lib.hid X
        have M6 := Lib.hid M
        have zc := M.2.2.2
        clear X M
        go_wp2_with fail
        refine (pick g 59 30 _ M6.out.2.1 (by omega) (by omega) (by omega)).mono ?_
        rintro e w8 ⟨t8, rfl, ht80, ht81, h8, c8⟩
        have M8 := M6.out.pick h8 c8 hg
        obtain ⟨u8, x1, x2⟩ := XAt.chg X6.out c8 (fun j hj => ⟨by omega, by omega⟩)
        have z8 := M8.2.2.2
        clear c8 h8 M6 X6
        by_cases ht8 : t8 = 0
        · subst ht8
          have hlt : gx < w8.heap.size := (Array.getElem?_eq_some_iff.1 x1).1
          obtain ⟨-, -, k2, -, -, f2⟩ := set3_cells x1
          have p9 := ids5 M8 x1 hg zr hgx
          have P9 := Lib.hid p9
          clear p9 x1 x2 M8
          go_upto_region 10 with fail
          obtain ⟨⟨x1, x2⟩, M⟩ := P9.out
          clear P9
          have hxl : ([1, 2, 3, 4, 5] : List Int).length ≤ 5 := by simp
          generalize ([1, 2, 3, 4, 5] : List Int) = xs at hxl x2
          obtain ⟨b0, b1, b2, -, -, -⟩ := set3_cells x1
          have hz := M.2.2.1.heap HBz.out (by omega)
          obtain ⟨c10, c11, c12, f10, f11, f12⟩ := set3_cells hz
          have Fin := put_end (l := l) (dd := false) hl hxl M x2 hs hsB zw hgb hgbw hg zr N1.out
          unfold txt at b0 Fin
          clear hz x1 x2 M
          go_wp2_with fail
          go_region
          all_goals
            try go_wp2_with fail
            exact bodyPost_ret (v := .tuple #[.slice av os.length cv, .agg #[.string ⟨l.toArray⟩, .bool false, .slice (some ⟨w8.heap.size, 0, none⟩) 5 5]]) (by simp [results, Tryd.results17, go_sem, c10, c11, c12]) rfl (Fin _ ((set3_chg _ gb _ _ _).trans ((New.refl _).drew.chg _)))
        · have ht8' : (t8 == 0) = false := by simp [ht8]
          have M := M8
          clear M8
          obtain ⟨a9, d9, rfl, -, s9⟩ := x2.shape
          unfold maxLen at s9
          obtain ⟨b0, b1, b2, -, -, -⟩ := set3_cells x1
          have hz := M.2.2.1.heap HBz.out (by omega)
          obtain ⟨c10, c11, c12, f10, f11, f12⟩ := set3_cells hz
          have Fin := put_end (l := l) (dd := false) hl hxl M x2 hs hsB zw hgb hgbw hg zr N1.out
          unfold txt at b0 Fin
          clear hz x1 x2 M
          go_wp2_with fail
          go_region
          all_goals
            try go_wp2_with fail
            exact bodyPost_ret (v := .tuple #[.slice av os.length cv, .agg #[.string ⟨l.toArray⟩, .bool false, .slice a9 xs.length d9]]) (by simp [results, Tryd.results17, go_sem, c10, c11, c12]) rfl (Fin _ ((set3_chg _ gb _ _ _).trans ((New.refl _).drew.chg _)))
    · obtain ⟨u, x1, x2⟩ := X6.out
      obtain ⟨-, b1, -, -, -, -⟩ := set3_cells x1
      clear x1 x2
      go_wp2_with fail
      refine (pick g 57 30 _ M6.out.2.1 (by omega) (by omega) (by omega)).mono ?_
      rintro e w8 ⟨t8, rfl, ht80, ht81, h8, c8⟩
      have M8 := M6.out.pick h8 c8 hg
      obtain ⟨u8, x1, x2⟩ := XAt.chg X6.out c8 (fun j hj => ⟨by omega, by omega⟩)
      have z8 := M8.2.2.2
      clear c8 h8 M6 X6
      by_cases ht8 : t8 = 0
      · subst ht8
        have hlt : gx < w8.heap.size := (Array.getElem?_eq_some_iff.1 x1).1
        obtain ⟨-, -, k2, -, -, f2⟩ := set3_cells x1
        have p9 := ids5 M8 x1 hg zr hgx
        have P9 := Lib.hid p9
        clear p9 x1 x2 M8
        go_upto_region 10 with fail
        obtain ⟨⟨x1, x2⟩, M⟩ := P9.out
        clear P9
        have hxl : ([1, 2, 3, 4, 5] : List Int).length ≤ 5 := by simp
        generalize ([1, 2, 3, 4, 5] : List Int) = xs at hxl x2
        obtain ⟨b0, b1, b2, -, -, -⟩ := set3_cells x1
        have hz := M.2.2.1.heap HBz.out (by omega)
        obtain ⟨c10, c11, c12, f10, f11, f12⟩ := set3_cells hz
        have Fin := put_end (l := l) (dd := true) hl hxl M x2 hs hsB zw hgb hgbw hg zr N1.out
        unfold txt at b0 Fin
        clear hz x1 x2 M
        go_wp2_with fail
        go_region
        all_goals
          try go_wp2_with fail
          exact bodyPost_ret (v := .tuple #[.slice av os.length cv, .agg #[.string ⟨l.toArray⟩, .bool true, .slice (some ⟨w8.heap.size, 0, none⟩) 5 5]]) (by simp [results, Tryd.results17, go_sem, c10, c11, c12]) rfl (Fin _ ((set3_chg _ gb _ _ _).trans ((New.refl _).drew.chg _)))
      · have ht8' : (t8 == 0) = false := by simp [ht8]
        have M := M8
        clear M8
        obtain ⟨a9, d9, rfl, -, s9⟩ := x2.shape
        unfold maxLen at s9
        obtain ⟨b0, b1, b2, -, -, -⟩ := set3_cells x1
        have hz := M.2.2.1.heap HBz.out (by omega)
        obtain ⟨c10, c11, c12, f10, f11, f12⟩ := set3_cells hz
        have Fin := put_end (l := l) (dd := true) hl hxl M x2 hs hsB zw hgb hgbw hg zr N1.out
        unfold txt at b0 Fin
        clear hz x1 x2 M
        go_wp2_with fail
        go_region
        all_goals
          try go_wp2_with fail
          exact bodyPost_ret (v := .tuple #[.slice av os.length cv, .agg #[.string ⟨l.toArray⟩, .bool true, .slice a9 xs.length d9]]) (by simp [results, Tryd.results17, go_sem, c10, c11, c12]) rfl (Fin _ ((set3_chg _ gb _ _ _).trans ((New.refl _).drew.chg _)))
end Go.Proofs.YtkffejommncinaaDoor
