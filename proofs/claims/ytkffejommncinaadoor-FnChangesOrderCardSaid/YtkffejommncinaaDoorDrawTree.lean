/- The draw of a tree: l91Tree. -/
import Derived.Test.YtkffejommncinaaDoorDrawPath
import Derived.Test.YtkffejommncinaaDoorTreeFind
import Derived.Test.YtkffejommncinaaDoorItemsA
import Derived.Deep.RegionHeld3
namespace Go.Proofs.YtkffejommncinaaDoor
open Go.RowKit

def smallI (o : ItemR) : Prop := o.path.length ≤ 100 ∧ o.ids.length ≤ 10
def TreeAt (g m : Nat) (w : World) (e : Ending) (w' : World) : Prop :=
  ∃ v os, e = .returned v ∧ (os.length ≤ 9 ∧ ∀ o ∈ os, smallI o) ∧ OwnItems (fun j => w.heap.size ≤ j) w' v os ∧ Rd g w' (m + 50) ∧ Chg (fun k => k = g) w w'
def treePaths : List (List UInt8) := [[97], [97, 47, 120], [97, 47, 120, 47, 112], [97, 47, 120, 47, 113], [97, 47, 121], [98], [98, 47, 120], [99]]
theorem treePaths_len : ∀ l ∈ treePaths, l.length ≤ 100 := by decide
theorem lit_all (w : World) (ls : List (List UInt8)) (te : TypeId) (i : Nat) (l : List UInt8) (hi : ls[i]? = some l) :
    (w.alloc (.cells (ls.map txt).toArray te)).cell? ⟨w.heap.size, i, none⟩ = some (txt l) := by
  have hb := heap_alloc_new w (.cells (ls.map txt).toArray te)
  simp only [World.cell?, hb]
  simp [hi]
def PathsIn (b : Nat) (w : World) : Prop := b < w.heap.size ∧ ∀ i l, treePaths[i]? = some l → w.cell? ⟨b, i, none⟩ = some (txt l)
theorem PathsIn.chg {b : Nat} {w w' : World} {S : Nat → Prop} (h : PathsIn b w) (c : Chg S w w') (hs : ¬ S b) : PathsIn b w' :=
  ⟨Nat.lt_of_lt_of_le h.1 c.size, fun i l hi => c.cell (h.2 i l hi) hs⟩
/-- the item that is being made -/
def XAt (gx B : Nat) (l : List UInt8) (dd : Bool) (xs : List Int) (wx : World) : Prop :=
  ∃ u, wx.heap[gx]? = some (.cells #[txt l, .bool dd, u] 28) ∧ OwnInts 3 (fun j => B ≤ j ∧ j ≠ gx) wx u xs
theorem XAt.chg {gx B : Nat} {l : List UInt8} {dd : Bool} {xs : List Int} {w w' : World} {S : Nat → Prop} (h : XAt gx B l dd xs w) (c : Chg S w w') (hs : ∀ j, S j → j < B ∧ j ≠ gx) : XAt gx B l dd xs w' := by
  obtain ⟨u, h1, h2⟩ := h
  exact ⟨u, c.heap h1 (fun hS => (hs _ hS).2 rfl), h2.chg c (fun j _ hj hS => by have := (hs j hS).1; omega)⟩
theorem XAt.new {gx B : Nat} {l : List UInt8} {dd : Bool} {xs : List Int} {w w' : World} (h : XAt gx B l dd xs w) (c : New w w') : XAt gx B l dd xs w' := h.chg c (fun _ hf => hf.elim)
theorem itemFlds_snoc (os : List ItemR) (o : ItemR) : itemFlds (os ++ [o]) = itemFlds os ++ o.flds := by simp [itemFlds]
/-- what stands at the head of a round -/
def TreeInv (g m k : Nat) (w wr : World) (v : Value) (os : List ItemR) : Prop :=
  (os.length ≤ k ∧ ∀ o ∈ os, smallI o) ∧ OwnItems (fun j => w.heap.size ≤ j) wr v os ∧ Rd g wr (m + 5 * k) ∧ Chg (fun k => k = g) w wr ∧ PathsIn (w.heap.size + 1) wr ∧ g < w.heap.size ∧ v.ownBlock ≠ some (w.heap.size + 1)

/-- while an item is being made -/
def Mid (g mm : Nat) (w : World) (B : Nat) (W : World) (v : Value) (os : List ItemR) : Prop :=
  OwnItems (fun j => w.heap.size ≤ j ∧ j < B) W v os ∧ Rd g W mm ∧ Chg (fun k => k = g) w W ∧ PathsIn (w.heap.size + 1) W ∧ B ≤ W.heap.size
theorem Mid.start {g mm : Nat} {w wr : World} {v : Value} {os : List ItemR} (h1 : OwnItems (fun j => w.heap.size ≤ j) wr v os) (h2 : Rd g wr mm) (h3 : Chg (fun k => k = g) w wr) (h4 : PathsIn (w.heap.size + 1) wr) : Mid g mm w wr.heap.size wr v os :=
  ⟨OwnRecs.old h1, h2, h3, h4, Nat.le_refl _⟩
theorem Mid.new {g mm : Nat} {w : World} {B : Nat} {W W' : World} {v : Value} {os : List ItemR} (h : Mid g mm w B W v os) (n : New W W') : Mid g mm w B W' v os :=
  ⟨OwnRecs.new h.1 n, h.2.1.new n, h.2.2.1.trans (n.chg _), h.2.2.2.1.chg n (fun h => h), Nat.le_trans h.2.2.2.2 n.size⟩
theorem Mid.pick {g mm m2 : Nat} {w : World} {B : Nat} {W W' : World} {v : Value} {os : List ItemR} (h : Mid g mm w B W v os) (r : Rd g W' m2) (c : Chg (fun k => k = g) W W') (hg : g < w.heap.size) : Mid g m2 w B W' v os :=
  ⟨OwnRecs.chg h.1 c (fun j _ hj e => by omega), r, h.2.2.1.trans c, h.2.2.2.1.chg c (fun h => by omega), Nat.le_trans h.2.2.2.2 c.size⟩
/-- what lies above the list is written -/
theorem Mid.put {g mm : Nat} {w : World} {B : Nat} {W W' : World} {v : Value} {os : List ItemR} {gx : Nat} (h : Mid g mm w B W v os) (c : Chg (fun k => k = gx) W W') (hgx : B ≤ gx) (hg : g < w.heap.size) (_hw : w.heap.size ≤ B) (hp : w.heap.size + 1 < B) : Mid g mm w B W' v os :=
  ⟨OwnRecs.chg h.1 c (fun j _ hj e => by omega), h.2.1.chg c (fun j e => by omega), h.2.2.1.step c (fun j hj e => by omega), h.2.2.2.1.chg c (fun h => by omega), Nat.le_trans h.2.2.2.2 c.size⟩
theorem Mid.fin {g mm : Nat} {w : World} {B : Nat} {W : World} {v : Value} {os : List ItemR} {gx : Nat} {l : List UInt8} {dd : Bool} {u : Value} {a b c : Value} (h : Mid g mm w B W v os) (hb : W.heap[gx]? = some (.cells #[a, b, c] 28))
    (he : OwnInts 3 (fun j => B ≤ j ∧ j ≠ gx) W u []) (hgx : B ≤ gx) (hg : g < w.heap.size) (hw : w.heap.size ≤ B) (hp : w.heap.size + 1 < B) :
    XAt gx B l dd [] (((W.setCell ⟨gx, 0, none⟩ (.string ⟨l.toArray⟩)).setCell ⟨gx, 1, none⟩ (.bool dd)).setCell ⟨gx, 2, none⟩ u) ∧ Mid g mm w B (((W.setCell ⟨gx, 0, none⟩ (.string ⟨l.toArray⟩)).setCell ⟨gx, 1, none⟩ (.bool dd)).setCell ⟨gx, 2, none⟩ u) v os := by
  have cs := set3_chg W gx (.string ⟨l.toArray⟩) (.bool dd) u
  exact ⟨⟨u, set3_heap hb, he.chg cs (fun j _ hj e => hj.2 e)⟩, h.put cs hgx hg hw hp⟩
theorem Mid.fin2 {g mm : Nat} {w : World} {B : Nat} {W : World} {v : Value} {os : List ItemR} {gx : Nat} {l : List UInt8} {dd : Bool} {u : Value} (h : Mid g mm w B W v os) (hz : W.heap.size = gx)
    (he : OwnInts 3 (fun j => B ≤ j ∧ j ≠ gx) W u []) (_hgx : B ≤ gx) :
    XAt gx B l dd [] (W.alloc (.cells #[.string ⟨l.toArray⟩, .bool dd, u] 28)) ∧ Mid g mm w B (W.alloc (.cells #[.string ⟨l.toArray⟩, .bool dd, u] 28)) v os := by
  subst hz
  exact ⟨⟨u, heap_alloc_new W _, he.new ((New.refl W).alloc _)⟩, h.new ((New.refl W).alloc _)⟩
theorem Mid.fin3 {g mm : Nat} {w : World} {B : Nat} {W : World} {v : Value} {os : List ItemR} {l : List UInt8} {dd : Bool} (h : Mid g mm w B W v os) (hgx : B ≤ W.heap.size) :
    XAt W.heap.size B l dd [] ((W.alloc (.cells #[.string ⟨l.toArray⟩, .bool dd, .slice (some ⟨W.heap.size + 1, 0, none⟩) 0 0] 28)).alloc (.cells #[] 3)) ∧ Mid g mm w B ((W.alloc (.cells #[.string ⟨l.toArray⟩, .bool dd, .slice (some ⟨W.heap.size + 1, 0, none⟩) 0 0] 28)).alloc (.cells #[] 3)) v os := by
  have h1 := Row.empty 3 1 (W.alloc (.cells #[.string ⟨l.toArray⟩, .bool dd, .slice (some ⟨W.heap.size + 1, 0, none⟩) 0 0] 28))
  rw [World.size_alloc] at h1
  have h2 : OwnInts 3 _ _ _ [] := ⟨h1, by simp⟩
  exact ⟨⟨_, ((New.refl _).alloc _).heap (heap_alloc_new W _), h2.mono (fun j _ hj => by omega)⟩, (h.new ((New.refl W).alloc _)).new ((New.refl _).alloc _)⟩
theorem Mid.le {g mm m2 : Nat} {w : World} {B : Nat} {W : World} {v : Value} {os : List ItemR} (h : Mid g mm w B W v os) (hm : mm ≤ m2) : Mid g m2 w B W v os := ⟨h.1, h.2.1.mono hm, h.2.2⟩
/-- one more number -/
theorem mid_snoc {g mm m2 : Nat} {w : World} {B : Nat} {wr w6 w7 : World} {v : Value} {os : List ItemR} {gx : Nat} {l : List UInt8} {a5 a7 : Option Addr} {d5 d7 : Nat} {xs : List Int} {t : Int}
    (M : Mid g mm w B wr v os) (x1 : wr.heap[gx]? = some (.cells #[txt l, .bool false, .slice a5 xs.length d5] 28)) (x2 : OwnInts 3 (fun j => B ≤ j ∧ j ≠ gx) wr (.slice a5 xs.length d5) xs) (ht0 : 0 ≤ t) (ht1 : t < 100)
    (hg : g < w.heap.size) (zr : w.heap.size ≤ B) (hpl : w.heap.size + 1 < B) (hgx : B ≤ gx) (h6 : Rd g w6 m2) (c6 : Chg (fun k => k = g) (wr.drewN 1) w6)
    (q7 : Row 3 1 (fun k => Value.ownBlock (.slice a5 xs.length d5) = some k ∨ w6.heap.size < k) w7 (.slice a7 (xs.length + 1) d7) (xs.length + 1) (xs.map (Value.int .i64) ++ [.int .i64 (1 + t)]))
    (c7 : Chg (fun k => Value.ownBlock (.slice a5 xs.length d5) = some k) w6 w7) :
    XAt gx B l false (xs ++ [1 + t]) (w7.setCell ⟨gx, 2, none⟩ (.slice a7 (xs.length + 1) d7)) ∧ Mid g m2 w B (w7.setCell ⟨gx, 2, none⟩ (.slice a7 (xs.length + 1) d7)) v os := by
  have hown : ∀ j, Value.ownBlock (.slice a5 xs.length d5) = some j → B ≤ j ∧ j ≠ gx := fun j e => x2.1.2 j e
  have hn : Chg (fun k => k = g) wr w6 := ((New.refl wr).drewN 1).chg _ |>.trans c6
  have hlt : gx < wr.heap.size := (Array.getElem?_eq_some_iff.1 x1).1
  have hz := hn.size
  have g7 := c7.heap (hn.heap x1 (by omega)) (fun e => (hown gx e).2 rfl)
  have cs := chg_set1 w7 gx 2 (.slice a7 (xs.length + 1) d7)
  refine ⟨⟨.slice a7 (xs.length + 1) d7, by simp [World.setCell, Array.getElem?_modify, g7], ?_⟩, ?_⟩
  · have r : OwnInts 3 _ w7 (.slice a7 (xs.length + 1) d7) (xs ++ [1 + t]) := ⟨by
      rw [List.length_append, List.length_singleton, List.map_append]; exact q7, by
      intro x hx
      rcases List.mem_append.1 hx with hx | hx
      · exact x2.2 x hx
      · simp at hx; subst hx; exact I64.mk (by omega) (by omega)⟩
    refine (r.chg cs (fun j _ hj e => ?_)).mono (fun j _ hj => ?_)
    · rcases hj with hj | hj
      · exact (hown j hj).2 e
      · omega
    · rcases hj with hj | hj
      · exact hown j hj
      · have := M.2.2.2.2; omega
  · have M6 := M.pick h6 hn hg
    have M7 : Mid g m2 w B w7 v os := ⟨OwnRecs.chg M6.1 c7 (fun j _ hj e => by have := (hown j e).1; omega), M6.2.1.chg c7 (fun j e => by have := (hown j e).1; omega), M6.2.2.1.step c7 (fun j hj e => by have := (hown j e).1; omega), M6.2.2.2.1.chg c7 (fun e => by have := (hown _ e).1; omega), Nat.le_trans M6.2.2.2.2 c7.size⟩
    exact M7.put cs hgx hg zr hpl
/-- one more item -/
theorem own_add {g mm : Nat} {w : World} {B : Nat} {w8 w9 : World} {v v' : Value} {os : List ItemR} {o : ItemR} {u : Value} {us : List Value}
    (r1 : Row 28 3 (fun j => w.heap.size ≤ j ∧ j < B) w8 v os.length us) (r2 : Fields (fun j => (w.heap.size ≤ j ∧ j < B) ∧ v.ownBlock ≠ some j) w8 us (itemFlds os)) (hr : Rd g w8 mm)
    (x2 : OwnI (fun j => B ≤ j) w8 u o.ids) (hl : o.path.length ≤ 100) (hg : g < w.heap.size)
    (q9 : Row 28 3 (fun j => v.ownBlock = some j ∨ w8.heap.size < j) w9 v' (os.length + 1) (us ++ [txt o.path, .bool o.dir, u])) (c9 : Chg (fun j => v.ownBlock = some j) w8 w9) (hB : w.heap.size ≤ B) (hz : B ≤ w8.heap.size) :
    OwnItems (fun j => w.heap.size ≤ j) w9 v' (os ++ [o]) ∧ Rd g w9 mm := by
  have hv : ∀ j, v.ownBlock = some j → w.heap.size ≤ j ∧ j < B := fun j e => r1.2 j e
  have ft : Fields (fun j => B ≤ j) w8 [txt o.path, .bool o.dir, u] o.flds := ⟨⟨rfl, by unfold maxLen; omega⟩, rfl, x2.mono (fun j _ hj => ⟨⟨hj, by simp [blk]⟩, by simp [blk]⟩), trivial⟩
  have os' := OwnRecs.snoc (S := fun j => w.heap.size ≤ j ∧ j < B) (T := fun j => B ≤ j) r2 ft q9 c9 (fun j hj => ⟨hv j hj, r1.lt j hj⟩) (fun j hj hT => by omega)
  refine ⟨?_, hr.chg c9 (fun j e => by have := hv j e; omega)⟩
  unfold OwnItems
  rw [itemFlds_snoc, List.length_append, List.length_singleton]
  exact OwnRecs.mono os' (fun j hj hh => by rcases hh with hh | hh | hh <;> omega)
theorem mid_add {g mm m k : Nat} {w : World} {B : Nat} {w8 w9 : World} {v v' : Value} {os : List ItemR} {o : ItemR} {u : Value} {us : List Value}
    (M : Mid g mm w B w8 v os) (r1 : Row 28 3 (fun j => w.heap.size ≤ j ∧ j < B) w8 v os.length us) (r2 : Fields (fun j => (w.heap.size ≤ j ∧ j < B) ∧ v.ownBlock ≠ some j) w8 us (itemFlds os))
    (x2 : OwnI (fun j => B ≤ j) w8 u o.ids) (hs : smallI o) (hol : os.length ≤ k) (hsm : ∀ o ∈ os, smallI o) (hvb : v.ownBlock ≠ some (w.heap.size + 1)) (hg : g < w.heap.size) (hB : w.heap.size + 1 < B)
    (q9 : Row 28 3 (fun j => v.ownBlock = some j ∨ w8.heap.size < j) w9 v' (os.length + 1) (us ++ [txt o.path, .bool o.dir, u])) (c9 : Chg (fun j => v.ownBlock = some j) w8 w9) (hm : mm ≤ m + 5 * (k + 1)) :
    TreeInv g m (k + 1) w w9 v' (os ++ [o]) := by
  have hv : ∀ j, v.ownBlock = some j → w.heap.size ≤ j ∧ j < B := fun j e => r1.2 j e
  obtain ⟨h1, h2⟩ := own_add r1 r2 M.2.1 x2 hs.1 hg q9 c9 (by omega) M.2.2.2.2
  refine ⟨⟨by simp; omega, fun x hx => ?_⟩, h1, h2.mono hm, M.2.2.1.step c9 (fun j hj e => by have := hv j e; omega), M.2.2.2.1.chg c9 hvb, hg, fun e => ?_⟩
  · rcases List.mem_append.1 hx with hx | hx
    · exact hsm x hx
    · simp at hx; subst hx; exact hs
  · rcases q9.2 _ e with h | h
    · exact hvb h
    · have := M.2.2.2.1.1; omega
theorem lit_int1 (w : World) : OwnInts 3 (fun j => w.heap.size ≤ j) (w.alloc (.cells #[.int .i64 1] 3)) (.slice (some ⟨w.heap.size, 0, none⟩) 1 1) [1] := by
  refine ⟨⟨⟨by simp, .inr ⟨w.heap.size, 1, _, rfl, Nat.zero_le _, heap_alloc_new _ _, Nat.le_refl _, by unfold maxLen; omega, by simp, by simp⟩⟩, fun k hk => ?_⟩, fun x hx => by simp at hx; subst hx; exact I64.mk (by omega) (by omega)⟩
  simp [Value.ownBlock] at hk; omega
theorem keep_alloc {w : World} {b i : Nat} {v : Value} (h : w.cell? ⟨b, i, none⟩ = some v) (o : Obj) : (w.alloc o).cell? ⟨b, i, none⟩ = some v := ((New.refl w).alloc o).cell h

set_option maxRecDepth 4000 in
set_option maxHeartbeats 4000000 in
theorem l91Tree (g m : Nat) (w : World) (h : Rd g w m) (hm : m ≤ 600000) :
    Calls Tryd.prog 38 #[.pointer (some ⟨g, 0, none⟩)] w (TreeAt g m w) := by
  have hg := h.lt
  have n0 : New w ((w.alloc (.cells #[] 28)).alloc (.cells (treePaths.map txt).toArray 9)) := ((New.refl w).alloc _).alloc _
  have o0 : OwnItems (fun j => w.heap.size ≤ j) ((w.alloc (.cells #[] 28)).alloc (.cells (treePaths.map txt).toArray 9)) (.slice (some ⟨w.heap.size, 0, none⟩) 0 0) [] := OwnRecs.new (OwnRecs.empty _ _ _) ((New.refl _).alloc _)
  have p0 : PathsIn (w.heap.size + 1) ((w.alloc (.cells #[] 28)).alloc (.cells (treePaths.map txt).toArray 9)) := by
    refine ⟨by simp, fun i l hi => ?_⟩
    have := lit_all (w.alloc (.cells #[] 28)) treePaths 9 i l hi
    rw [World.size_alloc] at this
    exact this
  have I0 : TreeInv g m 0 w ((w.alloc (.cells #[] 28)).alloc (.cells (treePaths.map txt).toArray 9)) (.slice (some ⟨w.heap.size, 0, none⟩) 0 0) [] :=
    ⟨⟨by simp, by simp⟩, o0, h.new n0, n0.chg _, p0, hg, by simp [Value.ownBlock]⟩
  have HI := Lib.hid I0
  clear n0 o0 p0 I0 h
  go_enter Tryd.func38, Tryd.ntmps38
  go_wp2_with fail
  go_loopg [3, 5] 8 (fun gk v i wr => ∃ (k : Nat) (os : List ItemR), gk = 8 - k ∧ k ≤ 8 ∧ i = .int .i64 k ∧ Hid (TreeInv g m k w wr v os))
  case atStart => exact ⟨0, [], by omega, by omega, rfl, HI⟩
  case round =>
    obtain ⟨k, os, hgk, hk, rfl, inv⟩ := hrel
    obtain ⟨⟨hol, hsm⟩, ho, hr, hc, hp, -, hvb⟩ := inv.out
    have Hgk := Lib.hid hgk
    have Hsm := Lib.hid hsm
    clear hgk hsm inv HI
    by_cases hlt : k < 8
    · obtain ⟨l, hl⟩ := get_of (show k < treePaths.length from hlt)
      have hll := treePaths_len l (List.mem_of_getElem? hl)
      have kc := hp.2 k l hl
      have zr := hc.size
      have kcd : (wr.drewN 1).cell? ⟨w.heap.size + 1, k, none⟩ = some (txt l) := kc
      unfold txt at kc kcd
      have hgb : w.heap.size + 1 ≠ g := by omega
      have hpl := hp.1
      go_upto_region 6 with fail
      go_cut [6] from 11 to 56 (fun s6 wx => ∃ (gx : Nat) (r : Int), s6 = .pointer (some ⟨gx, 0, none⟩) ∧ wr.heap.size ≤ gx ∧ XAt gx wr.heap.size l (decide (0 < r)) [] wx ∧ Mid g (m + 5 * k + 1) w wr.heap.size wx u3 os)
      case first =>
        -- six
        have hl' := hl
        have M : Mid g (m + 5 * k) w wr.heap.size (wr.drewN 1) u3 os := (Mid.start ho hr hc hp).new ((New.refl _).drewN 1)
        refine wp_region_held_drew (S := (fun w' => w'.cell? ⟨w.heap.size + 1, k, none⟩ = some (.string ⟨l.toArray⟩))) (by kernel_rfl) ?_ (fun hHeld => ?_)
        · exact kcd
        refine wpAnyH_take (i := 0) (v := ?_) (oi := ?_) ?hi_1 ?hs_1 ?hf_1 ?hr_1 ?hQ_1 ?hy_1 ?hS_1 ?h_1
        case hi_1 => (simp only [List.getElem?_toArray, List.getElem?_cons_zero] <;> rfl)
        case hs_1 => kernel_rfl
        case hf_1 => kernel_rfl
        case hr_1 => kernel_rfl
        case hQ_1 => exact fun _ _ _ h => h
        case hy_1 => (refine Or.inl ⟨by rfl, ?_⟩; intro w hSw; (try dsimp only at hSw); go_simp; try with_reducible rfl)
        case hS_1 => assumption
        try go_frame
        refine wpAnyH_take (i := 1) (v := ?_) (oi := ?_) ?hi_2 ?hs_2 ?hf_2 ?hr_2 ?hQ_2 ?hy_2 ?hS_2 ?h_2
        case hi_2 => (simp only [List.getElem?_toArray, List.getElem?_cons_zero, List.getElem?_cons_succ] <;> rfl)
        case hs_2 => kernel_rfl
        case hf_2 => kernel_rfl
        case hr_2 => kernel_rfl
        case hQ_2 => exact fun _ _ _ h => h
        case hy_2 => (refine Or.inl ⟨by rfl, ?_⟩; intro w hSw; (try dsimp only at hSw); go_simp; try with_reducible rfl)
        case hS_2 => assumption
        try go_frame
        refine wpAnyH_take (i := 2) (v := ?_) (oi := ?_) ?hi_3 ?hs_3 ?hf_3 ?hr_3 ?hQ_3 ?hy_3 ?hS_3 ?h_3
        case hi_3 => (simp only [List.getElem?_toArray, List.getElem?_cons_zero, List.getElem?_cons_succ] <;> rfl)
        case hs_3 => kernel_rfl
        case hf_3 => kernel_rfl
        case hr_3 => kernel_rfl
        case hQ_3 => exact fun _ _ _ h => h
        case hy_3 => (refine Or.inl ⟨by rfl, ?_⟩; intro w hSw; (try dsimp only at hSw); go_simp; try with_reducible rfl)
        case hS_3 => assumption
        try go_frame
        refine wpAnyH_take (i := 3) (v := ?_) (oi := ?_) ?hi_4 ?hs_4 ?hf_4 ?hr_4 ?hQ_4 ?hy_4 ?hS_4 ?h_4
        case hi_4 => (simp only [List.getElem?_toArray, List.getElem?_cons_zero, List.getElem?_cons_succ] <;> rfl)
        case hs_4 => kernel_rfl
        case hf_4 => kernel_rfl
        case hr_4 => kernel_rfl
        case hQ_4 => exact fun _ _ _ h => h
        case hy_4 => (refine Or.inl ⟨by rfl, ?_⟩; intro w hSw; (try dsimp only at hSw); go_simp; try with_reducible rfl)
        case hS_4 => assumption
        try go_frame
        refine wpAnyH_take (i := 4) (v := ?_) (oi := ?_) ?hi_5 ?hs_5 ?hf_5 ?hr_5 ?hQ_5 ?hy_5 ?hS_5 ?h_5
        case hi_5 => (simp only [List.getElem?_toArray, List.getElem?_cons_zero, List.getElem?_cons_succ] <;> rfl)
        case hs_5 => kernel_rfl
        case hf_5 => kernel_rfl
        case hr_5 => kernel_rfl
        case hQ_5 => exact fun _ _ _ h => h
        case hy_5 => (refine Or.inl ⟨by rfl, ?_⟩; intro w hSw; (try dsimp only at hSw); go_simp; try with_reducible rfl)
        case hS_5 => assumption
        try go_frame
        refine wpAnyH_ready (rs := [5, 7, 9]) (by kernel_rfl) (by simp) ?_
        refine (AllReadyH.cons (o := ?_) ?hi_6 (fun K hK => ?h_6) (AllReadyH.cons (o := ?_) ?hi_7 (fun K hK => ?h_7) (AllReadyH.cons (o := ?_) ?hi_8 (fun K hK => ?h_8) AllReadyH.nil)))
        case hi_6 => (simp only [List.getElem?_toArray, List.getElem?_cons_zero, List.getElem?_cons_succ] <;> rfl)
        case hi_7 => (simp only [List.getElem?_toArray, List.getElem?_cons_zero, List.getElem?_cons_succ] <;> rfl)
        case hi_8 => (simp only [List.getElem?_toArray, List.getElem?_cons_zero, List.getElem?_cons_succ] <;> rfl)
        · skip
          go_simp
          (refine (pick g (m + 5 * k) 3 _ M.2.1 (by omega) (by omega) (by omega)).mono ?_; rintro e w3 ⟨r, rfl, hr0, hr1, h3, c3⟩; have k3 := c3.cell kcd hgb; go_wp2_with fail)
          refine hK.out _ _ ?_ (fun hHeld => ?_)
          · exact k3
          clear hK K
          try go_frame
          replace M := M.pick h3 c3 hg
          have z3 := M.2.2.2.2
          have z4 := c3.size
          try simp only [World.size_alloc] at z4
          have zd : (wr.drewN 1).heap.size = wr.heap.size := rfl
          refine wpAnyH_take (i := 6) (v := ?_) (oi := ?_) ?hi_9 ?hs_9 ?hf_9 ?hr_9 ?hQ_9 ?hy_9 ?hS_9 ?h_9
          case hi_9 => (simp only [List.getElem?_toArray, List.getElem?_cons_zero, List.getElem?_cons_succ] <;> rfl)
          case hs_9 => kernel_rfl
          case hf_9 => kernel_rfl
          case hr_9 => kernel_rfl
          case hQ_9 => exact fun _ _ _ h => h
          case hy_9 => (refine Or.inl ⟨by rfl, ?_⟩; intro w hSw; (try dsimp only at hSw); go_simp; try with_reducible rfl)
          case hS_9 => assumption
          try go_frame
          refine wpAnyH_ready (rs := [7, 9]) (by kernel_rfl) (by simp) ?_
          refine (AllReadyH.cons (o := ?_) ?hi_10 (fun K hK => ?h_10) (AllReadyH.cons (o := ?_) ?hi_11 (fun K hK => ?h_11) AllReadyH.nil))
          case hi_10 => (simp only [List.getElem?_toArray, List.getElem?_cons_zero, List.getElem?_cons_succ] <;> rfl)
          case hi_11 => (simp only [List.getElem?_toArray, List.getElem?_cons_zero, List.getElem?_cons_succ] <;> rfl)
          · skip
            go_simp
            refine hK.out _ _ ?_ (fun hHeld => ?_)
            · exact (keep_alloc k3 _)
            clear hK K
            try go_frame
            have E : OwnInts 3 (fun j => j = w3.heap.size) (w3.alloc (.cells #[] 3)) (.slice (some ⟨w3.heap.size, 0, none⟩) 0 0) [] := by
              have h := Row.empty 3 1 w3
              exact ⟨h, by simp⟩
            replace M := M.new ((New.refl _).alloc (.cells #[] 3))
            refine wpAnyH_take (i := 8) (v := ?_) (oi := ?_) ?hi_12 ?hs_12 ?hf_12 ?hr_12 ?hQ_12 ?hy_12 ?hS_12 ?h_12
            case hi_12 => (simp only [List.getElem?_toArray, List.getElem?_cons_zero, List.getElem?_cons_succ] <;> rfl)
            case hs_12 => kernel_rfl
            case hf_12 => kernel_rfl
            case hr_12 => kernel_rfl
            case hQ_12 => exact fun _ _ _ h => h
            case hy_12 => (refine Or.inl ⟨by rfl, ?_⟩; intro w hSw; (try dsimp only at hSw); go_simp; try with_reducible rfl)
            case hS_12 => assumption
            try go_frame
            refine wpAnyH_ready (rs := [9]) (by kernel_rfl) (by simp) ?_
            refine AllReadyH.cons (o := ?_) ?hi_13 (fun K hK => ?h_13) AllReadyH.nil
            case hi_13 => (simp only [List.getElem?_toArray, List.getElem?_cons_zero, List.getElem?_cons_succ] <;> rfl)
            go_simp
            refine hK.out _ _ ?_ (fun hHeld => ?_)
            · exact (keep_alloc (keep_alloc k3 _) _)
            clear hK K
            try go_frame
            have MB := M
            have EB := E
            replace E := E.chg ((New.refl _).alloc (.cells #[.string ⟨#[]⟩, .bool false, .slice none 0 0] 28)) (fun j _ hj e => e)
            have B : ((w3.alloc (.cells #[] 3)).alloc (.cells #[.string ⟨#[]⟩, .bool false, .slice none 0 0] 28)).heap[w3.heap.size + 1]? = some (.cells #[.string ⟨#[]⟩, .bool false, .slice none 0 0] 28) := by
              have h := heap_alloc_new (w3.alloc (.cells #[] 3)) (.cells #[.string ⟨#[]⟩, .bool false, .slice none 0 0] 28)
              rw [show (w3.alloc (.cells #[] 3)).heap.size = w3.heap.size + 1 from by first | rfl | exact World.size_alloc _ _] at h
              exact h
            replace M := M.new ((New.refl _).alloc (.cells #[.string ⟨#[]⟩, .bool false, .slice none 0 0] 28))
            obtain ⟨b0, b1, b2, f0, f1, f2⟩ := set3_cells B
            have fin := MB.fin2 (l := l) (dd := decide (0 < r)) (u := .slice (some ⟨w3.heap.size, 0, none⟩) 0 0) (gx := w3.heap.size + 1) (by first | rfl | exact World.size_alloc _ _) (EB.mono (fun j _ hj => by omega)) (by omega)
            refine wpAnyH_ready (rs := [10]) (by kernel_rfl) (by simp) ?_
            refine AllReadyH.cons (o := ?_) ?hi_14 (fun K hK => ?h_14) AllReadyH.nil
            case hi_14 => (simp only [List.getElem?_toArray, List.getElem?_cons_zero, List.getElem?_cons_succ] <;> rfl)
            go_simp
            refine hK.out _ _ ?_ (fun hHeld => ?_)
            · exact fin.2.2.2.2.1.2 k l hl
            clear hK K
            try go_frame
            refine wpAnyH_done (by kernel_rfl) ?_ _
            go_wp2_with fail
            go_meet
            case rel => exact ⟨_, r, rfl, by omega, fin.1, fin.2⟩
          · skip
            go_simp
            refine hK.out _ _ ?_ (fun hHeld => ?_)
            · exact (keep_alloc k3 _)
            clear hK K
            try go_frame
            have MB := M
            have B : (w3.alloc (.cells #[.string ⟨#[]⟩, .bool false, .slice none 0 0] 28)).heap[w3.heap.size]? = some (.cells #[.string ⟨#[]⟩, .bool false, .slice none 0 0] 28) := by
              have h := heap_alloc_new w3 (.cells #[.string ⟨#[]⟩, .bool false, .slice none 0 0] 28)
              exact h
            replace M := M.new ((New.refl _).alloc (.cells #[.string ⟨#[]⟩, .bool false, .slice none 0 0] 28))
            refine wpAnyH_ready (rs := [7]) (by kernel_rfl) (by simp) ?_
            refine AllReadyH.cons (o := ?_) ?hi_15 (fun K hK => ?h_15) AllReadyH.nil
            case hi_15 => (simp only [List.getElem?_toArray, List.getElem?_cons_zero, List.getElem?_cons_succ] <;> rfl)
            go_simp
            refine hK.out _ _ ?_ (fun hHeld => ?_)
            · exact (keep_alloc (keep_alloc k3 _) _)
            clear hK K
            try go_frame
            replace B := ((New.refl _).alloc (.cells #[] 3)).heap B
            have E : OwnInts 3 (fun j => j = w3.heap.size + 1) ((w3.alloc (.cells #[.string ⟨#[]⟩, .bool false, .slice none 0 0] 28)).alloc (.cells #[] 3)) (.slice (some ⟨w3.heap.size + 1, 0, none⟩) 0 0) [] := by
              have h := Row.empty 3 1 (w3.alloc (.cells #[.string ⟨#[]⟩, .bool false, .slice none 0 0] 28))
              rw [show (w3.alloc (.cells #[.string ⟨#[]⟩, .bool false, .slice none 0 0] 28)).heap.size = w3.heap.size + 1 from by first | rfl | exact World.size_alloc _ _] at h
              exact ⟨h, by simp⟩
            replace M := M.new ((New.refl _).alloc (.cells #[] 3))
            refine wpAnyH_take (i := 8) (v := ?_) (oi := ?_) ?hi_16 ?hs_16 ?hf_16 ?hr_16 ?hQ_16 ?hy_16 ?hS_16 ?h_16
            case hi_16 => (simp only [List.getElem?_toArray, List.getElem?_cons_zero, List.getElem?_cons_succ] <;> rfl)
            case hs_16 => kernel_rfl
            case hf_16 => kernel_rfl
            case hr_16 => kernel_rfl
            case hQ_16 => exact fun _ _ _ h => h
            case hy_16 => (refine Or.inl ⟨by rfl, ?_⟩; intro w hSw; (try dsimp only at hSw); go_simp; try with_reducible rfl)
            case hS_16 => assumption
            try go_frame
            obtain ⟨b0, b1, b2, f0, f1, f2⟩ := set3_cells B
            have fin := MB.fin3 (l := l) (dd := decide (0 < r)) (by omega)
            refine wpAnyH_ready (rs := [10]) (by kernel_rfl) (by simp) ?_
            refine AllReadyH.cons (o := ?_) ?hi_17 (fun K hK => ?h_17) AllReadyH.nil
            case hi_17 => (simp only [List.getElem?_toArray, List.getElem?_cons_zero, List.getElem?_cons_succ] <;> rfl)
            go_simp
            refine hK.out _ _ ?_ (fun hHeld => ?_)
            · exact fin.2.2.2.2.1.2 k l hl
            clear hK K
            try go_frame
            refine wpAnyH_done (by kernel_rfl) ?_ _
            go_wp2_with fail
            go_meet
            case rel => exact ⟨_, r, rfl, by omega, fin.1, fin.2⟩
        · skip
          go_simp
          refine hK.out _ _ ?_ (fun hHeld => ?_)
          · exact (keep_alloc kcd _)
          clear hK K
          try go_frame
          have E : OwnInts 3 (fun j => j = wr.heap.size) ((wr.drewN 1).alloc (.cells #[] 3)) (.slice (some ⟨wr.heap.size, 0, none⟩) 0 0) [] := by
            have h := Row.empty 3 1 (wr.drewN 1)
            rw [show (wr.drewN 1).heap.size = wr.heap.size from by first | rfl | exact World.size_alloc _ _] at h
            exact ⟨h, by simp⟩
          replace M := M.new ((New.refl _).alloc (.cells #[] 3))
          refine wpAnyH_ready (rs := [5, 9]) (by kernel_rfl) (by simp) ?_
          refine (AllReadyH.cons (o := ?_) ?hi_18 (fun K hK => ?h_18) (AllReadyH.cons (o := ?_) ?hi_19 (fun K hK => ?h_19) AllReadyH.nil))
          case hi_18 => (simp only [List.getElem?_toArray, List.getElem?_cons_zero, List.getElem?_cons_succ] <;> rfl)
          case hi_19 => (simp only [List.getElem?_toArray, List.getElem?_cons_zero, List.getElem?_cons_succ] <;> rfl)
          · skip
            go_simp
            (refine (pick g (m + 5 * k) 3 _ M.2.1 (by omega) (by omega) (by omega)).mono ?_; rintro e w3 ⟨r, rfl, hr0, hr1, h3, c3⟩; have k3 := c3.cell (keep_alloc kcd _) hgb; go_wp2_with fail)
            refine hK.out _ _ ?_ (fun hHeld => ?_)
            · exact k3
            clear hK K
            try go_frame
            replace M := M.pick h3 c3 hg
            have z3 := M.2.2.2.2
            have z4 := c3.size
            try simp only [World.size_alloc] at z4
            have zd : (wr.drewN 1).heap.size = wr.heap.size := rfl
            replace E := E.chg c3 (fun j _ hj e => by omega)
            refine wpAnyH_take (i := 6) (v := ?_) (oi := ?_) ?hi_20 ?hs_20 ?hf_20 ?hr_20 ?hQ_20 ?hy_20 ?hS_20 ?h_20
            case hi_20 => (simp only [List.getElem?_toArray, List.getElem?_cons_zero, List.getElem?_cons_succ] <;> rfl)
            case hs_20 => kernel_rfl
            case hf_20 => kernel_rfl
            case hr_20 => kernel_rfl
            case hQ_20 => exact fun _ _ _ h => h
            case hy_20 => (refine Or.inl ⟨by rfl, ?_⟩; intro w hSw; (try dsimp only at hSw); go_simp; try with_reducible rfl)
            case hS_20 => assumption
            try go_frame
            refine wpAnyH_take (i := 8) (v := ?_) (oi := ?_) ?hi_21 ?hs_21 ?hf_21 ?hr_21 ?hQ_21 ?hy_21 ?hS_21 ?h_21
            case hi_21 => (simp only [List.getElem?_toArray, List.getElem?_cons_zero, List.getElem?_cons_succ] <;> rfl)
            case hs_21 => kernel_rfl
            case hf_21 => kernel_rfl
            case hr_21 => kernel_rfl
            case hQ_21 => exact fun _ _ _ h => h
            case hy_21 => (refine Or.inl ⟨by rfl, ?_⟩; intro w hSw; (try dsimp only at hSw); go_simp; try with_reducible rfl)
            case hS_21 => assumption
            try go_frame
            refine wpAnyH_ready (rs := [9]) (by kernel_rfl) (by simp) ?_
            refine AllReadyH.cons (o := ?_) ?hi_22 (fun K hK => ?h_22) AllReadyH.nil
            case hi_22 => (simp only [List.getElem?_toArray, List.getElem?_cons_zero, List.getElem?_cons_succ] <;> rfl)
            go_simp
            refine hK.out _ _ ?_ (fun hHeld => ?_)
            · exact (keep_alloc k3 _)
            clear hK K
            try go_frame
            have MB := M
            have EB := E
            replace E := E.chg ((New.refl _).alloc (.cells #[.string ⟨#[]⟩, .bool false, .slice none 0 0] 28)) (fun j _ hj e => e)
            have B : (w3.alloc (.cells #[.string ⟨#[]⟩, .bool false, .slice none 0 0] 28)).heap[w3.heap.size]? = some (.cells #[.string ⟨#[]⟩, .bool false, .slice none 0 0] 28) := by
              have h := heap_alloc_new w3 (.cells #[.string ⟨#[]⟩, .bool false, .slice none 0 0] 28)
              exact h
            replace M := M.new ((New.refl _).alloc (.cells #[.string ⟨#[]⟩, .bool false, .slice none 0 0] 28))
            obtain ⟨b0, b1, b2, f0, f1, f2⟩ := set3_cells B
            have fin := MB.fin2 (l := l) (dd := decide (0 < r)) (u := .slice (some ⟨wr.heap.size, 0, none⟩) 0 0) (gx := w3.heap.size) (by first | rfl | exact World.size_alloc _ _) (EB.mono (fun j _ hj => by omega)) (by omega)
            refine wpAnyH_ready (rs := [10]) (by kernel_rfl) (by simp) ?_
            refine AllReadyH.cons (o := ?_) ?hi_23 (fun K hK => ?h_23) AllReadyH.nil
            case hi_23 => (simp only [List.getElem?_toArray, List.getElem?_cons_zero, List.getElem?_cons_succ] <;> rfl)
            go_simp
            refine hK.out _ _ ?_ (fun hHeld => ?_)
            · exact fin.2.2.2.2.1.2 k l hl
            clear hK K
            try go_frame
            refine wpAnyH_done (by kernel_rfl) ?_ _
            go_wp2_with fail
            go_meet
            case rel => exact ⟨_, r, rfl, by omega, fin.1, fin.2⟩
          · skip
            go_simp
            refine hK.out _ _ ?_ (fun hHeld => ?_)
            · exact (keep_alloc (keep_alloc kcd _) _)
            clear hK K
            try go_frame
            have MB := M
            have EB := E
            replace E := E.chg ((New.refl _).alloc (.cells #[.string ⟨#[]⟩, .bool false, .slice none 0 0] 28)) (fun j _ hj e => e)
            have B : (((wr.drewN 1).alloc (.cells #[] 3)).alloc (.cells #[.string ⟨#[]⟩, .bool false, .slice none 0 0] 28)).heap[wr.heap.size + 1]? = some (.cells #[.string ⟨#[]⟩, .bool false, .slice none 0 0] 28) := by
              have h := heap_alloc_new ((wr.drewN 1).alloc (.cells #[] 3)) (.cells #[.string ⟨#[]⟩, .bool false, .slice none 0 0] 28)
              rw [show ((wr.drewN 1).alloc (.cells #[] 3)).heap.size = wr.heap.size + 1 from by first | rfl | exact World.size_alloc _ _] at h
              exact h
            replace M := M.new ((New.refl _).alloc (.cells #[.string ⟨#[]⟩, .bool false, .slice none 0 0] 28))
            refine wpAnyH_ready (rs := [5]) (by kernel_rfl) (by simp) ?_
            refine AllReadyH.cons (o := ?_) ?hi_24 (fun K hK => ?h_24) AllReadyH.nil
            case hi_24 => (simp only [List.getElem?_toArray, List.getElem?_cons_zero, List.getElem?_cons_succ] <;> rfl)
            go_simp
            (refine (pick g (m + 5 * k) 3 _ M.2.1 (by omega) (by omega) (by omega)).mono ?_; rintro e w3 ⟨r, rfl, hr0, hr1, h3, c3⟩; have k3 := c3.cell (keep_alloc (keep_alloc kcd _) _) hgb; go_wp2_with fail)
            refine hK.out _ _ ?_ (fun hHeld => ?_)
            · exact k3
            clear hK K
            try go_frame
            replace M := M.pick h3 c3 hg
            have z3 := M.2.2.2.2
            have z4 := c3.size
            try simp only [World.size_alloc] at z4
            have zd : (wr.drewN 1).heap.size = wr.heap.size := rfl
            replace B := c3.heap B (by omega)
            replace E := E.chg c3 (fun j _ hj e => by omega)
            refine wpAnyH_take (i := 6) (v := ?_) (oi := ?_) ?hi_25 ?hs_25 ?hf_25 ?hr_25 ?hQ_25 ?hy_25 ?hS_25 ?h_25
            case hi_25 => (simp only [List.getElem?_toArray, List.getElem?_cons_zero, List.getElem?_cons_succ] <;> rfl)
            case hs_25 => kernel_rfl
            case hf_25 => kernel_rfl
            case hr_25 => kernel_rfl
            case hQ_25 => exact fun _ _ _ h => h
            case hy_25 => (refine Or.inl ⟨by rfl, ?_⟩; intro w hSw; (try dsimp only at hSw); go_simp; try with_reducible rfl)
            case hS_25 => assumption
            try go_frame
            refine wpAnyH_take (i := 8) (v := ?_) (oi := ?_) ?hi_26 ?hs_26 ?hf_26 ?hr_26 ?hQ_26 ?hy_26 ?hS_26 ?h_26
            case hi_26 => (simp only [List.getElem?_toArray, List.getElem?_cons_zero, List.getElem?_cons_succ] <;> rfl)
            case hs_26 => kernel_rfl
            case hf_26 => kernel_rfl
            case hr_26 => kernel_rfl
            case hQ_26 => exact fun _ _ _ h => h
            case hy_26 => (refine Or.inl ⟨by rfl, ?_⟩; intro w hSw; (try dsimp only at hSw); go_simp; try with_reducible rfl)
            case hS_26 => assumption
            try go_frame
            obtain ⟨b0, b1, b2, f0, f1, f2⟩ := set3_cells B
            have fin := M.fin (l := l) (dd := decide (0 < r)) (u := .slice (some ⟨wr.heap.size, 0, none⟩) 0 0) B (E.mono (fun j _ hj => by omega)) (by omega) hg zr hpl
            refine wpAnyH_ready (rs := [10]) (by kernel_rfl) (by simp) ?_
            refine AllReadyH.cons (o := ?_) ?hi_27 (fun K hK => ?h_27) AllReadyH.nil
            case hi_27 => (simp only [List.getElem?_toArray, List.getElem?_cons_zero, List.getElem?_cons_succ] <;> rfl)
            go_simp
            refine hK.out _ _ ?_ (fun hHeld => ?_)
            · exact fin.2.2.2.2.1.2 k l hl
            clear hK K
            try go_frame
            refine wpAnyH_done (by kernel_rfl) ?_ _
            go_wp2_with fail
            go_meet
            case rel => exact ⟨_, r, rfl, by omega, fin.1, fin.2⟩
        · skip
          go_simp
          refine hK.out _ _ ?_ (fun hHeld => ?_)
          · exact (keep_alloc kcd _)
          clear hK K
          try go_frame
          have MB := M
          have B : ((wr.drewN 1).alloc (.cells #[.string ⟨#[]⟩, .bool false, .slice none 0 0] 28)).heap[wr.heap.size]? = some (.cells #[.string ⟨#[]⟩, .bool false, .slice none 0 0] 28) := by
            have h := heap_alloc_new (wr.drewN 1) (.cells #[.string ⟨#[]⟩, .bool false, .slice none 0 0] 28)
            rw [show (wr.drewN 1).heap.size = wr.heap.size from by first | rfl | exact World.size_alloc _ _] at h
            exact h
          replace M := M.new ((New.refl _).alloc (.cells #[.string ⟨#[]⟩, .bool false, .slice none 0 0] 28))
          refine wpAnyH_ready (rs := [5, 7]) (by kernel_rfl) (by simp) ?_
          refine (AllReadyH.cons (o := ?_) ?hi_28 (fun K hK => ?h_28) (AllReadyH.cons (o := ?_) ?hi_29 (fun K hK => ?h_29) AllReadyH.nil))
          case hi_28 => (simp only [List.getElem?_toArray, List.getElem?_cons_zero, List.getElem?_cons_succ] <;> rfl)
          case hi_29 => (simp only [List.getElem?_toArray, List.getElem?_cons_zero, List.getElem?_cons_succ] <;> rfl)
          · skip
            go_simp
            (refine (pick g (m + 5 * k) 3 _ M.2.1 (by omega) (by omega) (by omega)).mono ?_; rintro e w3 ⟨r, rfl, hr0, hr1, h3, c3⟩; have k3 := c3.cell (keep_alloc kcd _) hgb; go_wp2_with fail)
            refine hK.out _ _ ?_ (fun hHeld => ?_)
            · exact k3
            clear hK K
            try go_frame
            replace M := M.pick h3 c3 hg
            have z3 := M.2.2.2.2
            have z4 := c3.size
            try simp only [World.size_alloc] at z4
            have zd : (wr.drewN 1).heap.size = wr.heap.size := rfl
            replace B := c3.heap B (by omega)
            refine wpAnyH_take (i := 6) (v := ?_) (oi := ?_) ?hi_30 ?hs_30 ?hf_30 ?hr_30 ?hQ_30 ?hy_30 ?hS_30 ?h_30
            case hi_30 => (simp only [List.getElem?_toArray, List.getElem?_cons_zero, List.getElem?_cons_succ] <;> rfl)
            case hs_30 => kernel_rfl
            case hf_30 => kernel_rfl
            case hr_30 => kernel_rfl
            case hQ_30 => exact fun _ _ _ h => h
            case hy_30 => (refine Or.inl ⟨by rfl, ?_⟩; intro w hSw; (try dsimp only at hSw); go_simp; try with_reducible rfl)
            case hS_30 => assumption
            try go_frame
            refine wpAnyH_ready (rs := [7]) (by kernel_rfl) (by simp) ?_
            refine AllReadyH.cons (o := ?_) ?hi_31 (fun K hK => ?h_31) AllReadyH.nil
            case hi_31 => (simp only [List.getElem?_toArray, List.getElem?_cons_zero, List.getElem?_cons_succ] <;> rfl)
            go_simp
            refine hK.out _ _ ?_ (fun hHeld => ?_)
            · exact (keep_alloc k3 _)
            clear hK K
            try go_frame
            replace B := ((New.refl _).alloc (.cells #[] 3)).heap B
            have E : OwnInts 3 (fun j => j = w3.heap.size) (w3.alloc (.cells #[] 3)) (.slice (some ⟨w3.heap.size, 0, none⟩) 0 0) [] := by
              have h := Row.empty 3 1 w3
              exact ⟨h, by simp⟩
            replace M := M.new ((New.refl _).alloc (.cells #[] 3))
            refine wpAnyH_take (i := 8) (v := ?_) (oi := ?_) ?hi_32 ?hs_32 ?hf_32 ?hr_32 ?hQ_32 ?hy_32 ?hS_32 ?h_32
            case hi_32 => (simp only [List.getElem?_toArray, List.getElem?_cons_zero, List.getElem?_cons_succ] <;> rfl)
            case hs_32 => kernel_rfl
            case hf_32 => kernel_rfl
            case hr_32 => kernel_rfl
            case hQ_32 => exact fun _ _ _ h => h
            case hy_32 => (refine Or.inl ⟨by rfl, ?_⟩; intro w hSw; (try dsimp only at hSw); go_simp; try with_reducible rfl)
            case hS_32 => assumption
            try go_frame
            obtain ⟨b0, b1, b2, f0, f1, f2⟩ := set3_cells B
            have fin := M.fin (l := l) (dd := decide (0 < r)) (u := .slice (some ⟨w3.heap.size, 0, none⟩) 0 0) B (E.mono (fun j _ hj => by omega)) (by omega) hg zr hpl
            refine wpAnyH_ready (rs := [10]) (by kernel_rfl) (by simp) ?_
            refine AllReadyH.cons (o := ?_) ?hi_33 (fun K hK => ?h_33) AllReadyH.nil
            case hi_33 => (simp only [List.getElem?_toArray, List.getElem?_cons_zero, List.getElem?_cons_succ] <;> rfl)
            go_simp
            refine hK.out _ _ ?_ (fun hHeld => ?_)
            · exact fin.2.2.2.2.1.2 k l hl
            clear hK K
            try go_frame
            refine wpAnyH_done (by kernel_rfl) ?_ _
            go_wp2_with fail
            go_meet
            case rel => exact ⟨_, r, rfl, by omega, fin.1, fin.2⟩
          · skip
            go_simp
            refine hK.out _ _ ?_ (fun hHeld => ?_)
            · exact (keep_alloc (keep_alloc kcd _) _)
            clear hK K
            try go_frame
            replace B := ((New.refl _).alloc (.cells #[] 3)).heap B
            have E : OwnInts 3 (fun j => j = wr.heap.size + 1) (((wr.drewN 1).alloc (.cells #[.string ⟨#[]⟩, .bool false, .slice none 0 0] 28)).alloc (.cells #[] 3)) (.slice (some ⟨wr.heap.size + 1, 0, none⟩) 0 0) [] := by
              have h := Row.empty 3 1 ((wr.drewN 1).alloc (.cells #[.string ⟨#[]⟩, .bool false, .slice none 0 0] 28))
              rw [show ((wr.drewN 1).alloc (.cells #[.string ⟨#[]⟩, .bool false, .slice none 0 0] 28)).heap.size = wr.heap.size + 1 from by first | rfl | exact World.size_alloc _ _] at h
              exact ⟨h, by simp⟩
            replace M := M.new ((New.refl _).alloc (.cells #[] 3))
            refine wpAnyH_ready (rs := [5]) (by kernel_rfl) (by simp) ?_
            refine AllReadyH.cons (o := ?_) ?hi_34 (fun K hK => ?h_34) AllReadyH.nil
            case hi_34 => (simp only [List.getElem?_toArray, List.getElem?_cons_zero, List.getElem?_cons_succ] <;> rfl)
            go_simp
            (refine (pick g (m + 5 * k) 3 _ M.2.1 (by omega) (by omega) (by omega)).mono ?_; rintro e w3 ⟨r, rfl, hr0, hr1, h3, c3⟩; have k3 := c3.cell (keep_alloc (keep_alloc kcd _) _) hgb; go_wp2_with fail)
            refine hK.out _ _ ?_ (fun hHeld => ?_)
            · exact k3
            clear hK K
            try go_frame
            replace M := M.pick h3 c3 hg
            have z3 := M.2.2.2.2
            have z4 := c3.size
            try simp only [World.size_alloc] at z4
            have zd : (wr.drewN 1).heap.size = wr.heap.size := rfl
            replace B := c3.heap B (by omega)
            replace E := E.chg c3 (fun j _ hj e => by omega)
            refine wpAnyH_take (i := 6) (v := ?_) (oi := ?_) ?hi_35 ?hs_35 ?hf_35 ?hr_35 ?hQ_35 ?hy_35 ?hS_35 ?h_35
            case hi_35 => (simp only [List.getElem?_toArray, List.getElem?_cons_zero, List.getElem?_cons_succ] <;> rfl)
            case hs_35 => kernel_rfl
            case hf_35 => kernel_rfl
            case hr_35 => kernel_rfl
            case hQ_35 => exact fun _ _ _ h => h
            case hy_35 => (refine Or.inl ⟨by rfl, ?_⟩; intro w hSw; (try dsimp only at hSw); go_simp; try with_reducible rfl)
            case hS_35 => assumption
            try go_frame
            refine wpAnyH_take (i := 8) (v := ?_) (oi := ?_) ?hi_36 ?hs_36 ?hf_36 ?hr_36 ?hQ_36 ?hy_36 ?hS_36 ?h_36
            case hi_36 => (simp only [List.getElem?_toArray, List.getElem?_cons_zero, List.getElem?_cons_succ] <;> rfl)
            case hs_36 => kernel_rfl
            case hf_36 => kernel_rfl
            case hr_36 => kernel_rfl
            case hQ_36 => exact fun _ _ _ h => h
            case hy_36 => (refine Or.inl ⟨by rfl, ?_⟩; intro w hSw; (try dsimp only at hSw); go_simp; try with_reducible rfl)
            case hS_36 => assumption
            try go_frame
            obtain ⟨b0, b1, b2, f0, f1, f2⟩ := set3_cells B
            have fin := M.fin (l := l) (dd := decide (0 < r)) (u := .slice (some ⟨wr.heap.size + 1, 0, none⟩) 0 0) B (E.mono (fun j _ hj => by omega)) (by omega) hg zr hpl
            refine wpAnyH_ready (rs := [10]) (by kernel_rfl) (by simp) ?_
            refine AllReadyH.cons (o := ?_) ?hi_37 (fun K hK => ?h_37) AllReadyH.nil
            case hi_37 => (simp only [List.getElem?_toArray, List.getElem?_cons_zero, List.getElem?_cons_succ] <;> rfl)
            go_simp
            refine hK.out _ _ ?_ (fun hHeld => ?_)
            · exact fin.2.2.2.2.1.2 k l hl
            clear hK K
            try go_frame
            refine wpAnyH_done (by kernel_rfl) ?_ _
            go_wp2_with fail
            go_meet
            case rel => exact ⟨_, r, rfl, by omega, fin.1, fin.2⟩
        -- six end
      case rest =>
        obtain ⟨gx, r, rfl, hgx, X, M⟩ := hcut
        have hl5 : m + 5 * k + 5 ≤ 700000 := by omega
        have Hvb := Lib.hid hvb
        clear kc kcd ho hr hc hp hl hvb
        generalize hB : wr.heap.size = B at *
        clear hB
        obtain ⟨u, x1, x2⟩ := X
        obtain ⟨b0, b1, b2, f0, f1, f2⟩ := set3_cells x1
        have M1 := Lib.hid M
        have X1 := Lib.hid x1
        have X2 := Lib.hid x2
        clear x1 x2 M
        generalize decide (0 < r) = dd at *
        go_upto_if 28 with fail
        go_cut [7, 8] from 11 to 56 (fun s7 s8 wy => ∃ xs : List Int, xs.length ≤ 3 ∧ XAt gx B l dd xs wy ∧ Mid g (m + 5 * k + 4) w B wy u3 os)
        case first =>
          rcases dd with _ | _
          · go_wp2_with fail
            refine (pick g (m + 5 * k + 1) 3 wc M1.out.2.1 (by omega) (by omega) (by omega)).mono ?_
            rintro e w4 ⟨n, rfl, hn0, hn1, h4, c4⟩
            obtain ⟨n, rfl⟩ : ∃ q : Nat, n = q := ⟨n.toNat, by omega⟩
            have I4 := Lib.hid (And.intro (XAt.chg ⟨u, X1.out, X2.out⟩ c4 (fun j hj => ⟨by omega, by omega⟩)) (M1.out.pick h4 c4 hg))
            clear b0 b1 b2 f0 f1 f2 X1 X2 M1 h4 c4
            go_wp2_with fail
            go_loopg [8] n (fun gk2 s8 wy => ∃ (q : Nat) (xs : List Int), gk2 = n - q ∧ q ≤ n ∧ s8 = .int .i64 q ∧ xs.length ≤ q ∧ Hid (XAt gx B l false xs wy ∧ Mid g (m + 5 * k + 2 + q) w B wy u3 os))
            case atStart => exact ⟨0, [], by omega, by omega, rfl, by simp, I4⟩
            case round =>
              obtain ⟨q, xs, hgk2, hq, rfl, hxl, I⟩ := hrel
              have Hgk2 := Lib.hid hgk2
              clear hgk2 I4
              by_cases hql : q < n
              · obtain ⟨⟨u5, x1, x2⟩, M5⟩ := I.out
                obtain ⟨a5, d5, rfl, s1, s2⟩ := x2.shape
                obtain ⟨b0, b1, b2, -, -, f2⟩ := set3_cells x1
                have X1 := Lib.hid x1
                have X2 := Lib.hid x2
                have M5 := Lib.hid M5
                clear I x1 x2
                unfold maxLen at s2
                have k2d : (wr.drewN 1).cell? ⟨gx, 2, none⟩ = some (.slice a5 xs.length d5) := b2
                go_wp2_with fail
                -- twelve
                refine wp_region_held_drew (S := (fun _ => True)) (by kernel_rfl) ?_ (fun hHeld => ?_)
                · exact trivial
                refine wpAnyH_take (i := 0) (v := ?_) (oi := ?_) ?hi_38 ?hs_38 ?hf_38 ?hr_38 ?hQ_38 ?hy_38 ?hS_38 ?h_38
                case hi_38 => (simp only [List.getElem?_toArray, List.getElem?_cons_zero] <;> rfl)
                case hs_38 => kernel_rfl
                case hf_38 => kernel_rfl
                case hr_38 => kernel_rfl
                case hQ_38 => exact fun _ _ _ h => h
                case hy_38 => (refine Or.inl ⟨by rfl, ?_⟩; intro w hSw; (try dsimp only at hSw); go_simp; try with_reducible rfl)
                case hS_38 => assumption
                try go_frame
                refine wpAnyH_take (i := 2) (v := ?_) (oi := ?_) ?hi_39 ?hs_39 ?hf_39 ?hr_39 ?hQ_39 ?hy_39 ?hS_39 ?h_39
                case hi_39 => (simp only [List.getElem?_toArray, List.getElem?_cons_zero, List.getElem?_cons_succ] <;> rfl)
                case hs_39 => kernel_rfl
                case hf_39 => kernel_rfl
                case hr_39 => kernel_rfl
                case hQ_39 => exact fun _ _ _ h => h
                case hy_39 => (refine Or.inl ⟨by rfl, ?_⟩; intro w hSw; (try dsimp only at hSw); go_simp; try with_reducible rfl)
                case hS_39 => assumption
                try go_frame
                refine wpAnyH_ready (rs := [1, 3]) (by kernel_rfl) (by simp) ?_
                refine (AllReadyH.cons (o := ?_) ?hi_40 (fun K hK => ?h_40) (AllReadyH.cons (o := ?_) ?hi_41 (fun K hK => ?h_41) AllReadyH.nil))
                case hi_40 => (simp only [List.getElem?_toArray, List.getElem?_cons_zero, List.getElem?_cons_succ] <;> rfl)
                case hi_41 => (simp only [List.getElem?_toArray, List.getElem?_cons_zero, List.getElem?_cons_succ] <;> rfl)
                · skip
                  go_simp
                  refine hK.out _ _ ?_ (fun hHeld => ?_)
                  · exact trivial
                  clear hK K
                  try go_frame
                  refine wpAnyH_ready (rs := [3]) (by kernel_rfl) (by simp) ?_
                  refine AllReadyH.cons (o := ?_) ?hi_42 (fun K hK => ?h_42) AllReadyH.nil
                  case hi_42 => (simp only [List.getElem?_toArray, List.getElem?_cons_zero, List.getElem?_cons_succ] <;> rfl)
                  go_simp
                  (refine (pick g (m + 5 * k + 2 + q) 6 _ (M5.out.2.1.new ((New.refl _).drewN 1)) (by omega) (by omega) (by omega)).mono ?_; rintro e w6 ⟨t, rfl, ht0, ht1, h6, c6⟩; have k6 := c6.cell k2d (by omega); have hwr : IntKind.i64.wrap (1 + t) = 1 + t := by { simp [IntKind.wrap, IntKind.bits, IntKind.signed]; omega }; go_wp2_with fail)
                  refine hK.out _ _ ?_ (fun hHeld => ?_)
                  · exact trivial
                  clear hK K
                  try go_frame
                  refine wpAnyH_take (i := 4) (v := ?_) (oi := ?_) ?hi_43 ?hs_43 ?hf_43 ?hr_43 ?hQ_43 ?hy_43 ?hS_43 ?h_43
                  case hi_43 => (simp only [List.getElem?_toArray, List.getElem?_cons_zero, List.getElem?_cons_succ] <;> rfl)
                  case hs_43 => kernel_rfl
                  case hf_43 => kernel_rfl
                  case hr_43 => kernel_rfl
                  case hQ_43 => exact fun _ _ _ h => h
                  case hy_43 => (refine Or.inl ⟨by rfl, ?_⟩; intro w hSw; (try dsimp only at hSw); go_simp; try with_reducible rfl)
                  case hS_43 => assumption
                  try go_frame
                  refine wpAnyH_ready (rs := [5]) (by kernel_rfl) (by simp) ?_
                  refine AllReadyH.cons (o := ?_) ?hi_44 (fun K hK => ?h_44) AllReadyH.nil
                  case hi_44 => (simp only [List.getElem?_toArray, List.getElem?_cons_zero, List.getElem?_cons_succ] <;> rfl)
                  go_simp
                  refine hK.out _ _ ?_ (fun hHeld => ?_)
                  · exact trivial
                  clear hK K
                  try go_frame
                  refine wpAnyH_ready (rs := [6]) (by kernel_rfl) (by simp) ?_
                  refine (AllReadyH.cons (o := ?_) ?hi_45 (fun K hK => ?h_45) AllReadyH.nil)
                  case hi_45 => (simp only [List.getElem?_toArray, List.getElem?_cons_zero, List.getElem?_cons_succ] <;> rfl)
                  refine stepRow_appendRec slInt _ _ rfl rfl (.slice a5 xs.length d5) xs.length (xs.map (Value.int .i64)) [.int .i64 (1 + t)] 3 rfl ((X2.out.new ((New.refl _).drewN 1)).chg c6 (fun j _ hj e => by omega)).1 rfl (by intro u hu; simp at hu; subst hu; rfl) rfl (by omega) (by decide) ?_
                  intro v7 w7 q7 c7
                  obtain ⟨a7, d7, rfl, -⟩ := q7.shape
                  have e7 : Value.ownBlock (.slice a5 xs.length d5) ≠ some gx := (fun e => (X2.out.1.2 gx e).2 rfl)
                  have g7 := c7.heap (c6.heap X1.out (by omega)) e7
                  obtain ⟨-, -, k7, -, -, f7⟩ := set3_cells g7
                  refine hK.out _ _ ?_ (fun hHeld => ?_)
                  · trivial
                  clear hK K
                  try go_frame
                  refine wpAnyH_take (i := 7) (v := ?_) (oi := ?_) ?hi_46 ?hs_46 ?hf_46 ?hr_46 ?hQ_46 ?hy_46 ?hS_46 ?h_46
                  case hi_46 => (simp only [List.getElem?_toArray, List.getElem?_cons_zero, List.getElem?_cons_succ] <;> rfl)
                  case hs_46 => kernel_rfl
                  case hf_46 => kernel_rfl
                  case hr_46 => kernel_rfl
                  case hQ_46 => exact fun _ _ _ h => h
                  case hy_46 => (refine Or.inl ⟨by rfl, ?_⟩; intro w hSw; (try dsimp only at hSw); go_simp; try with_reducible rfl)
                  case hS_46 => assumption
                  try go_frame
                  refine wpAnyH_ready (rs := [8]) (by kernel_rfl) (by simp) ?_
                  refine AllReadyH.cons (o := ?_) ?hi_47 (fun K hK => ?h_47) AllReadyH.nil
                  case hi_47 => (simp only [List.getElem?_toArray, List.getElem?_cons_zero, List.getElem?_cons_succ] <;> rfl)
                  go_simp
                  refine hK.out _ _ ?_ (fun hHeld => ?_)
                  · exact trivial
                  clear hK K
                  try go_frame
                  refine wpAnyH_done (by kernel_rfl) ?_ _
                  go_wp2_with fail
                  have fin := mid_snoc M5.out X1.out X2.out (by omega) (by omega) hg zr hpl hgx h6 c6 q7 c7
                  go_roundg (n - (q + 1))
                  case measure => rw [Hgk2.out]; omega
                  case rel => exact ⟨q + 1, xs ++ [1 + t], rfl, by omega, by go_num, by simp; omega, Lib.hid ⟨fin.1, fin.2.le (by omega)⟩⟩
                · skip
                  go_simp
                  (refine (pick g (m + 5 * k + 2 + q) 6 _ (M5.out.2.1.new ((New.refl _).drewN 1)) (by omega) (by omega) (by omega)).mono ?_; rintro e w6 ⟨t, rfl, ht0, ht1, h6, c6⟩; have k6 := c6.cell k2d (by omega); have hwr : IntKind.i64.wrap (1 + t) = 1 + t := by { simp [IntKind.wrap, IntKind.bits, IntKind.signed]; omega }; go_wp2_with fail)
                  refine hK.out _ _ ?_ (fun hHeld => ?_)
                  · exact trivial
                  clear hK K
                  try go_frame
                  refine wpAnyH_take (i := 4) (v := ?_) (oi := ?_) ?hi_48 ?hs_48 ?hf_48 ?hr_48 ?hQ_48 ?hy_48 ?hS_48 ?h_48
                  case hi_48 => (simp only [List.getElem?_toArray, List.getElem?_cons_zero, List.getElem?_cons_succ] <;> rfl)
                  case hs_48 => kernel_rfl
                  case hf_48 => kernel_rfl
                  case hr_48 => kernel_rfl
                  case hQ_48 => exact fun _ _ _ h => h
                  case hy_48 => (refine Or.inl ⟨by rfl, ?_⟩; intro w hSw; (try dsimp only at hSw); go_simp; try with_reducible rfl)
                  case hS_48 => assumption
                  try go_frame
                  refine wpAnyH_ready (rs := [1, 5]) (by kernel_rfl) (by simp) ?_
                  refine (AllReadyH.cons (o := ?_) ?hi_49 (fun K hK => ?h_49) (AllReadyH.cons (o := ?_) ?hi_50 (fun K hK => ?h_50) AllReadyH.nil))
                  case hi_49 => (simp only [List.getElem?_toArray, List.getElem?_cons_zero, List.getElem?_cons_succ] <;> rfl)
                  case hi_50 => (simp only [List.getElem?_toArray, List.getElem?_cons_zero, List.getElem?_cons_succ] <;> rfl)
                  · skip
                    go_simp
                    refine hK.out _ _ ?_ (fun hHeld => ?_)
                    · exact trivial
                    clear hK K
                    try go_frame
                    refine wpAnyH_ready (rs := [5]) (by kernel_rfl) (by simp) ?_
                    refine AllReadyH.cons (o := ?_) ?hi_51 (fun K hK => ?h_51) AllReadyH.nil
                    case hi_51 => (simp only [List.getElem?_toArray, List.getElem?_cons_zero, List.getElem?_cons_succ] <;> rfl)
                    go_simp
                    refine hK.out _ _ ?_ (fun hHeld => ?_)
                    · exact trivial
                    clear hK K
                    try go_frame
                    refine wpAnyH_ready (rs := [6]) (by kernel_rfl) (by simp) ?_
                    refine (AllReadyH.cons (o := ?_) ?hi_52 (fun K hK => ?h_52) AllReadyH.nil)
                    case hi_52 => (simp only [List.getElem?_toArray, List.getElem?_cons_zero, List.getElem?_cons_succ] <;> rfl)
                    refine stepRow_appendRec slInt _ _ rfl rfl (.slice a5 xs.length d5) xs.length (xs.map (Value.int .i64)) [.int .i64 (1 + t)] 3 rfl ((X2.out.new ((New.refl _).drewN 1)).chg c6 (fun j _ hj e => by omega)).1 rfl (by intro u hu; simp at hu; subst hu; rfl) rfl (by omega) (by decide) ?_
                    intro v7 w7 q7 c7
                    obtain ⟨a7, d7, rfl, -⟩ := q7.shape
                    have e7 : Value.ownBlock (.slice a5 xs.length d5) ≠ some gx := (fun e => (X2.out.1.2 gx e).2 rfl)
                    have g7 := c7.heap (c6.heap X1.out (by omega)) e7
                    obtain ⟨-, -, k7, -, -, f7⟩ := set3_cells g7
                    refine hK.out _ _ ?_ (fun hHeld => ?_)
                    · trivial
                    clear hK K
                    try go_frame
                    refine wpAnyH_take (i := 7) (v := ?_) (oi := ?_) ?hi_53 ?hs_53 ?hf_53 ?hr_53 ?hQ_53 ?hy_53 ?hS_53 ?h_53
                    case hi_53 => (simp only [List.getElem?_toArray, List.getElem?_cons_zero, List.getElem?_cons_succ] <;> rfl)
                    case hs_53 => kernel_rfl
                    case hf_53 => kernel_rfl
                    case hr_53 => kernel_rfl
                    case hQ_53 => exact fun _ _ _ h => h
                    case hy_53 => (refine Or.inl ⟨by rfl, ?_⟩; intro w hSw; (try dsimp only at hSw); go_simp; try with_reducible rfl)
                    case hS_53 => assumption
                    try go_frame
                    refine wpAnyH_ready (rs := [8]) (by kernel_rfl) (by simp) ?_
                    refine AllReadyH.cons (o := ?_) ?hi_54 (fun K hK => ?h_54) AllReadyH.nil
                    case hi_54 => (simp only [List.getElem?_toArray, List.getElem?_cons_zero, List.getElem?_cons_succ] <;> rfl)
                    go_simp
                    refine hK.out _ _ ?_ (fun hHeld => ?_)
                    · exact trivial
                    clear hK K
                    try go_frame
                    refine wpAnyH_done (by kernel_rfl) ?_ _
                    go_wp2_with fail
                    have fin := mid_snoc M5.out X1.out X2.out (by omega) (by omega) hg zr hpl hgx h6 c6 q7 c7
                    go_roundg (n - (q + 1))
                    case measure => rw [Hgk2.out]; omega
                    case rel => exact ⟨q + 1, xs ++ [1 + t], rfl, by omega, by go_num, by simp; omega, Lib.hid ⟨fin.1, fin.2.le (by omega)⟩⟩
                  · skip
                    go_simp
                    refine hK.out _ _ ?_ (fun hHeld => ?_)
                    · exact trivial
                    clear hK K
                    try go_frame
                    have k6' := keep_alloc k6 (.cells #[.int .i64 (1 + t)] 3)
                    refine wpAnyH_ready (rs := [1]) (by kernel_rfl) (by simp) ?_
                    refine AllReadyH.cons (o := ?_) ?hi_55 (fun K hK => ?h_55) AllReadyH.nil
                    case hi_55 => (simp only [List.getElem?_toArray, List.getElem?_cons_zero, List.getElem?_cons_succ] <;> rfl)
                    go_simp
                    refine hK.out _ _ ?_ (fun hHeld => ?_)
                    · exact trivial
                    clear hK K
                    try go_frame
                    refine wpAnyH_ready (rs := [6]) (by kernel_rfl) (by simp) ?_
                    refine (AllReadyH.cons (o := ?_) ?hi_56 (fun K hK => ?h_56) AllReadyH.nil)
                    case hi_56 => (simp only [List.getElem?_toArray, List.getElem?_cons_zero, List.getElem?_cons_succ] <;> rfl)
                    refine stepRow_appendRec slInt _ _ rfl rfl (.slice a5 xs.length d5) xs.length (xs.map (Value.int .i64)) [.int .i64 (1 + t)] 3 rfl ((X2.out.new ((New.refl _).drewN 1)).chg c6 (fun j _ hj e => by omega)).1 rfl (by intro u hu; simp at hu; subst hu; rfl) rfl (by omega) (by decide) ?_
                    intro v7 w7 q7 c7
                    obtain ⟨a7, d7, rfl, -⟩ := q7.shape
                    have e7 : Value.ownBlock (.slice a5 xs.length d5) ≠ some gx := (fun e => (X2.out.1.2 gx e).2 rfl)
                    have g7 := c7.heap (c6.heap X1.out (by omega)) e7
                    obtain ⟨-, -, k7, -, -, f7⟩ := set3_cells g7
                    refine hK.out _ _ ?_ (fun hHeld => ?_)
                    · trivial
                    clear hK K
                    try go_frame
                    refine wpAnyH_take (i := 7) (v := ?_) (oi := ?_) ?hi_57 ?hs_57 ?hf_57 ?hr_57 ?hQ_57 ?hy_57 ?hS_57 ?h_57
                    case hi_57 => (simp only [List.getElem?_toArray, List.getElem?_cons_zero, List.getElem?_cons_succ] <;> rfl)
                    case hs_57 => kernel_rfl
                    case hf_57 => kernel_rfl
                    case hr_57 => kernel_rfl
                    case hQ_57 => exact fun _ _ _ h => h
                    case hy_57 => (refine Or.inl ⟨by rfl, ?_⟩; intro w hSw; (try dsimp only at hSw); go_simp; try with_reducible rfl)
                    case hS_57 => assumption
                    try go_frame
                    refine wpAnyH_ready (rs := [8]) (by kernel_rfl) (by simp) ?_
                    refine AllReadyH.cons (o := ?_) ?hi_58 (fun K hK => ?h_58) AllReadyH.nil
                    case hi_58 => (simp only [List.getElem?_toArray, List.getElem?_cons_zero, List.getElem?_cons_succ] <;> rfl)
                    go_simp
                    refine hK.out _ _ ?_ (fun hHeld => ?_)
                    · exact trivial
                    clear hK K
                    try go_frame
                    refine wpAnyH_done (by kernel_rfl) ?_ _
                    go_wp2_with fail
                    have fin := mid_snoc M5.out X1.out X2.out (by omega) (by omega) hg zr hpl hgx h6 c6 q7 c7
                    go_roundg (n - (q + 1))
                    case measure => rw [Hgk2.out]; omega
                    case rel => exact ⟨q + 1, xs ++ [1 + t], rfl, by omega, by go_num, by simp; omega, Lib.hid ⟨fin.1, fin.2.le (by omega)⟩⟩
                -- twelve end
              · obtain rfl : q = n := by omega
                go_wp2_with fail
                go_meet
                case rel => exact ⟨xs, by omega, I.out.1, I.out.2.le (by omega)⟩
          · go_wp2_with fail
            go_meet
            case rel => exact ⟨[], by simp, ⟨u, X1.out, X2.out⟩, M1.out.le (by omega)⟩
        case rest =>
          clear b0 b1 b2 f0 f1 f2 X1 X2 M1
          obtain ⟨xs, hxl, ⟨u5, x1, x2⟩, M5⟩ := hcut
          obtain ⟨a5, d5, rfl, s1, s2⟩ := x2.shape
          go_wp2_with fail
          refine (pick g (m + 5 * k + 4) 3 wc M5.2.1 (by omega) (by omega) (by omega)).mono ?_
          rintro e w6 ⟨t, rfl, ht0, ht1, h6, c6⟩
          have M6 := M5.pick h6 c6 hg
          have x16 := c6.heap x1 (by omega)
          have x26 := x2.chg c6 (fun j _ hj e => by omega)
          clear M5 x1 x2 c6 h6
          by_cases ht : 0 < t
          · obtain ⟨b0, b1, b2, -, -, -⟩ := set3_cells x16
            have hcall := specHome u3 os l w6 (OwnRecs.recs M6.1) (by omega)
            have X1 := Lib.hid x16
            have X2 := Lib.hid x26
            have M6 := Lib.hid M6
            generalize homeS os l = hb at *
            unfold txt at b0 hcall
            have Hcall := Lib.hid hcall
            clear hcall x16 x26
            rcases hb with _ | _
            · go_wp2_with fail
              refine Hcall.out.mono ?_
              rintro e w8 ⟨rfl, n8⟩
              have M8 := M6.out.new n8
              go_wp2_with fail
              go_roundg (8 - (k + 1))
              case measure => rw [Hgk.out]; omega
              case rel => exact ⟨k + 1, os, rfl, by omega, by go_num, Lib.hid ⟨⟨by omega, Hsm.out⟩, OwnRecs.mono M8.1 (fun j _ hj => hj.1), M8.2.1.mono (by omega), M8.2.2.1, M8.2.2.2.1, hg, Hvb.out⟩⟩
            · go_wp2_with fail
              refine Hcall.out.mono ?_
              rintro e w8 ⟨rfl, n8⟩
              have M8 := M6.out.new n8
              obtain ⟨b0, b1, b2, -, -, -⟩ := set3_cells (n8.heap X1.out)
              have x28 := X2.out.new n8
              obtain ⟨us, r1, r2⟩ := M8.1
              obtain ⟨av, cv, rfl, q1, q2, -, -⟩ := r1.shape
              unfold maxLen at q2
              have M8 := Lib.hid M8
              have R1 := Lib.hid r1
              have R2 := Lib.hid r2
              have X28 := Lib.hid x28
              unfold txt at b0
              clear r1 r2 x28 M6 X1 X2 n8
              go_wp2_with first
                | (at_builtin
                   refine wpRow_appendRec slItem _ _ rfl rfl (.slice av os.length cv) os.length us [.string ⟨l.toArray⟩, .bool dd, .slice a5 xs.length d5] 28 rfl R1.out rfl (by intro u hu; simp at hu; rcases hu with rfl | rfl | rfl <;> rfl) rfl (by omega) (by decide) ?_
                   intro v9 w9 q9 c9)
                | fail
              have fin := mid_add (m := m) (k := k) (o := ⟨l, dd, xs⟩) M8.out R1.out R2.out ((OwnI.of X28.out).mono (fun j _ hj => hj.1)) ⟨hll, by show xs.length ≤ 10; omega⟩ hol Hsm.out Hvb.out hg hpl q9 c9 (by omega)
              go_roundg (8 - (k + 1))
              case measure => rw [Hgk.out]; omega
              case rel => exact ⟨k + 1, _, rfl, by omega, by go_num, Lib.hid fin⟩
          · go_wp2_with fail
            go_roundg (8 - (k + 1))
            case measure => rw [Hgk.out]; omega
            case rel => exact ⟨k + 1, os, rfl, by omega, by go_num, Lib.hid ⟨⟨by omega, Hsm.out⟩, OwnRecs.mono M6.1 (fun j _ hj => hj.1), M6.2.1.mono (by omega), M6.2.2.1, M6.2.2.2.1, hg, Hvb.out⟩⟩
    · obtain rfl : k = 8 := by omega
      have zr := hc.size
      have zg := hr.lt
      go_wp2_with fail
      refine (pick g _ 30 _ hr (by omega) (by omega) (by omega)).mono ?_
      rintro e w3 ⟨p, rfl, hp0, hp1, h3, c3⟩
      have ho3 := OwnRecs.old (OwnRecs.chg ho c3 (fun j _ hj e => by omega))
      have cc3 := hc.trans c3
      have z3 := c3.size
      clear ho hc c3 hr hp
      by_cases hp : p = 0
      · subst hp
        obtain ⟨us, r1, r2⟩ := ho3
        obtain ⟨av, cv, rfl, q1, q2, -, -⟩ := r1.shape
        unfold maxLen at q2
        have R1 := Lib.hid r1
        have R2 := Lib.hid r2
        clear r1 r2
        go_wp2_with first
          | (at_builtin
             refine wpRow_appendRec slItem _ _ rfl rfl (.slice av os.length cv) os.length us [.string ⟨#[122, 111, 111, 47, 97]⟩, .bool false, .slice none 0 0] 28 rfl R1.out rfl (by intro u hu; simp at hu; rcases hu with rfl | rfl | rfl <;> rfl) rfl (by omega) (by decide) ?_
             intro v9 w9 q9 c9)
          | fail
        have fin := own_add (o := ⟨[122, 111, 111, 47, 97], false, []⟩) R1.out R2.out h3 (.inl ⟨rfl, none, 0, rfl, Nat.zero_le _, fun _ => rfl⟩) (by simp) hg q9 c9 (by omega) (Nat.le_refl _)
        go_ret
        refine ⟨_, _, rfl, ⟨by simp; omega, fun x hx => ?_⟩, fin.1, fin.2.mono (by omega), cc3.step c9 (fun j hj e => by have := (R1.out.2 j e).1; omega)⟩
        rcases List.mem_append.1 hx with hx | hx
        · exact Hsm.out x hx
        · simp at hx; subst hx; exact ⟨by simp, by simp⟩
      · have hp' : (p == 0) = false := by simp [hp]
        by_cases hp1 : p = 1
        · subst hp1
          have ol := lit_int1 w3
          have n4 : New w3 (w3.alloc (.cells #[.int .i64 1] 3)) := (New.refl _).alloc _
          obtain ⟨us, r1, r2⟩ := ho3
          obtain ⟨av, cv, rfl, q1, q2, -, -⟩ := r1.shape
          unfold maxLen at q2
          have R1 := Lib.hid (r1.new n4)
          have R2 := Lib.hid (r2.new n4)
          have Ol := Lib.hid ol
          have z4 : (w3.alloc (.cells #[.int .i64 1] 3)).heap.size = w3.heap.size + 1 := World.size_alloc _ _
          have H4 := Lib.hid (h3.new n4)
          have C4 := Lib.hid (cc3.trans (n4.chg _))
          have Z4 := Lib.hid z4
          clear r1 r2 ol n4 z4
          go_wp2_with first
            | (at_builtin
               rw [← Z4.out]
               refine wpRow_appendRec slItem _ _ rfl rfl (.slice av os.length cv) os.length us [.string ⟨#[122]⟩, .bool true, .slice (some ⟨w3.heap.size, 0, none⟩) 1 1] 28 rfl R1.out rfl (by intro u hu; simp at hu; rcases hu with rfl | rfl | rfl <;> rfl) rfl (by omega) (by decide) ?_
               intro v9 w9 q9 c9)
            | fail
          have fin := own_add (o := ⟨[122], true, [1]⟩) R1.out R2.out H4.out (OwnI.of Ol.out) (by simp) hg q9 c9 (by omega) (by have := Z4.out; omega)
          go_ret
          refine ⟨_, _, rfl, ⟨by simp; omega, fun x hx => ?_⟩, fin.1, fin.2.mono (by omega), C4.out.step c9 (fun j hj e => by have := (R1.out.2 j e).1; omega)⟩
          rcases List.mem_append.1 hx with hx | hx
          · exact Hsm.out x hx
          · simp at hx; subst hx; exact ⟨by simp, by simp⟩
        · have hp1' : (p == 1) = false := by simp [hp1]
          obtain ⟨av, cv, rfl, -, -, -⟩ := OwnRecs.shape ho3
          go_wp2_with fail
          go_ret
          exact ⟨_, os, rfl, ⟨by omega, Hsm.out⟩, OwnRecs.mono ho3 (fun j _ hj => hj.1), h3.mono (by omega), cc3⟩
end Go.Proofs.YtkffejommncinaaDoor
