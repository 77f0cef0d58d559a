/- Items of a tree: the statements' helpers toItem, eqItem, szItem. -/
import Derived.Test.YtkffejommncinaaDoorSz
namespace Go.Proofs.YtkffejommncinaaDoor
open Go.RowKit

structure ItemR where
  path : List UInt8
  dir : Bool
  ids : List Int
  deriving DecidableEq
def ItemR.flds (o : ItemR) : List Fld := [.txt o.path, .bool o.dir, .nums o.ids]

/-- how much an item holds -/
def ItemR.size (o : ItemR) : Nat := o.path.length + o.ids.length
set_option maxRecDepth 4000 in
set_option maxHeartbeats 400000 in
theorem szItem {S : Nat → Prop} (o : ItemR) (u : Value) (l : Int) (w : World) (h : Ints S w u o.ids) (hp : o.path.length ≤ maxLen) (hl0 : 0 ≤ l) (hl1 : l ≤ 1048576) :
    Calls Tryd.prog 29 #[.agg #[txt o.path, .bool o.dir, u], .int .i64 l] w fun e w' => e = .returned (.int .i64 (if l < o.size then -1 else l - o.size)) ∧ New w w' := by
  unfold maxLen at hp
  unfold txt ItemR.size
  have hn : ∀ (W : World) (o : Obj), New W (W.alloc o) := fun W o => (New.refl W).alloc o
  have Hn := Lib.hid hn
  have hsz := fun (W : World) (n : New w W) (k : Int) h0 h1 => szInts u o.ids k W (h.new n) h0 h1
  have Hsz := Lib.hid hsz
  obtain ⟨a, c, rfl, h1, ⟨h2, -⟩, -, -⟩ := h
  unfold maxLen at h2
  clear hn hsz
  by_cases h5 : l < o.path.length
  · have h6 : l - (o.path.length : Int) < 0 := by omega
    have h7 : l < ((o.path.length + o.ids.length : Nat) : Int) := by omega
    rw [if_pos h7]
    go_enter Tryd.func29, Tryd.ntmps29
    go_wp2_with fail
    go_ret
    exact ⟨rfl, Hn.out _ _⟩
  · have h6 : ¬ (l - (o.path.length : Int) < 0) := by omega
    by_cases h7 : l - o.path.length < o.ids.length
    · have h8 : l < ((o.path.length + o.ids.length : Nat) : Int) := by omega
      rw [if_pos h8]
      go_enter Tryd.func29, Tryd.ntmps29
      go_wp2_with fail
      refine (Hsz.out _ (Hn.out _ _) _ (by omega) (by omega)).mono ?_
      rw [if_pos (by omega)]
      rintro e w1 ⟨rfl, rfl⟩
      go_wp2_with fail
      go_ret
      exact ⟨rfl, Hn.out _ _⟩
    · have h8 : ¬ (l < ((o.path.length + o.ids.length : Nat) : Int)) := by omega
      rw [if_neg h8]
      have h9 : ¬ (l - (o.path.length : Int) - (o.ids.length : Int) < 0) := by omega
      go_enter Tryd.func29, Tryd.ntmps29
      go_wp2_with fail
      refine (Hsz.out _ (Hn.out _ _) _ (by omega) (by omega)).mono ?_
      rw [if_neg (by omega)]
      rintro e w1 ⟨rfl, rfl⟩
      go_wp2_with fail
      go_ret
      exact ⟨ret_int (by omega), Hn.out _ _⟩

set_option maxRecDepth 4000 in
set_option maxHeartbeats 400000 in
theorem eqItem {S T : Nat → Prop} (o p : ItemR) (u t : Value) (w : World) (h : Ints S w u o.ids) (g : Ints T w t p.ids) :
    Calls Tryd.prog 31 #[.agg #[txt o.path, .bool o.dir, u], .agg #[txt p.path, .bool p.dir, t]] w fun e w' => e = .returned (.bool (decide (o = p))) ∧ New w w' := by
  obtain ⟨k, l, xs⟩ := o
  obtain ⟨k', l', ys⟩ := p
  simp only at h g ⊢
  unfold txt
  have hn : ∀ (W : World) (o o' : Obj), New W ((W.alloc o).alloc o') := fun W o o' => ((New.refl W).alloc o).alloc o'
  have Hn := Lib.hid hn
  have heq := fun (W : World) (n : New w W) => eqInts u t xs ys W (h.new n) (g.new n)
  have Heq := Lib.hid heq
  obtain ⟨a, c, rfl, h1, ⟨h2, -⟩, -, -⟩ := h
  obtain ⟨a', c', rfl, g1, ⟨g2, -⟩, -, -⟩ := g
  unfold maxLen at h2 g2
  clear hn heq
  by_cases hk : k = k'
  · subst hk
    by_cases hl : l = l'
    · subst hl
      by_cases hx : xs = ys
      · have hd : decide (ItemR.mk k l xs = ItemR.mk k l ys) = true := by simp [hx]
        have hd2 : decide (xs = ys) = true := by simp [hx]
        rw [hd]
        rw [hd2] at Heq
        clear hd hd2 hx
        go_enter Tryd.func31, Tryd.ntmps31
        go_wp2_with fail
        refine (Heq.out _ (Hn.out _ _ _)).mono ?_
        rintro e w1 ⟨rfl, d1⟩
        have n1 := (Hn.out w _ _).trans d1.new
        clear d1
        go_wp2_with fail
        go_ret
        exact ⟨rfl, n1⟩
      · have hd : decide (ItemR.mk k l xs = ItemR.mk k l ys) = false := by simp [hx]
        have hd2 : decide (xs = ys) = false := by simp [hx]
        rw [hd]
        rw [hd2] at Heq
        clear hd hd2 hx
        go_enter Tryd.func31, Tryd.ntmps31
        go_wp2_with fail
        refine (Heq.out _ (Hn.out _ _ _)).mono ?_
        rintro e w1 ⟨rfl, d1⟩
        have n1 := (Hn.out w _ _).trans d1.new
        clear d1
        go_wp2_with fail
        go_ret
        exact ⟨rfl, n1⟩
    · have hd : decide (ItemR.mk k l xs = ItemR.mk k l' ys) = false := by simp [hl]
      rw [hd]
      have hcs : (l = true ∧ l' = false) ∨ (l = false ∧ l' = true) := by revert hl; cases l <;> cases l' <;> simp
      clear hd hl
      rcases hcs with ⟨rfl, rfl⟩ | ⟨rfl, rfl⟩
      all_goals
        go_enter Tryd.func31, Tryd.ntmps31
        go_wp2_with fail
        go_ret
        exact ⟨rfl, Hn.out _ _ _⟩
  · have hd : decide (ItemR.mk k l xs = ItemR.mk k' l' ys) = false := by simp [hk]
    have hb : (k == k') = false := by simp [hk]
    have hb2 : (k != k') = true := by simp [hk]
    rw [hd]
    clear hd hk
    go_enter Tryd.func31, Tryd.ntmps31
    go_wp2_with fail
    go_ret
    exact ⟨rfl, Hn.out _ _ _⟩

def ToItemPost (o : ItemR) (w : World) (e : Ending) (w' : World) : Prop :=
  ∃ u, e = .returned (.agg #[txt o.path, .bool o.dir, u]) ∧ OwnInts 3 (fun j => w.heap.size ≤ j) w' u o.ids ∧ New w w'

set_option maxRecDepth 4000 in
set_option maxHeartbeats 400000 in
theorem toItem {S : Nat → Prop} (o : ItemR) (u : Value) (w : World) (h : Ints S w u o.ids) (hl : o.ids.length ≤ 1048576) :
    Calls Tryd.prog 30 #[.agg #[txt o.path, .bool o.dir, u]] w (ToItemPost o w) := by
  have hto := fun (W : World) (n : New w W) => toInts u o.ids W (h.new n) (by omega)
  have Hto := Lib.hid hto
  unfold txt
  obtain ⟨a, c, rfl, h1, ⟨h2, -⟩, -, -⟩ := h
  unfold maxLen at h2
  clear hto
  go_enter Tryd.func30, Tryd.ntmps30
  go_wp2_with fail
  refine (Hto.out _ ?_).mono ?_
  · exact (((New.refl w).alloc _).alloc _).alloc _
  rintro e w1 ⟨u', rfl, n1, o1⟩
  have hb1 : w1.heap[w.heap.size + 1]? = some (.cells #[.string ⟨#[]⟩, .bool false, .slice none 0 0] 28) := by
    refine n1.heap ?_
    have := heap_alloc_new (w.alloc (.cells #[.string ⟨o.path.toArray⟩, .bool o.dir, .slice a o.ids.length c] 46)) (.cells #[.string ⟨#[]⟩, .bool false, .slice none 0 0] 28)
    have h2 := (New.refl ((w.alloc (.cells #[.string ⟨o.path.toArray⟩, .bool o.dir, .slice a o.ids.length c] 46)).alloc (.cells #[.string ⟨#[]⟩, .bool false, .slice none 0 0] 28))).alloc (.cells #[.string ⟨o.path.toArray⟩, .bool o.dir, .slice none 0 0] 28)
    have h3 := h2.heap this
    simpa using h3
  have hb2 : w1.heap[w.heap.size + 1 + 1]? = some (.cells #[.string ⟨o.path.toArray⟩, .bool o.dir, .slice none 0 0] 28) := by
    refine n1.heap ?_
    have := heap_alloc_new ((w.alloc (.cells #[.string ⟨o.path.toArray⟩, .bool o.dir, .slice a o.ids.length c] 46)).alloc (.cells #[.string ⟨#[]⟩, .bool false, .slice none 0 0] 28)) (.cells #[.string ⟨o.path.toArray⟩, .bool o.dir, .slice none 0 0] 28)
    simpa using this
  have c20 : w1.cell? ⟨w.heap.size + 1 + 1, 0, none⟩ = some (.string ⟨o.path.toArray⟩) := by simp [World.cell?, hb2]
  have c21 : w1.cell? ⟨w.heap.size + 1 + 1, 1, none⟩ = some (.bool o.dir) := by simp [World.cell?, hb2]
  have c22 : w1.cell? ⟨w.heap.size + 1 + 1, 2, none⟩ = some (.slice none 0 0) := by simp [World.cell?, hb2]
  have f22 : w1.frozen? ⟨w.heap.size + 1 + 1, 2, none⟩ = false := by simp [World.frozen?, hb2]
  have c10 : w1.cell? ⟨w.heap.size + 1, 0, none⟩ = some (.string ⟨#[]⟩) := by simp [World.cell?, hb1]
  have c11 : w1.cell? ⟨w.heap.size + 1, 1, none⟩ = some (.bool false) := by simp [World.cell?, hb1]
  have c12 : w1.cell? ⟨w.heap.size + 1, 2, none⟩ = some (.slice none 0 0) := by simp [World.cell?, hb1]
  have f10 : w1.frozen? ⟨w.heap.size + 1, 0, none⟩ = false := by simp [World.frozen?, hb1]
  have f11 : w1.frozen? ⟨w.heap.size + 1, 1, none⟩ = false := by simp [World.frozen?, hb1]
  have f12 : w1.frozen? ⟨w.heap.size + 1, 2, none⟩ = false := by simp [World.frozen?, hb1]
  have hs1 := n1.size
  simp only [World.size_alloc] at hs1
  have Hb1 := Lib.hid hb1
  have Hb2 := Lib.hid hb2
  have hn1 : New w w1 := ((((New.refl w).alloc _).alloc _).alloc _).trans n1
  obtain ⟨a', ca', rfl, -, -⟩ := o1.shape
  clear hb1 hb2 n1
  go_wp2_with fail
  have cs : Chg (fun k => k = w.heap.size + 1 ∨ k = w.heap.size + 1 + 1) w1 ((((w1.setCell ⟨w.heap.size + 1 + 1, 2, none⟩ (.slice a' o.ids.length ca')).setCell ⟨w.heap.size + 1, 0, none⟩ (.string ⟨o.path.toArray⟩)).setCell ⟨w.heap.size + 1, 1, none⟩ (.bool o.dir)).setCell ⟨w.heap.size + 1, 2, none⟩ (.slice a' o.ids.length ca')) :=
    ((((Chg.refl _ _).setCell _ (fun _ => .inr rfl)).setCell _ (fun _ => .inl rfl)).setCell _ (fun _ => .inl rfl)).setCell _ (fun _ => .inl rfl)
  refine bodyPost_ret (v := .agg #[.string ⟨o.path.toArray⟩, .bool o.dir, .slice a' o.ids.length ca']) (by simp [results, Tryd.results30, go_sem, c10, c11, c12]) rfl ⟨_, rfl, ?_, hn1.trans_chg cs (fun j hj hh => by omega)⟩
  refine (o1.chg cs (fun j _ hj hh => ?_)).mono (fun j _ hj => ?_)
  · simp at hj; omega
  · simp at hj; omega
end Go.Proofs.YtkffejommncinaaDoor
