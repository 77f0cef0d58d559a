/- Slices of changes; sameChange. -/
import Derived.Test.YtkffejommncinaaDoorChanges
import Derived.Test.YtkffejommncinaaDoorItemsA
namespace Go.Proofs.YtkffejommncinaaDoor
open Go.RowKit

def ChR.flds (c : ChR) : List Fld := [.int c.kind, .txt c.item.path, .bool c.item.dir, .nums c.item.ids]
def chFlds (cs : List ChR) : List Fld := cs.flatMap ChR.flds
/-- A slice that reads as changes. -/
def Chs (S : Nat → Prop) (w : World) (v : Value) (cs : List ChR) : Prop := Recs 4 S w v cs.length (chFlds cs)
def OwnChs (S : Nat → Prop) (w : World) (v : Value) (cs : List ChR) : Prop := OwnRecs 58 4 S w v cs.length (chFlds cs)
theorem Chs.at {S : Nat → Prop} {w : World} {v : Value} {os : List ChR} (h : Chs S w v os) {i : Nat} {o : ChR} (ho : os[i]? = some o) :
    ∃ b off c u, v = .slice (some ⟨b, off, none⟩) os.length c ∧ b < w.heap.size ∧ w.cell? ⟨b, off + i * 4, none⟩ = some (.int .i64 o.kind) ∧ w.cell? ⟨b, off + i * 4 + 1, none⟩ = some (txt o.item.path) ∧ w.cell? ⟨b, off + i * 4 + 2, none⟩ = some (.bool o.item.dir) ∧ w.cell? ⟨b, off + i * 4 + 3, none⟩ = some u ∧
      Ints S w u o.item.ids := by
  obtain ⟨b, off, c, rfl, hS, hb, hc⟩ := h.head (by have := (List.getElem?_eq_some_iff.1 ho).1; omega)
  have g := fun j hj => flds_get ChR.flds 4 (fun _ => rfl) os (j := j) ho hj
  obtain ⟨u0, c0, r0, -⟩ := hc (i * 4 + 0) (.int o.kind) (g 0 (by omega))
  obtain ⟨u1, c1, r1, -⟩ := hc (i * 4 + 1) (.txt o.item.path) (g 1 (by omega))
  obtain ⟨u2, c2, r2⟩ := hc (i * 4 + 2) (.bool o.item.dir) (g 2 (by omega))
  obtain ⟨u3, c3, r3⟩ := hc (i * 4 + 3) (.nums o.item.ids) (g 3 (by omega))
  subst r0 r1
  obtain rfl : u2 = _ := r2
  rw [show off + (i * 4 + 0) = off + i * 4 from by omega] at c0
  rw [show off + (i * 4 + 1) = off + i * 4 + 1 from by omega] at c1
  rw [show off + (i * 4 + 2) = off + i * 4 + 2 from by omega] at c2
  rw [show off + (i * 4 + 3) = off + i * 4 + 3 from by omega] at c3
  exact ⟨b, off, c, u3, rfl, hb, c0, c1, c2, c3, r3⟩

set_option maxRecDepth 4000 in
set_option maxHeartbeats 400000 in
theorem sameChange {S T : Nat → Prop} (k k' : Int) (o p : ItemR) (u t : Value) (w : World) (h : Ints S w u o.ids) (g : Ints T w t p.ids) :
    Calls Tryd.prog 66 #[.agg #[.int .i64 k, txt o.path, .bool o.dir, u], .agg #[.int .i64 k', txt p.path, .bool p.dir, t]] w fun e w' => e = .returned (.bool (decide (k = k' ∧ o = p))) ∧ New w w' := by
  have hn : ∀ (W : World) (o o' : Obj), New W ((W.alloc o).alloc o') := fun W o o' => ((New.refl W).alloc o).alloc o'
  have Hn := Lib.hid hn
  have heq := fun (W : World) (n : New w W) => sameItem o p u t W (h.new n) (g.new n)
  unfold txt at heq ⊢
  obtain ⟨a, c, rfl, h1, ⟨h2, -⟩, -, -⟩ := h
  obtain ⟨a', c', rfl, g1, ⟨g2, -⟩, -, -⟩ := g
  unfold maxLen at h2 g2
  by_cases hk : k = k'
  · subst hk
    rw [show decide (k = k ∧ o = p) = decide (o = p) by simp]
    generalize decide (o = p) = r at *
    have Heq := Lib.hid heq
    clear hn heq
    go_enter Tryd.func66, Tryd.ntmps66
    go_wp2_with fail
    refine (Heq.out _ (Hn.out _ _ _)).mono ?_
    rintro e w1 ⟨rfl, n1⟩
    go_wp2_with fail
    go_ret
    exact ⟨rfl, (Hn.out _ _ _).trans n1⟩
  · rw [show decide (k = k' ∧ o = p) = false by simp [hk]]
    have hb : (k == k') = false := by simp [hk]
    clear hn heq
    go_enter Tryd.func66, Tryd.ntmps66
    go_wp2_with fail
    go_ret
    exact ⟨rfl, Hn.out _ _ _⟩
end Go.Proofs.YtkffejommncinaaDoor
