/- Writing the fields of structs of the call's own; markIntS for numbers that may be none. -/
import Derived.Test.YtkffejommncinaaDoorRecs
import Derived.Test.YtkffejommncinaaDoorInts
import Derived.Deep.LoopGhost
namespace Go.Proofs.YtkffejommncinaaDoor
open Go.RowKit

/-- what stands at a field's place -/
theorem OwnRecs.at {e sz : Nat} {S : Nat → Prop} {w : World} {v : Value} {n i : Nat} {fs : List Fld} {f : Fld} (h : OwnRecs e sz S w v n fs) (hf : fs[i]? = some f) :
    ∃ b c u, v = .slice (some ⟨b, 0, none⟩) n c ∧ S b ∧ b < w.heap.size ∧ w.cell? ⟨b, i, none⟩ = some u ∧ w.frozen? ⟨b, i, none⟩ = false ∧ f.owns (fun j => S j ∧ j ≠ b) w u := by
  obtain ⟨us, h1, h2⟩ := h
  obtain ⟨u, hu, ho⟩ := h2.get hf
  obtain ⟨_, _, _, _, _, s3, _⟩ := h1.shape
  have hi := (List.getElem?_eq_some_iff.1 hu).1
  have hn : 0 < n := by
    rcases Nat.eq_zero_or_pos n with h | h
    · subst h; simp at s3; simp [s3] at hi
    · exact h
  obtain ⟨b, c, rfl, hS, hb, _, _⟩ := h1.head hn
  exact ⟨b, c, u, rfl, hS, hb, h1.cellAt hu, h1.frozenAt i, ho.mono fun j _ hj => ⟨hj.1, fun e => hj.2 (by simp [Value.ownBlock, e])⟩⟩
theorem OwnRecs.putInt {e sz : Nat} {S : Nat → Prop} {w : World} {b c n i : Nat} {fs : List Fld} {x y : Int} (h : OwnRecs e sz S w (.slice (some ⟨b, 0, none⟩) n c) n fs) (hf : fs[i]? = some (.int x)) (hy : I64 y) :
    OwnRecs e sz S (w.setCell ⟨b, i, none⟩ (.int .i64 y)) (.slice (some ⟨b, 0, none⟩) n c) n (fs.set i (.int y)) := by
  obtain ⟨us, h1, h2⟩ := h
  obtain ⟨u, hu, ho⟩ := h2.get hf
  refine ⟨us.set i (.int .i64 y), h1.set i _, ?_⟩
  have h3 := h2.chg (chg_set1 w b i (.int .i64 y)) (fun j _ hj e => hj.2 (by rw [e]; rfl))
  exact Fields.put (f := .int x) (f' := .int y) (T := fun _ => False) (Chg.refl _ _) (fun _ h => h.elim) (fun j hj => by simp [blk] at hj) h3 hu hf (fun S' _ => ⟨rfl, hy⟩)
theorem OwnRecs.putNums {e sz : Nat} {S : Nat → Prop} {w w' : World} {b c n i : Nat} {fs : List Fld} {u : Value} {xs ys : List Int} (h : OwnRecs e sz S w (.slice (some ⟨b, 0, none⟩) n c) n fs) (hf : fs[i]? = some (.nums xs))
    (hc : w.cell? ⟨b, i, none⟩ = some u) (g : Chg (fun j => blk u (.nums xs) = some j) w w') (hl : ys.length = xs.length) (ho : ∀ S', OwnI S' w u xs → OwnI S' w' u ys) :
    OwnRecs e sz S w' (.slice (some ⟨b, 0, none⟩) n c) n (fs.set i (.nums ys)) := by
  obtain ⟨us, h1, h2⟩ := h
  obtain ⟨x, hx, hox⟩ := h2.get hf
  have e1 := h1.cellAt hx
  rw [hc] at e1
  obtain rfl := Option.some.inj e1
  refine ⟨us, h1.chg' g (fun j hj he => (hox.blk j he).1.2 hj), ?_⟩
  have h3 := Fields.put (f := .nums xs) (f' := .nums ys) g (fun j hj => hj) (fun j hj => by
    cases xs with
    | nil => obtain rfl := List.eq_nil_of_length_eq_zero hl; exact hj
    | cons a r => cases ys with
      | nil => simp at hl
      | cons a' r' => exact hj) h2 hx hf ho
  have e2 : us.set i u = us := by
    obtain ⟨hi, e⟩ := List.getElem?_eq_some_iff.1 hx
    rw [← e]; exact List.set_getElem_self hi
  rw [e2] at h3
  exact h3

theorem markNone (a : Option Addr) (c : Nat) (k : Int) (w : World) :
    Calls Tryd.prog 57 #[.slice a 0 c, .int .i64 k] w fun e w' => e = .returned (.int .i64 k) ∧ w = w' := by
  go_enter Tryd.func57, Tryd.ntmps57
  go_wp2
  go_loop [1, 5] (fun q i => q = .int .i64 k ∧ i = .int .i64 0) (fun _ _ => 0)
  case atStart => exact ⟨rfl, rfl⟩
  case round =>
    obtain ⟨rfl, rfl⟩ := hrel
    go_wp2
    go_ret
    exact ⟨rfl, rfl⟩

theorem markI {S : Nat → Prop} (v : Value) (xs : List Int) (k : Int) (w : World) (h : OwnI S w v xs) (hk0 : 0 ≤ k) (hk1 : k ≤ 1152921504606846976) (hr : xs.length ≤ 1152921504606846976) :
    Calls Tryd.prog 57 #[v, .int .i64 k] w fun e w' => e = .returned (.int .i64 (k + xs.length)) ∧ Chg (fun j => blk v (.nums xs) = some j) w w' ∧ ∀ S', OwnI S' w v xs → OwnI S' w' v (upTo k xs.length) := by
  rcases h with ⟨rfl, a, c, rfl, h2, h3⟩ | ⟨hne, h⟩
  · refine (markNone a c k w).mono ?_
    rintro e w' ⟨rfl, rfl⟩
    exact ⟨by simp, Chg.refl _ _, fun S' hs => hs⟩
  · refine (markInts v xs k w h hk0 hk1 hr).mono ?_
    rintro e w' ⟨rfl, c1, o1⟩
    refine ⟨rfl, ?_, fun S' hs => .inr ⟨?_, ?_⟩⟩
    · cases xs with
      | nil => exact absurd rfl hne
      | cons x r => exact c1
    · intro e
      have := congrArg List.length e
      simp at this
      exact hne this
    · rcases hs with ⟨e, _⟩ | ⟨_, hs⟩
      · exact absurd e hne
      · exact o1.mono' (fun j hj => hs.1.2 j hj)
end Go.Proofs.YtkffejommncinaaDoor
