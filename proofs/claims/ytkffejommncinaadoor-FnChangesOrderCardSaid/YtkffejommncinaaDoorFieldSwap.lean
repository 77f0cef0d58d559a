/- A field of a row of one's own gets other numbers, of a block of their own. -/
import Derived.Test.YtkffejommncinaaDoorBaseA
namespace Go.Proofs.YtkffejommncinaaDoor
open Go.RowKit

theorem Fields.swap {w : World} {v' : Value} {f' : Fld} {T : Nat → Prop} (ho : f'.owns T w v') : ∀ {vs : List Value} {fs : List Fld} {S : Nat → Prop} {i : Nat}, Fields S w vs fs → i < fs.length → (∀ j, S j → ¬ T j) → Fields (fun j => S j ∨ T j) w (vs.set i v') (fs.set i f')
  | [], [], _, _, _, hi, _ => by simp at hi
  | u :: vs, z :: fs, S, 0, h, _, hd => by
    refine ⟨ho.mono fun j _ hj => .inr hj, (h.2).mono fun j _ hj => ⟨.inl hj.1, fun e => hd j hj.1 (ho.blk j e).1⟩⟩
  | u :: vs, z :: fs, S, i + 1, h, hi, hd => by
    have ih := Fields.swap ho (i := i) h.2 (by simpa using hi) (fun j hj => hd j hj.1)
    refine ⟨h.1.mono fun j _ hj => .inl hj, ih.mono fun j _ hj => ?_⟩
    rcases hj with hj | hj
    · exact ⟨.inl hj.1, hj.2⟩
    · exact ⟨.inr hj, fun e => hd j (h.1.blk j e).1 hj⟩
  | [], _ :: _, _, _, h, _, _ => h.elim
  | _ :: _, [], _, _, h, _, _ => h.elim
theorem OwnRecs.swap {e sz : Nat} {S T : Nat → Prop} {w : World} {b c n i : Nat} {fs : List Fld} {u : Value} {f' : Fld} (h : OwnRecs e sz S w (.slice (some ⟨b, 0, none⟩) n c) n fs) (hi : i < fs.length)
    (ho : f'.owns T w u) (hd : ∀ j, S j → ¬ T j) (hSb : S b) :
    OwnRecs e sz (fun j => S j ∨ T j) (w.setCell ⟨b, i, none⟩ u) (.slice (some ⟨b, 0, none⟩) n c) n (fs.set i f') := by
  obtain ⟨us, h1, h2⟩ := h
  have cs := chg_set1 w b i u
  refine ⟨us.set i u, (h1.set i _).mono fun j _ hj => .inl hj, ?_⟩
  have h3 := Fields.swap ho h2 hi (fun j hj => hd j hj.1)
  refine (h3.chg cs fun j _ hj e => ?_).mono fun j _ hj => ?_
  · subst e
    rcases hj with hj | hj
    · exact hj.2 (by simp [Value.ownBlock])
    · exact hd _ hSb hj
  · rcases hj with hj | hj
    · exact ⟨.inl hj.1, hj.2⟩
    · exact ⟨.inr hj, fun e => by simp [Value.ownBlock] at e; subst e; exact hd _ hSb hj⟩
end Go.Proofs.YtkffejommncinaaDoor
