/- Walks of bytesValid and FileValid, the program's; lists of rows of the call's own. -/
import Derived.Test.YtkffejommncinaaDoorInts
namespace Go.Proofs.YtkffejommncinaaDoor
open Go.RowKit

def bytesOk : List Int → Bool
  | [] => true
  | x :: r => if x < 0 ∨ 255 < x then false else bytesOk r
def fileOk (xs : List Int) : Bool := decide (xs.length ≤ 32) && bytesOk xs

theorem bytesOk_mem : ∀ (xs : List Int), bytesOk xs = true → ∀ x ∈ xs, 0 ≤ x ∧ x ≤ 255
  | [], _, _, h => by simp at h
  | y :: r, h, x, hx => by
    rw [bytesOk] at h
    split at h
    · simp at h
    · rename_i hc
      rcases List.mem_cons.1 hx with rfl | hx
      · omega
      · exact bytesOk_mem r h x hx

/-! ### a list of rows, no two of which share -/

theorem OwnNums.chg' {k : IntKind} {e : TypeId} {S T : Nat → Prop} {w w' : World} {v : Value} {xs : List Int} (h : OwnNums k e S w v xs) (g : Chg T w w') (hd : ∀ j, v.ownBlock = some j → ¬ T j) : OwnNums k e S w' v xs :=
  (OwnNums.chg (S := fun j => S j ∧ v.ownBlock = some j) ⟨⟨h.1.1, fun j hj => ⟨h.1.2 j hj, hj⟩⟩, h.2⟩ g (fun j _ hj => hd j hj.2)).mono fun _ _ hj => hj.1

def Rows (e : TypeId) (S : Nat → Prop) (w : World) : List Value → List (List Int) → Prop
  | [], [] => True
  | v :: vs, xs :: xss => OwnInts e S w v xs ∧ Rows e (fun j => S j ∧ v.ownBlock ≠ some j) w vs xss
  | _, _ => False

theorem Rows.mono {e : TypeId} {w : World} : ∀ {vs : List Value} {xss : List (List Int)} {S T : Nat → Prop}, Rows e S w vs xss → (∀ j, j < w.heap.size → S j → T j) → Rows e T w vs xss
  | [], [], _, _, _, _ => trivial
  | _ :: _, _ :: _, _, _, h, hs => ⟨h.1.mono hs, Rows.mono h.2 fun j hj hh => ⟨hs j hj hh.1, hh.2⟩⟩
  | [], _ :: _, _, _, h, _ => h.elim
  | _ :: _, [], _, _, h, _ => h.elim
theorem Rows.chg {e : TypeId} {w w' : World} {T : Nat → Prop} (g : Chg T w w') : ∀ {vs : List Value} {xss : List (List Int)} {S : Nat → Prop}, Rows e S w vs xss → (∀ j, j < w.heap.size → S j → ¬ T j) → Rows e S w' vs xss
  | [], [], _, _, _ => trivial
  | _ :: _, _ :: _, _, h, hs => ⟨h.1.chg g hs, Rows.chg g h.2 fun j hj hh => hs j hj hh.1⟩
  | [], _ :: _, _, h, _ => h.elim
  | _ :: _, [], _, h, _ => h.elim
theorem Rows.new {e : TypeId} {w w' : World} {vs : List Value} {xss : List (List Int)} {S : Nat → Prop} (h : Rows e S w vs xss) (g : New w w') : Rows e S w' vs xss := h.chg g fun _ _ _ hf => hf
theorem Rows.length {e : TypeId} {w : World} : ∀ {vs : List Value} {xss : List (List Int)} {S : Nat → Prop}, Rows e S w vs xss → vs.length = xss.length
  | [], [], _, _ => rfl
  | _ :: _, _ :: _, _, h => by simp [Rows.length h.2]
  | [], _ :: _, _, h => h.elim
  | _ :: _, [], _, h => h.elim
theorem Rows.old {e : TypeId} {w : World} {vs : List Value} {xss : List (List Int)} {S : Nat → Prop} (h : Rows e S w vs xss) : Rows e (fun j => S j ∧ j < w.heap.size) w vs xss := h.mono fun _ hj hs => ⟨hs, hj⟩
theorem Rows.snoc {e : TypeId} {w : World} {v : Value} {xs : List Int} {T : Nat → Prop} (g : OwnInts e T w v xs) : ∀ {vs : List Value} {xss : List (List Int)} {S : Nat → Prop}, Rows e S w vs xss → (∀ j, S j → ¬ T j) → Rows e (fun j => S j ∨ T j) w (vs ++ [v]) (xss ++ [xs])
  | [], [], _, _, _ => ⟨g.mono fun _ _ h => .inr h, trivial⟩
  | u :: vs, ys :: xss, S, h, hs => ⟨h.1.mono fun _ _ h => .inl h, (Rows.snoc g h.2 fun j hj => hs j hj.1).mono fun j _ hh => by
      rcases hh with hh | hh
      · exact ⟨.inl hh.1, hh.2⟩
      · exact ⟨.inr hh, fun he => hs j (h.1.1.2 j he) hh⟩⟩
  | [], _ :: _, _, h, _ => h.elim
  | _ :: _, [], _, h, _ => h.elim
theorem Rows.get {e : TypeId} {w : World} {v : Value} : ∀ {vs : List Value} {xss : List (List Int)} {S : Nat → Prop} {i : Nat}, Rows e S w vs xss → vs[i]? = some v → ∃ xs, xss[i]? = some xs ∧ OwnInts e S w v xs
  | [], [], _, i, _, h => by simp at h
  | u :: vs, ys :: xss, S, 0, h, hv => by simp at hv; subst hv; exact ⟨ys, rfl, h.1⟩
  | u :: vs, ys :: xss, S, i + 1, h, hv => by
      obtain ⟨xs, h1, h2⟩ := Rows.get (i := i) h.2 (by simpa using hv)
      exact ⟨xs, by simpa using h1, h2.mono fun _ _ h => h.1⟩
  | [], _ :: _, _, _, h, _ => h.elim
  | _ :: _, [], _, _, h, _ => h.elim
theorem Rows.at {e : TypeId} {w : World} {xs : List Int} : ∀ {vs : List Value} {xss : List (List Int)} {S : Nat → Prop} {i : Nat}, Rows e S w vs xss → xss[i]? = some xs → ∃ v, vs[i]? = some v ∧ OwnInts e S w v xs
  | [], [], _, i, _, h => by simp at h
  | u :: vs, ys :: xss, S, 0, h, hv => by simp at hv; subst hv; exact ⟨u, rfl, h.1⟩
  | u :: vs, ys :: xss, S, i + 1, h, hv => by
      obtain ⟨v, h1, h2⟩ := Rows.at (i := i) h.2 (by simpa using hv)
      exact ⟨v, by simpa using h1, h2.mono fun _ _ h => h.1⟩
  | [], _ :: _, _, _, h, _ => h.elim
  | _ :: _, [], _, _, h, _ => h.elim
/-- One of the rows is written. -/
theorem Rows.put {e : TypeId} {w w' : World} {v : Value} {ys : List Int} (g : Chg (fun j => v.ownBlock = some j) w w') : ∀ {vs : List Value} {xss : List (List Int)} {S : Nat → Prop} {i : Nat}, Rows e S w vs xss → vs[i]? = some v → (∀ S', OwnInts e S' w v (xss.getD i []) → OwnInts e S' w' v ys) → Rows e S w' vs (xss.set i ys)
  | [], [], _, i, _, h, _ => by simp at h
  | u :: vs, zs :: xss, S, 0, h, hv, ho => by
      simp at hv; subst hv
      exact ⟨ho S h.1, h.2.chg g fun j _ hj he => hj.2 he⟩
  | u :: vs, zs :: xss, S, i + 1, h, hv, ho => by
      have hv' : vs[i]? = some v := by simpa using hv
      obtain ⟨xs, h1, h2⟩ := Rows.get h.2 hv'
      exact ⟨h.1.chg' g fun j hj he => (h2.1.2 j he).2 hj, Rows.put g h.2 hv' ho⟩
  | [], _ :: _, _, _, h, _, _ => h.elim
  | _ :: _, [], _, _, h, _, _ => h.elim

end Go.Proofs.YtkffejommncinaaDoor
