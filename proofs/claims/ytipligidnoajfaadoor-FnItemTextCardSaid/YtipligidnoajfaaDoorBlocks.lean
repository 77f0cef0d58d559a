/- Lists of blocks (slices of slices of numbers): eqIntSS, sameBlocks, markIntSS, heldIntSS. -/
import Derived.Test.YtipligidnoajfaaDoorBytes
import Derived.Test.YtipligidnoajfaaDoorAppend1
namespace Go.Proofs.YtipligidnoajfaaDoor
open Go.RowKit

theorem slInts : SliceOf Tryd.prog 75 23 (.slice none 0 0) 1 24 := by refine ⟨by kernel_rfl, by kernel_rfl, rfl, by decide⟩

/-- A slice of slices of numbers of the call's own; no two of its rows share. -/
def Blocks (S : Nat → Prop) (w : World) (v : Value) (xss : List (List Int)) : Prop :=
  ∃ vs, Row 23 1 S w v xss.length vs ∧ Rows 3 (fun j => S j ∧ v.ownBlock ≠ some j) w vs xss

theorem Blocks.nil (S : Nat → Prop) (w : World) : Blocks S w (.slice none 0 0) [] := ⟨[], Row.nil _ _ _ _, trivial⟩
theorem Blocks.empty (w : World) : Blocks (fun k => w.heap.size ≤ k) (w.alloc (.cells #[] 23)) (.slice (some ⟨w.heap.size, 0, none⟩) 0 0) [] := ⟨[], (Row.empty _ _ _).mono (fun _ _ h => by omega), trivial⟩
theorem Blocks.mono {S T : Nat → Prop} {w : World} {v : Value} {xss : List (List Int)} (h : Blocks S w v xss) (hs : ∀ j, j < w.heap.size → S j → T j) : Blocks T w v xss := by
  obtain ⟨vs, h1, h2⟩ := h
  exact ⟨vs, h1.mono hs, h2.mono fun j hj hh => ⟨hs j hj hh.1, hh.2⟩⟩
theorem Blocks.chg {S T : Nat → Prop} {w w' : World} {v : Value} {xss : List (List Int)} (h : Blocks S w v xss) (g : Chg T w w') (hs : ∀ j, j < w.heap.size → S j → ¬ T j) : Blocks S w' v xss := by
  obtain ⟨vs, h1, h2⟩ := h
  exact ⟨vs, h1.chg g hs, h2.chg g fun j hj hh => hs j hj hh.1⟩
theorem Blocks.new {S : Nat → Prop} {w w' : World} {v : Value} {xss : List (List Int)} (h : Blocks S w v xss) (g : New w w') : Blocks S w' v xss := h.chg g fun _ _ _ hf => hf
theorem Blocks.old {S : Nat → Prop} {w : World} {v : Value} {xss : List (List Int)} (h : Blocks S w v xss) : Blocks (fun j => S j ∧ j < w.heap.size) w v xss := h.mono fun _ hj hs => ⟨hs, hj⟩
theorem Blocks.shape {S : Nat → Prop} {w : World} {v : Value} {xss : List (List Int)} (h : Blocks S w v xss) : ∃ a c, v = .slice a xss.length c ∧ xss.length ≤ c ∧ c ≤ maxLen := by
  obtain ⟨vs, h1, _⟩ := h
  obtain ⟨a, c, e, h2, h3, _⟩ := h1.shape
  exact ⟨a, c, e, h2, h3⟩
/-- its i-th cell, and the row there -/
theorem Blocks.at {S : Nat → Prop} {w : World} {v : Value} {xss : List (List Int)} (h : Blocks S w v xss) {i : Nat} {xs : List Int} (hx : xss[i]? = some xs) :
    ∃ b c u, v = .slice (some ⟨b, 0, none⟩) xss.length c ∧ S b ∧ b < w.heap.size ∧ w.cell? ⟨b, i, none⟩ = some u ∧ OwnInts 3 (fun j => S j ∧ j ≠ b) w u xs := by
  obtain ⟨vs, h1, h2⟩ := h
  have hl := (List.getElem?_eq_some_iff.1 hx).1
  obtain ⟨b, c, rfl, hS, hb, _, _⟩ := h1.head (by omega)
  obtain ⟨u, hu, ho⟩ := h2.at hx
  exact ⟨b, c, u, rfl, hS, hb, h1.cellAt hu, ho.mono fun j _ hj => ⟨hj.1, fun e => hj.2 (by simp [Value.ownBlock, e])⟩⟩
/-- the i-th row is written -/
theorem Blocks.put {S : Nat → Prop} {w w' : World} {v u : Value} {xss : List (List Int)} {ys : List Int} {i b c : Nat} (h : Blocks S w v xss) (hv : v = .slice (some ⟨b, 0, none⟩) xss.length c) (hi : i < xss.length) (hc : w.cell? ⟨b, i, none⟩ = some u)
    (g : Chg (fun j => u.ownBlock = some j) w w') (ho : ∀ S', OwnInts 3 S' w u (xss.getD i []) → OwnInts 3 S' w' u ys) : Blocks S w' v (xss.set i ys) := by
  subst hv
  obtain ⟨vs, h1, h2⟩ := h
  have hl : i < vs.length := by rw [h2.length]; exact hi
  obtain ⟨u', hu'⟩ := get_of hl
  have e := h1.cellAt hu'
  rw [hc] at e
  obtain rfl := Option.some.inj e
  obtain ⟨xs, hx, hox⟩ := h2.get hu'
  refine ⟨vs, ?_, h2.put g hu' ho⟩
  rw [List.length_set]
  exact h1.chg' g fun j hj he => (hox.1.2 j he).2 hj


/-- One more row. -/
theorem Blocks.snoc {S T : Nat → Prop} {w w' : World} {v v' u : Value} {xss : List (List Int)} {xs : List Int} {vs : List Value} (h2 : Rows 3 (fun j => S j ∧ v.ownBlock ≠ some j) w vs xss) (hu : OwnInts 3 T w u xs)
    (h1 : Row 23 1 (fun k => v.ownBlock = some k ∨ w.heap.size < k) w' v' (xss.length + 1) (vs ++ [u])) (g : Chg (fun k => v.ownBlock = some k) w w') (hS : ∀ j, v.ownBlock = some j → S j ∧ j < w.heap.size) (hT : ∀ j, S j → ¬ T j) :
    Blocks (fun j => (S j ∧ j < w.heap.size) ∨ (T j ∧ j < w.heap.size) ∨ w.heap.size < j) w' v' (xss ++ [xs]) := by
  refine ⟨vs ++ [u], ?_, ?_⟩
  · rw [List.length_append, List.length_singleton]
    exact h1.mono fun j _ hj => by
      rcases hj with hj | hj
      · exact .inl (hS j hj)
      · exact .inr (.inr hj)
  · have r := (Rows.snoc hu.old h2.old (fun j hj hT' => hT j hj.1.1 hT'.1)).chg g (fun j _ hj he => by
      rcases hj with hj | hj
      · exact hj.1.2 he
      · exact hT j (hS j he).1 hj.1)
    refine r.mono fun j hj hh => ?_
    have hlt : j < w.heap.size := by rcases hh with hh | hh <;> exact hh.2
    refine ⟨?_, fun e => ?_⟩
    · rcases hh with hh | hh
      · exact .inl ⟨hh.1.1, hh.2⟩
      · exact .inr (.inl ⟨hh.1, hh.2⟩)
    · have := h1.2 j e
      rcases this with h | h
      · rcases hh with hh | hh
        · exact hh.1.2 h
        · exact hT j (hS j h).1 hh.1
      · omega

def eqL {α : Type} [DecidableEq α] : List α → List α → Bool
  | x :: xs, y :: ys => if x = y then eqL xs ys else false
  | [], _ => true
  | _ :: _, [] => true
theorem eqL_is {α : Type} [DecidableEq α] : ∀ (xs ys : List α), xs.length = ys.length → eqL xs ys = decide (xs = ys)
  | [], [], _ => by simp [eqL]
  | x :: xs, y :: ys, h => by
    rw [eqL, eqL_is xs ys (by simpa using h)]
    by_cases e : x = y <;> simp [e]

/-- what markIntSS writes -/
def upTos (k : Int) : List (List Int) → List (List Int)
  | [] => []
  | xs :: r => upTo k xs.length :: upTos (k + xs.length) r
def total (xss : List (List Int)) : Nat := (xss.map List.length).sum

@[simp] theorem length_upTos : ∀ (k : Int) (xss : List (List Int)), (upTos k xss).length = xss.length
  | _, [] => rfl
  | k, xs :: r => by simp [upTos, length_upTos]
theorem total_cons (xs : List Int) (r : List (List Int)) : total (xs :: r) = xs.length + total r := by simp [total]
theorem total_append (a b : List (List Int)) : total (a ++ b) = total a + total b := by simp [total]
theorem upTos_append : ∀ (k : Int) (a b : List (List Int)), upTos k (a ++ b) = upTos k a ++ upTos (k + total a) b
  | k, [], b => by simp [upTos, total]
  | k, xs :: r, b => by
    rw [List.cons_append, upTos, upTos_append, upTos, total_cons]
    simp [Int.add_assoc]
theorem total_take {xss : List (List Int)} {j : Nat} {xs : List Int} (h : xss[j]? = some xs) : total (xss.take (j + 1)) = total (xss.take j) + xs.length := by
  obtain ⟨hk, rfl⟩ := List.getElem?_eq_some_iff.1 h
  rw [List.take_succ_eq_append_getElem hk, total_append]; simp [total]
theorem total_le (xss : List (List Int)) (j : Nat) : total (xss.take j) ≤ total xss := by
  conv => rhs; rw [← List.take_append_drop j xss, total_append]
  omega
/-- what stands there after j rounds -/
def markedTo (k : Int) (xss : List (List Int)) (j : Nat) : List (List Int) := upTos k (xss.take j) ++ xss.drop j
theorem length_marked (k : Int) (xss : List (List Int)) (j : Nat) : (markedTo k xss j).length = xss.length := by simp [markedTo]; omega
theorem marked_get {k : Int} {xss : List (List Int)} {j : Nat} {xs : List Int} (h : xss[j]? = some xs) : (markedTo k xss j)[j]? = some xs := by
  obtain ⟨hk, rfl⟩ := List.getElem?_eq_some_iff.1 h
  unfold markedTo
  rw [List.getElem?_append_right (by simp; omega)]
  simp [Nat.min_eq_left (Nat.le_of_lt hk)]
theorem marked_step {k : Int} {xss : List (List Int)} {j : Nat} {xs : List Int} (h : xss[j]? = some xs) : (markedTo k xss j).set j (upTo (k + total (xss.take j)) xs.length) = markedTo k xss (j + 1) := by
  obtain ⟨hk, e⟩ := List.getElem?_eq_some_iff.1 h
  unfold markedTo
  rw [List.take_succ_eq_append_getElem hk, upTos_append, List.set_append_right _ _ (by simp; omega)]
  have e1 : j - (upTos k (List.take j xss)).length = 0 := by simp; omega
  rw [e1, List.drop_eq_getElem_cons hk, List.set_cons_zero, e]
  simp [upTos]
theorem upTos_get {xss : List (List Int)} {j : Nat} {k : Int} {xs : List Int} (h : xss[j]? = some xs) : (upTos k xss)[j]? = some (upTo (k + total (xss.take j)) xs.length) := by
  obtain ⟨hk, e⟩ := List.getElem?_eq_some_iff.1 h
  conv => lhs; rw [← List.take_append_drop j xss, upTos_append]
  rw [List.getElem?_append_right (by simp; omega)]
  have e1 : j - (upTos k (List.take j xss)).length = 0 := by simp; omega
  rw [e1, List.drop_eq_getElem_cons hk, e]
  simp [upTos]

end Go.Proofs.YtipligidnoajfaaDoor
