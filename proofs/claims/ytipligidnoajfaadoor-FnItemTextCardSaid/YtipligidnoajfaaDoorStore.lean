/- The store as a map of the call's own: what it holds as a list, and the operations on it. -/
import Derived.Test.YtipligidnoajfaaDoorHeld
import Derived.Maps.OwnSet
import Derived.Maps.OwnOps
import Derived.Lib.SlKeysI
namespace Go.Proofs.YtipligidnoajfaaDoor
open Go.RowKit Go.Maps

/-- a block of the store, and the slice of its bytes -/
abbrev HP := HeldR × Value
def HP.val (p : HP) : Value := .agg #[.int .i64 p.1.id, p.2, .int .i64 p.1.uses]
def HP.ent (p : HP) : Lit × DataW Value := (.int .i64 p.1.id, .held p.val)
def RV (v : Value) : Option (DataW Value × List MemPlace) := some (.held v, [])
def rising (ps : List HP) : Prop := ps.Pairwise (fun a b => a.1.id < b.1.id)
def setP (p : HP) : List HP → List HP
  | [] => [p]
  | a :: r => if a.1.id < p.1.id then a :: setP p r else if a.1.id = p.1.id then p :: r else p :: a :: r
def atP (k : Int) (ps : List HP) : Option HP := ps.find? (fun p => decide (p.1.id = k))
def delP (k : Int) (ps : List HP) : List HP := ps.filter (fun p => decide (p.1.id ≠ k))

theorem ent_same (p : HP) (k : Int) : (p.ent.1.sameKey (.int .i64 k)) = decide (p.1.id = k) := by
  simp [HP.ent, Lit.sameKey]
theorem map_at (ps : List HP) (k : Int) (z : DataW Value) : (DataW.map (ps.map HP.ent)).atKey (.int .i64 k) z = (match atP k ps with | some p => .held p.val | none => z) := by
  simp only [DataW.atKey, atP]
  induction ps with
  | nil => rfl
  | cons a r ih =>
    simp only [List.map_cons, List.find?_cons, ent_same]
    by_cases h : a.1.id = k
    · simp [h, HP.ent]
    · simp only [decide_eq_false h]; exact ih
theorem map_has (ps : List HP) (k : Int) : Maps.has (DataW.map (ps.map HP.ent)) (.int .i64 k) = (atP k ps).isSome := by
  rw [Maps.has_eq, atP]
  induction ps with
  | nil => rfl
  | cons a r ih =>
    simp only [List.map_cons, List.any_cons, List.find?_cons, ent_same, ih]
    by_cases h : a.1.id = k <;> simp [h]
theorem map_size (ps : List HP) : Maps.size (DataW.map (ps.map HP.ent)) = ps.length := by rw [Maps.size_eq]; simp
theorem map_del (ps : List HP) (k : Int) : (DataW.map (ps.map HP.ent)).del (.int .i64 k) = .map ((delP k ps).map HP.ent) := by
  simp only [DataW.del, delP]
  congr 1
  induction ps with
  | nil => rfl
  | cons a r ih =>
    simp only [List.map_cons, List.filter_cons, ent_same, ih]
    by_cases h : a.1.id = k <;> simp [h]
theorem insert_front (p : HP) : ∀ l : List HP, (∀ a ∈ l, p.1.id < a.1.id) → DataW.insert p.ent (l.map HP.ent) = (p :: l).map HP.ent
  | [], _ => rfl
  | a :: r, h => by
    have := h a (List.mem_cons_self)
    simp only [List.map_cons, DataW.insert]
    rw [if_pos (by simp [HP.ent, Lit.before, this])]
theorem filter_front (k : Int) : ∀ l : List HP, (∀ a ∈ l, k < a.1.id) → (l.map HP.ent).filter (fun p => !p.1.sameKey (.int .i64 k)) = l.map HP.ent
  | [], _ => rfl
  | a :: r, h => by
    have := h a (List.mem_cons_self)
    simp only [List.map_cons, List.filter_cons, ent_same]
    rw [if_pos (by simp; omega), filter_front k r (fun b hb => h b (List.mem_cons_of_mem _ hb))]
theorem map_put (p : HP) : ∀ ps : List HP, rising ps → (DataW.map (ps.map HP.ent)).put (.int .i64 p.1.id) (.held p.val) = .map ((setP p ps).map HP.ent)
  | [], _ => rfl
  | a :: r, h => by
    have hr := (List.pairwise_cons.1 h).2
    have ha := (List.pairwise_cons.1 h).1
    have ih := map_put p r hr
    simp only [DataW.put] at ih ⊢
    injection ih with ih
    congr 1
    simp only [List.map_cons, List.filter_cons, ent_same, setP]
    by_cases h1 : a.1.id < p.1.id
    · rw [if_pos (by simp; omega), if_pos h1, DataW.insert, if_neg (by simp [HP.ent, Lit.before]; omega), List.map_cons]
      exact congrArg _ ih
    · by_cases h2 : a.1.id = p.1.id
      · rw [if_neg (by simp [h2]), if_neg h1, if_pos h2, filter_front _ _ (fun b hb => by have := ha b hb; omega)]
        exact insert_front p r (fun b hb => by have := ha b hb; omega)
      · rw [if_pos (by simp [h2]), if_neg h1, if_neg h2, filter_front _ _ (fun b hb => by have := ha b hb; omega)]
        exact insert_front p (a :: r) (fun b hb => by
          rcases List.mem_cons.1 hb with rfl | hb
          · omega
          · have := ha b hb; omega)

theorem setP_mem {p : HP} : ∀ {ps : List HP} {q : HP}, q ∈ setP p ps → q = p ∨ q ∈ ps
  | [], q, h => by simp [setP] at h; exact .inl h
  | a :: r, q, h => by
    rw [setP] at h
    split at h
    · rcases List.mem_cons.1 h with rfl | h
      · exact .inr List.mem_cons_self
      · rcases setP_mem h with h | h
        · exact .inl h
        · exact .inr (List.mem_cons_of_mem _ h)
    · split at h
      · rcases List.mem_cons.1 h with rfl | h
        · exact .inl rfl
        · exact .inr (List.mem_cons_of_mem _ h)
      · rcases List.mem_cons.1 h with rfl | h
        · exact .inl rfl
        · exact .inr h
theorem setP_rising (p : HP) : ∀ {ps : List HP}, rising ps → rising (setP p ps)
  | [], _ => by simp [setP, rising]
  | a :: r, h => by
    have hr := (List.pairwise_cons.1 h).2
    have ha := (List.pairwise_cons.1 h).1
    rw [setP]
    split
    · rename_i h1
      refine List.pairwise_cons.2 ⟨fun b hb => ?_, setP_rising p hr⟩
      rcases setP_mem hb with rfl | hb
      · exact h1
      · exact ha b hb
    · split
      · rename_i h2
        refine List.pairwise_cons.2 ⟨fun b hb => by have := ha b hb; omega, hr⟩
      · rename_i h1 h2
        refine List.pairwise_cons.2 ⟨fun b hb => ?_, h⟩
        rcases List.mem_cons.1 hb with rfl | hb
        · omega
        · have := ha b hb; omega
theorem delP_rising (k : Int) {ps : List HP} (h : rising ps) : rising (delP k ps) := List.Pairwise.filter _ h

/-- Block b holds the store ps; its bytes lie in rows of the call's own. -/
def Store (S : Nat → Prop) (w : World) (b n : Nat) (ps : List HP) : Prop :=
  S b ∧ b < w.heap.size ∧ w.ownsMap Tryd.prog 3 RV b n (.map (ps.map HP.ent)) ∧ rising ps ∧ Fields (fun j => S j ∧ j ≠ b) w (ps.map Prod.snd) (ps.map fun p => .nums p.1.bytes)

theorem grown_of_chg {w w' : World} {T : Nat → Prop} (g : Chg T w w') {b : Nat} (hb : b < w.heap.size) (hT : ¬ T b) {P : Program} {k : TypeId} {R : Value → Option (DataW Value × List MemPlace)} {n : Nat} {D : DataW Value} (h : w.ownsMap P k R b n D) : w'.ownsMap P k R b n D := by
  obtain ⟨es, clock, hb', F, hs, hD⟩ := h
  exact ⟨es, clock, (g.block b hb hT).trans hb', F, hs, hD⟩
theorem Store.chg {S T : Nat → Prop} {w w' : World} {b n : Nat} {ps : List HP} (h : Store S w b n ps) (g : Chg T w w') (hd : ∀ j, j < w.heap.size → S j → ¬ T j) : Store S w' b n ps :=
  ⟨h.1, Nat.lt_of_lt_of_le h.2.1 g.size, grown_of_chg g h.2.1 (hd b h.2.1 h.1) h.2.2.1, h.2.2.2.1, h.2.2.2.2.chg g fun j hj hs => hd j hj hs.1⟩
theorem Store.new {S : Nat → Prop} {w w' : World} {b n : Nat} {ps : List HP} (h : Store S w b n ps) (g : New w w') : Store S w' b n ps := h.chg g fun _ _ _ hf => hf
theorem Store.mono {S T : Nat → Prop} {w : World} {b n : Nat} {ps : List HP} (h : Store S w b n ps) (hs : ∀ j, j < w.heap.size → S j → T j) : Store T w b n ps :=
  ⟨hs b h.2.1 h.1, h.2.1, h.2.2.1, h.2.2.2.1, h.2.2.2.2.mono fun j hj hh => ⟨hs j hj hh.1, hh.2⟩⟩
theorem Store.old {S : Nat → Prop} {w : World} {b n : Nat} {ps : List HP} (h : Store S w b n ps) : Store (fun j => S j ∧ j < w.heap.size) w b n ps := h.mono fun _ hj hs => ⟨hs, hj⟩
theorem chg_of_grown {w w' : World} {b : Nat} (g : w.grownBy w' (some b)) : Chg (fun j => j = b) w w' :=
  ⟨g.os, g.tape, g.output, g.size, fun j hj hne => g.block j hj (fun e => hne (Option.some.inj e))⟩
theorem chg_of_turned {w w' : World} {b : Nat} (g : w.mapTurned w' b) : Chg (fun j => j = b) w w' := chg_of_grown g.grown

/-- 'm[k] = v' at a step of a region that draws its order. -/
theorem stepMap_update {P : Program} {w : World} {ops : Array Oper} {o : Oper} {a : Act} {Q : Exit → Act → World → Prop} {K : Act → World → Prop} {E : Prop}
    (hgd : o.guard = none) (m x v : Operand) (t : TypeId) (hop : o.op = Op.mapUpdate t m x v)
    (k e : TypeId) (Ky : Keyed P k) (ht : P.underlying t = some (.map k e)) (R : Value → Option (DataW Value × List MemPlace)) (b n : Nat) (D : DataW Value)
    (hm : a.eval m = .map (some b)) (hown : w.ownsMap P k R b n D) (hn : n < maxLen) (key val : Value) (kl : Lit) (hx : a.eval x = key) (hv : a.eval v = val) (hkey : keyOf P k key = some kl)
    (d : DataW Value) (ps : List MemPlace) (hval : R val = some (d, ps))
    (h : ∀ w', w'.ownsMap P k R b (n + 1) (D.put kl d) → w.grownBy w' (some b) → K (a.put o.dst undef) w') :
    if Region.wanted o (yielded ops a.tmps) = true then Oper.wp P o a w K Q else E := by
  have hw : Region.wanted o (yielded ops a.tmps) = true := by simp [Region.wanted, hgd]
  rw [if_pos hw]
  obtain ⟨w', hrun, r1, r2⟩ := hown.update Ky ht hn hkey hval
  unfold Oper.wp
  simp [execOp, hop, hm, hx, hv, hrun, Result.andThen]
  exact h w' r1 r2

end Go.Proofs.YtipligidnoajfaaDoor
