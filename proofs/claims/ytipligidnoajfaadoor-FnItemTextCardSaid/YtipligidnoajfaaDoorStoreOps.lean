/- The store's operations: look-up, keep, drop. -/
import Derived.Test.YtipligidnoajfaaDoorStoreOpen
namespace Go.Proofs.YtipligidnoajfaaDoor
open Go.RowKit Go.Maps

def zeroHeld : Value := .agg #[.int .i64 0, .slice none 0 0, .int .i64 0]
theorem under_store : (Tryd.prog).underlying 51 = some (.map 3 47) := by kernel_rfl
theorem zero_held (w : World) : (zeroValue 47).run Tryd.prog w = .ok zeroHeld w := by kernel_rfl

theorem atP_some {k : Int} {ps : List HP} {p : HP} (h : atP k ps = some p) : p ∈ ps ∧ p.1.id = k := by
  refine ⟨List.mem_of_find?_eq_some h, ?_⟩
  have := List.find?_some h
  simpa using this
theorem Store.look {S : Nat → Prop} {w : World} {b n : Nat} {ps : List HP} (h : Store S w b n ps) {k : Int} (hk : I64 k) :
    (Instr.lookup 51 (.map (some b)) (.int .i64 k) true).run Tryd.prog w = .ok (match atP k ps with | some p => .tuple #[p.val, .bool true] | none => .tuple #[zeroHeld, .bool false]) w := by
  obtain ⟨v, q, hrun, hv⟩ := h.2.2.1.look_ok KI under_store (zero_held w) (zd := .held zeroHeld) (zp := []) rfl (key_int hk)
  rw [hrun, map_has]
  rw [map_at] at hv
  revert hv
  rcases atP k ps with _ | p <;> intro hv
  · simp only [RV, Option.some.injEq, Prod.mk.injEq, DataW.held.injEq] at hv
    rw [hv.1]; rfl
  · simp only [RV, Option.some.injEq, Prod.mk.injEq, DataW.held.injEq] at hv
    rw [hv.1]; rfl
theorem Store.look1 {S : Nat → Prop} {w : World} {b n : Nat} {ps : List HP} (h : Store S w b n ps) {k : Int} (hk : I64 k) :
    (Instr.lookup 51 (.map (some b)) (.int .i64 k) false).run Tryd.prog w = .ok (match atP k ps with | some p => p.val | none => zeroHeld) w := by
  obtain ⟨v, q, hrun, hv⟩ := h.2.2.1.lookup KI under_store (zero_held w) (zd := .held zeroHeld) (zp := []) rfl (key_int hk)
  rw [hrun]
  rw [map_at] at hv
  revert hv
  rcases atP k ps with _ | p <;> intro hv
  · simp only [RV, Option.some.injEq, Prod.mk.injEq, DataW.held.injEq] at hv
    rw [hv.1]
  · simp only [RV, Option.some.injEq, Prod.mk.injEq, DataW.held.injEq] at hv
    rw [hv.1]
theorem setP_same {p : HP} : ∀ {ps : List HP} {q : HP}, rising ps → q ∈ ps → q.1.id = p.1.id → q.2 = p.2 → q.1.bytes = p.1.bytes → (setP p ps).map Prod.snd = ps.map Prod.snd ∧ ((setP p ps).map fun x => Fld.nums x.1.bytes) = ps.map fun x => Fld.nums x.1.bytes
  | [], q, _, h, _, _, _ => by simp at h
  | a :: r, q, hr, h, h1, h2, h3 => by
    have ha := (List.pairwise_cons.1 hr).1
    rcases List.mem_cons.1 h with rfl | h
    · rw [setP, if_neg (by omega), if_pos h1]
      simp [h2, h3]
    · have hlt := ha q h
      rw [setP, if_pos (by omega)]
      obtain ⟨e1, e2⟩ := setP_same (p := p) (List.pairwise_cons.1 hr).2 h h1 h2 h3
      simp only [List.map_cons, e1, e2]
      exact ⟨trivial, trivial⟩
theorem Fields.ins {w : World} {T : Nat → Prop} {p : HP} (hp : OwnI T w p.2 p.1.bytes) : ∀ {ps : List HP} {S : Nat → Prop}, rising ps → (∀ q ∈ ps, q.1.id ≠ p.1.id) → Fields S w (ps.map Prod.snd) (ps.map fun x => .nums x.1.bytes) → (∀ j, S j → ¬ T j) →
    Fields (fun j => S j ∨ T j) w ((setP p ps).map Prod.snd) ((setP p ps).map fun x => .nums x.1.bytes)
  | [], S, _, _, _, _ => ⟨hp.mono fun _ _ hj => .inr hj, trivial⟩
  | a :: r, S, hr, hne, hf, hd => by
    have hb : ∀ {R : Nat → Prop} {v : Value} {f : Fld}, f.owns R w v → ∀ j, blk v f = some j → R j := fun h j e => (h.blk j e).1
    rw [setP]
    split
    · have h2 := Fields.ins (p := p) hp (List.pairwise_cons.1 hr).2 (fun q hq => hne q (List.mem_cons_of_mem _ hq)) hf.2 (fun j hj => hd j hj.1)
      refine ⟨hf.1.mono fun j _ hj => .inl hj, h2.mono fun j _ hj => ?_⟩
      rcases hj with hj | hj
      · exact ⟨.inl hj.1, hj.2⟩
      · exact ⟨.inr hj, fun e => hd j (hb hf.1 j e) hj⟩
    · split
      · rename_i h; exact absurd h (hne a List.mem_cons_self)
      · have h1 : Fld.owns T w p.2 (.nums p.1.bytes) := hp
        refine ⟨hp.mono fun j _ hj => .inr hj, ?_⟩
        refine Fields.mono (S := S) hf fun j _ hj => ⟨.inl hj, fun e => hd j hj (hb h1 j e)⟩
theorem Fields.del {w : World} {f : HP → Bool} : ∀ {ps : List HP} {S : Nat → Prop}, Fields S w (ps.map Prod.snd) (ps.map fun x => .nums x.1.bytes) → Fields S w ((ps.filter f).map Prod.snd) ((ps.filter f).map fun x => .nums x.1.bytes)
  | [], S, h => h
  | a :: r, S, h => by
    rw [List.filter_cons]
    split
    · exact ⟨h.1, Fields.del h.2⟩
    · exact (Fields.del h.2).mono fun j _ hj => hj.1
theorem Store.put_run {S : Nat → Prop} {w : World} {b n : Nat} {ps : List HP} (h : Store S w b n ps) (p : HP) (hk : I64 p.1.id) (hn : n < maxLen) :
    ∃ w', (Instr.mapUpdate 51 (.map (some b)) (.int .i64 p.1.id) p.val).run Tryd.prog w = .ok () w' ∧ w'.ownsMap Tryd.prog 3 RV b (n + 1) (.map ((setP p ps).map HP.ent)) ∧ Chg (fun j => j = b) w w' := by
  obtain ⟨w', hrun, m, g⟩ := h.2.2.1.update KI under_store hn (val := p.val) (d := .held p.val) (ps := []) (key_int hk) rfl
  rw [map_put p ps h.2.2.2.1] at m
  exact ⟨w', hrun, m, chg_of_grown g⟩
/-- The block that is there is written anew, with the same bytes. -/
theorem Store.put_same {S : Nat → Prop} {w : World} {b n : Nat} {ps : List HP} (h : Store S w b n ps) {q : HP} (p : HP) (hq : q ∈ ps) (h1 : q.1.id = p.1.id) (h2 : q.2 = p.2) (h3 : q.1.bytes = p.1.bytes) (hk : I64 p.1.id) (hn : n < maxLen) :
    ∃ w', (Instr.mapUpdate 51 (.map (some b)) (.int .i64 p.1.id) p.val).run Tryd.prog w = .ok () w' ∧ Store S w' b (n + 1) (setP p ps) ∧ Chg (fun j => j = b) w w' := by
  obtain ⟨w', hrun, m, g⟩ := h.put_run p hk hn
  refine ⟨w', hrun, ⟨h.1, Nat.lt_of_lt_of_le h.2.1 g.size, m, setP_rising p h.2.2.2.1, ?_⟩, g⟩
  obtain ⟨e1, e2⟩ := setP_same h.2.2.2.1 hq h1 h2 h3
  rw [e1, e2]
  exact h.2.2.2.2.chg g fun j _ hj e => hj.2 e
/-- A block that is not there is written. -/
theorem Store.put_new {S T : Nat → Prop} {w : World} {b n : Nat} {ps : List HP} (h : Store S w b n ps) (p : HP) (hp : OwnI T w p.2 p.1.bytes) (hne : ∀ q ∈ ps, q.1.id ≠ p.1.id) (hd : ∀ j, S j → ¬ T j) (hk : I64 p.1.id) (hn : n < maxLen) :
    ∃ w', (Instr.mapUpdate 51 (.map (some b)) (.int .i64 p.1.id) p.val).run Tryd.prog w = .ok () w' ∧ Store (fun j => S j ∨ T j) w' b (n + 1) (setP p ps) ∧ Chg (fun j => j = b) w w' := by
  obtain ⟨w', hrun, m, g⟩ := h.put_run p hk hn
  refine ⟨w', hrun, ⟨.inl h.1, Nat.lt_of_lt_of_le h.2.1 g.size, m, setP_rising p h.2.2.2.1, ?_⟩, g⟩
  have f := Fields.ins hp h.2.2.2.1 hne h.2.2.2.2 (fun j hj => hd j hj.1)
  refine (f.chg g fun j _ hj e => ?_).mono fun j _ hj => ?_
  · rcases hj with hj | hj
    · exact hj.2 e
    · exact hd j (by rw [show j = b from e]; exact h.1) hj
  · rcases hj with hj | hj
    · exact ⟨.inl hj.1, hj.2⟩
    · exact ⟨.inr hj, fun e => hd j (by rw [e]; exact h.1) hj⟩
theorem Store.del_run {S : Nat → Prop} {w : World} {b n : Nat} {ps : List HP} (h : Store S w b n ps) {k : Int} (hk : I64 k) (ty : TypeId) :
    ∃ w', (Builtin.delete_ #[51, 3] ty #[.map (some b), .int .i64 k]).run Tryd.prog w = .ok (.tuple #[]) w' ∧ Store S w' b n (delP k ps) ∧ Chg (fun j => j = b) w w' := by
  obtain ⟨w', hrun, m, g⟩ := h.2.2.1.drop KI under_store (key_int hk) ty
  have c := chg_of_turned g
  rw [map_del] at m
  exact ⟨w', hrun, ⟨h.1, Nat.lt_of_lt_of_le h.2.1 c.size, m, delP_rising k h.2.2.2.1, (Fields.del h.2.2.2.2).chg c fun j _ hj e => hj.2 e⟩, c⟩

theorem Store.more {S : Nat → Prop} {w : World} {b n m : Nat} {ps : List HP} (h : Store S w b n ps) (hm : n ≤ m) : Store S w b m ps := ⟨h.1, h.2.1, h.2.2.1.mono hm, h.2.2.2⟩
theorem Ints.shapeOf {S : Nat → Prop} {w : World} {v : Value} {xs : List Int} (h : Ints S w v xs) : ∃ a c, v = .slice a xs.length c ∧ xs.length ≤ c ∧ c ≤ maxLen := by
  obtain ⟨a, c, e, h1, ⟨h2, -⟩, -⟩ := h
  exact ⟨a, c, e, h1, h2⟩

/-- how a store goes on: what it holds as a list -/
def keepP (k : Int) (ps : List HP) : Option (List HP) :=
  match atP k ps with
  | none => none
  | some p => if 999 ≤ p.1.uses then none else some (setP ({ p.1 with uses := p.1.uses + 1 }, p.2) ps)
def dropP (k : Int) (ps : List HP) : Option (List HP) :=
  match atP k ps with
  | none => none
  | some p => if p.1.uses = 1 then some (delP k ps) else some (setP ({ p.1 with uses := p.1.uses - 1 }, p.2) ps)
def StepPost (S : Nat → Prop) (b n : Nat) (r : Option (List HP)) (w : World) (e : Ending) (w' : World) : Prop :=
  match r with
  | none => e = .returned (.bool false) ∧ New w w'
  | some ps => e = .returned (.bool true) ∧ Store S w' b (n + 1) ps ∧ Chg (fun j => j = b) w w'

end Go.Proofs.YtipligidnoajfaaDoor
