/- 'append(v, x)' onto a row of the call's own, of one-cell elements. -/
import Derived.Test.YtkffejommncinaaDoorBase
namespace Go.Proofs.YtkffejommncinaaDoor
open Go.RowKit

theorem wpRow_append1 {P : Program} {w : World} {ops : Array Oper} {rest : List Oper} {o : Oper} {a : Act} {Q : Exit → Act → World → Prop}
    {t e : TypeId} {z : Value} {bytes : Nat} (T : SliceOf P t e z 1 bytes) (s x : Operand) (hgd : o.guard = none)
    (ho : o.op = .call { callee := .builtin .append, args := #[s, x], argTypes := #[t, t] })
    {S : Nat → Prop} (v : Value) (n : Nat) (xs : List Value) (u : Value) (te : TypeId) (hs : a.eval s = v) (hrow : Row e 1 S w v n xs) (hu : u.oneCell' = true)
    (hx : a.eval x = .slice (some ⟨w.heap.size, 0, none⟩) 1 1) (h63 : (n + 1) * bytes ≤ 140737488355328) (hb : 0 < bytes)
    (h : ∀ v' w', Row e 1 (fun k => v.ownBlock = some k ∨ w.heap.size < k) w' v' (n + 1) (xs ++ [u]) → Chg (fun k => v.ownBlock = some k) w w' → wpList P ops Q rest (a.put o.dst v') w') :
    wpList P ops Q (o :: rest) a (w.alloc (.cells #[u] te)) := by
  have hn : New w (w.alloc (.cells #[u] te)) := (New.refl w).alloc _
  have hle : n + 1 ≤ 140737488355328 := Nat.le_trans (Nat.le_mul_of_pos_right _ hb) h63
  refine wpRow_append T s x hgd ho v n xs hs (hrow.new hn) (.some ⟨w.heap.size, 0, none⟩) 1 1 [u] hx ⟨rfl, by simp, fun ad e => by cases e; exact cell_one_new _ _ _⟩ (by simpa using hu) (by unfold maxLen; omega) h63 ?_
  intro v' w' hr hc
  refine h v' w' ?_ ?_
  · refine hr.mono fun j hj hh => ?_
    rcases hh with hh | hh
    · exact .inl hh
    · refine .inr ?_
      simp at hh; omega
  · exact ⟨hc.os.trans hn.os, hc.tape.trans hn.tape, hc.output.trans hn.output, Nat.le_trans hn.size hc.size, fun j hj hv => (hc.block j (Nat.lt_of_lt_of_le hj hn.size) hv).trans (hn.block j hj (fun h => h))⟩

theorem Row.chg' {e sz : Nat} {S T : Nat → Prop} {w w' : World} {v : Value} {n : Nat} {xs : List Value} (h : Row e sz S w v n xs) (g : Chg T w w') (hd : ∀ j, v.ownBlock = some j → ¬ T j) : Row e sz S w' v n xs :=
  (Row.chg (S := fun j => S j ∧ v.ownBlock = some j) ⟨h.1, fun j hj => ⟨h.2 j hj, hj⟩⟩ g (fun j _ hj => hd j hj.2)).mono fun _ _ hj => hj.1

theorem wpRow_appendRec {P : Program} {w : World} {ops : Array Oper} {rest : List Oper} {o : Oper} {a : Act} {Q : Exit → Act → World → Prop}
    {t e : TypeId} {z : Value} {sz bytes : Nat} (T : SliceOf P t e z sz bytes) (s x : Operand) (hgd : o.guard = none)
    (ho : o.op = .call { callee := .builtin .append, args := #[s, x], argTypes := #[t, t] })
    {S : Nat → Prop} (v : Value) (n : Nat) (xs us : List Value) (te : TypeId) (hs : a.eval s = v) (hrow : Row e sz S w v n xs) (hul : us.length = sz) (hu : ∀ u ∈ us, u.oneCell' = true)
    (hx : a.eval x = .slice (some ⟨w.heap.size, 0, none⟩) 1 1) (h63 : (n + 1) * bytes ≤ 140737488355328) (hb : 0 < bytes)
    (h : ∀ v' w', Row e sz (fun k => v.ownBlock = some k ∨ w.heap.size < k) w' v' (n + 1) (xs ++ us) → Chg (fun k => v.ownBlock = some k) w w' → wpList P ops Q rest (a.put o.dst v') w') :
    wpList P ops Q (o :: rest) a (w.alloc (.cells us.toArray te)) := by
  have hn : New w (w.alloc (.cells us.toArray te)) := (New.refl w).alloc _
  have hle : n + 1 ≤ 140737488355328 := Nat.le_trans (Nat.le_mul_of_pos_right _ hb) h63
  refine wpRow_append T s x hgd ho v n xs hs (hrow.new hn) (.some ⟨w.heap.size, 0, none⟩) 1 1 us hx ⟨by omega, by simp, fun ad e j u hu => ?_⟩ hu (by unfold maxLen; omega) h63 ?_
  · cases e
    rw [addr_add, Nat.zero_add]
    have hb := heap_alloc_new w (.cells us.toArray te)
    simp only [World.cell?, hb]
    simpa using hu
  intro v' w' hr hc
  refine h v' w' ?_ ?_
  · refine hr.mono fun j hj hh => ?_
    rcases hh with hh | hh
    · exact .inl hh
    · refine .inr ?_
      simp at hh; omega
  · exact ⟨hc.os.trans hn.os, hc.tape.trans hn.tape, hc.output.trans hn.output, Nat.le_trans hn.size hc.size, fun j hj hv => (hc.block j (Nat.lt_of_lt_of_le hj hn.size) hv).trans (hn.block j hj (fun h => h))⟩

end Go.Proofs.YtkffejommncinaaDoor
