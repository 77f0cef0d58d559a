/- append of one struct (or number) at a step of a region that draws its order. -/
import Derived.Test.YtkffejommncinaaDoorAppend1
import Derived.Test.YtkffejommncinaaDoorTreeKit
namespace Go.Proofs.YtkffejommncinaaDoor
open Go.RowKit

theorem stepRow_appendRec {P : Program} {w : World} {ops : Array Oper} {o : Oper} {a : Act} {Q : Exit → Act → World → Prop} {K : Act → World → Prop} {E : Prop}
    {t e : TypeId} {z : Value} {sz bytes : Nat} (T : SliceOf P t e z sz bytes) (s x : Operand) (hgd : o.guard = none)
    (ho : o.op = .call { callee := .builtin .append, args := #[s, x], argTypes := #[t, t] })
    {S : Nat → Prop} (v : Value) (n : Nat) (xs us : List Value) (te : TypeId) (hs : a.eval s = v) (hrow : Row e sz S w v n xs) (hul : us.length = sz) (hu : ∀ u ∈ us, u.oneCell' = true)
    (hx : a.eval x = .slice (some ⟨w.heap.size, 0, none⟩) 1 1) (h63 : (n + 1) * bytes ≤ 140737488355328) (hb : 0 < bytes)
    (h : ∀ v' w', Row e sz (fun k => v.ownBlock = some k ∨ w.heap.size < k) w' v' (n + 1) (xs ++ us) → Chg (fun k => v.ownBlock = some k) w w' → K (a.put o.dst v') w') :
    if Region.wanted o (yielded ops a.tmps) = true then Oper.wp P o a (w.alloc (.cells us.toArray te)) K Q else E := by
  have hn : New w (w.alloc (.cells us.toArray te)) := (New.refl w).alloc _
  have hle : n + 1 ≤ 140737488355328 := Nat.le_trans (Nat.le_mul_of_pos_right _ hb) h63
  refine stepRow_append T s x hgd ho v n xs hs (hrow.new hn) (.some ⟨w.heap.size, 0, none⟩) 1 1 us hx ⟨by omega, by simp, fun ad e j u hu => ?_⟩ hu (by unfold maxLen; omega) h63 ?_
  · cases e
    rw [addr_add, Nat.zero_add]
    have hb := heap_alloc_new w (.cells us.toArray te)
    simp only [World.cell?, hb]
    simpa using hu
  intro v' w' hr hc
  refine h v' w' ?_ ?_
  · refine hr.mono fun j hj hh => ?_
    rcases hh with hh | hh
    · exact .inl hh
    · refine .inr ?_
      simp at hh; omega
  · exact ⟨hc.os.trans hn.os, hc.tape.trans hn.tape, hc.output.trans hn.output, Nat.le_trans hn.size hc.size, fun j hj hv => (hc.block j (Nat.lt_of_lt_of_le hj hn.size) hv).trans (hn.block j hj (fun h => h))⟩
end Go.Proofs.YtkffejommncinaaDoor
