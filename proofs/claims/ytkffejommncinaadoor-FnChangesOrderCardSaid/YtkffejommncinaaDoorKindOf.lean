/- kindOf; the items that a change holds; itemEqual. -/
import Derived.Test.YtkffejommncinaaDoorChangeKit
namespace Go.Proofs.YtkffejommncinaaDoor
open Go.RowKit

/-- a change as the program holds it -/
def chV (c : ChR) (u : Value) : Value := .iface (if c.kind = 1 then 110 else if c.kind = 2 then 109 else 111) (.agg #[txt c.item.path, .bool c.item.dir, u])
def kindOk (c : ChR) : Prop := c.kind = 1 ∨ c.kind = 2 ∨ c.kind = 3

theorem assertSame (v : Value) (w : World) (t : TypeId) (ht : t = 110 ∨ t = 109) : Sem.run Tryd.prog (Instr.typeAssert (.iface t v) 90 t true) w = .ok (.tuple #[v, .bool true]) w := by
  rcases ht with rfl | rfl
  all_goals kernel_rfl
theorem assertOther (v : Value) (w : World) (t s : TypeId) (ht : s = 110 ∧ (t = 109 ∨ t = 111) ∨ s = 109 ∧ t = 111) : Sem.run Tryd.prog (Instr.typeAssert (.iface t v) 90 s true) w = .ok (.tuple #[.agg #[.string ByteArray.empty, .bool false, .slice none 0 0], .bool false]) w := by
  rcases ht with ⟨rfl, rfl | rfl⟩ | ⟨rfl, rfl⟩
  all_goals kernel_rfl
set_option maxRecDepth 4000 in
set_option maxHeartbeats 400000 in
theorem kindOf (c : ChR) (u : Value) (w : World) (hc : kindOk c) :
    Calls Tryd.prog 64 #[chV c u] w fun e w' => e = .returned (.int .i64 c.kind) ∧ New w w' := by
  obtain ⟨k, o⟩ := c
  unfold chV txt
  rcases hc with h | h | h
  all_goals
    simp only at h
    subst h
    simp only [if_true, if_false, show ¬ ((2 : Int) = 1) by decide, show ¬ ((3 : Int) = 1) by decide, show ¬ ((3 : Int) = 2) by decide]
    generalize (Value.agg #[.string ⟨o.path.toArray⟩, .bool o.dir, u]) = v
    have a1 := fun w' => assertSame v w' 110 (.inl rfl)
    have a2 := fun w' => assertSame v w' 109 (.inr rfl)
    have a3 := fun w' => assertOther v w' 109 110 (.inl ⟨rfl, .inl rfl⟩)
    have a4 := fun w' => assertOther v w' 111 110 (.inl ⟨rfl, .inr rfl⟩)
    have a5 := fun w' => assertOther v w' 111 109 (.inr ⟨rfl, rfl⟩)
    go_enter Tryd.func64, Tryd.ntmps64
    go_wp2_with fail
    go_ret
    exact ⟨rfl, New.refl _⟩
end Go.Proofs.YtkffejommncinaaDoor
