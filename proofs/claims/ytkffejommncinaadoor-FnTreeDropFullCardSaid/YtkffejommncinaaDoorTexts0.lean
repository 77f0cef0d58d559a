/- Texts as values, and slices of texts: rows of the call's own. -/
import Derived.Test.YtkffejommncinaaDoorTxt
namespace Go.Proofs.YtkffejommncinaaDoor
open Go.RowKit

theorem slStr : SliceOf Tryd.prog 79 9 (.string ByteArray.empty) 1 16 := by refine ⟨by kernel_rfl, by kernel_rfl, rfl, by decide⟩

/-- A slice of texts of the call's own. -/
def OwnTexts (S : Nat → Prop) (w : World) (v : Value) (ls : List (List UInt8)) : Prop := Row 9 1 S w v ls.length (ls.map txt)
/-- A slice that reads as texts. -/
def Texts (S : Nat → Prop) (w : World) (v : Value) (ls : List (List UInt8)) : Prop :=
  ∃ a c, v = .slice a ls.length c ∧ ls.length ≤ c ∧ c ≤ maxLen ∧ (ls = [] ∨ ∃ b off, a = some ⟨b, off, none⟩ ∧ S b ∧ b < w.heap.size ∧ ∀ i l, ls[i]? = some l → w.cell? ⟨b, off + i, none⟩ = some (txt l))
theorem OwnTexts.texts {S : Nat → Prop} {w : World} {v : Value} {ls : List (List UInt8)} (h : OwnTexts S w v ls) : Texts S w v ls := by
  by_cases h0 : 0 < ls.length
  · obtain ⟨g, cap, rfl, hS, hlt, h1, h2⟩ := Row.head h h0
    refine ⟨_, cap, rfl, h1, h2, .inr ⟨g, 0, rfl, hS, hlt, fun i l hl => ?_⟩⟩
    rw [Nat.zero_add]
    exact Row.cellAt h (by simp [hl])
  · obtain rfl : ls = [] := List.eq_nil_of_length_eq_zero (by omega)
    obtain ⟨a, cap, rfl, h1, h2, _, h5⟩ := Row.shape h
    exact ⟨a, cap, rfl, h1, h2, .inl rfl⟩
theorem OwnTexts.new {S : Nat → Prop} {w w' : World} {v : Value} {ls : List (List UInt8)} (h : OwnTexts S w v ls) (g : New w w') : OwnTexts S w' v ls := Row.new h g
theorem OwnTexts.mono {S T : Nat → Prop} {w : World} {v : Value} {ls : List (List UInt8)} (h : OwnTexts S w v ls) (hs : ∀ k, k < w.heap.size → S k → T k) : OwnTexts T w v ls := Row.mono h hs
theorem OwnTexts.chg {S T : Nat → Prop} {w w' : World} {v : Value} {ls : List (List UInt8)} (h : OwnTexts S w v ls) (g : Chg T w w') (hs : ∀ k, k < w.heap.size → S k → ¬ T k) : OwnTexts S w' v ls := Row.chg h g hs
theorem OwnTexts.old {S : Nat → Prop} {w : World} {v : Value} {ls : List (List UInt8)} (h : OwnTexts S w v ls) : OwnTexts (fun j => S j ∧ j < w.heap.size) w v ls := h.mono fun _ hj hs => ⟨hs, hj⟩
theorem Texts.new {S : Nat → Prop} {w w' : World} {v : Value} {ls : List (List UInt8)} (h : Texts S w v ls) (g : New w w') : Texts S w' v ls := by
  obtain ⟨a, c, rfl, h1, h2, h4⟩ := h
  refine ⟨a, c, rfl, h1, h2, ?_⟩
  rcases h4 with h4 | ⟨b, off, rfl, hs, hb, hc⟩
  · exact .inl h4
  · exact .inr ⟨b, off, rfl, hs, Nat.lt_of_lt_of_le hb g.size, fun i x hx => g.cell (hc i x hx)⟩
theorem OwnTexts.nil (S : Nat → Prop) (w : World) : OwnTexts S w (.slice none 0 0) [] := Row.nil _ _ _ _

end Go.Proofs.YtkffejommncinaaDoor
