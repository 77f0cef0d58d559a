/- Slices of strings: eqStringS, sameTexts, markStringS, heldStringS. -/
import Derived.Test.YtkffejommncinaaDoorTreeKit
import Derived.Test.YtkffejommncinaaDoorTexts0
import Derived.Deep.RegionHeld3
namespace Go.Proofs.YtkffejommncinaaDoor
open Go.RowKit

def strFlds (os : List (List UInt8)) : List Fld := os.map .txt
/-- a slice that reads as texts -/
def Strs (S : Nat → Prop) (w : World) (v : Value) (os : List (List UInt8)) : Prop := Recs 1 S w v os.length (strFlds os)
def OwnStrs (S : Nat → Prop) (w : World) (v : Value) (os : List (List UInt8)) : Prop := OwnRecs 9 1 S w v os.length (strFlds os)
theorem strFlds_get {os : List (List UInt8)} {j : Nat} {o : List UInt8} (h : os[j]? = some o) : (strFlds os)[j]? = some (.txt o) := by simp [strFlds, h]
theorem len_strFlds (os : List (List UInt8)) : (strFlds os).length = os.length := by simp [strFlds]
theorem sizes_str : ∀ os : List (List UInt8), sizes (strFlds os) = os.length
  | [] => rfl
  | o :: r => by
    show sizes ([.txt o] ++ strFlds r) = _
    rw [sizes_append, sizes_str r]
    simp [sizes, Fld.size]; omega
theorem Strs.at {S : Nat → Prop} {w : World} {v : Value} {os : List (List UInt8)} (h : Strs S w v os) {i : Nat} {o : List UInt8} (ho : os[i]? = some o) :
    ∃ b off c, v = .slice (some ⟨b, off, none⟩) os.length c ∧ b < w.heap.size ∧ w.cell? ⟨b, off + i, none⟩ = some (txt o) ∧ o.length ≤ maxLen := by
  obtain ⟨b, off, c, rfl, hS, hb, hc⟩ := h.head (by have := (List.getElem?_eq_some_iff.1 ho).1; omega)
  obtain ⟨u0, c0, r0, l0⟩ := hc i (.txt o) (strFlds_get ho)
  subst r0
  exact ⟨b, off, c, rfl, hb, c0, l0⟩

end Go.Proofs.YtkffejommncinaaDoor
