/- Texts as values. -/
import Derived.Test.YtkffejommncinaaDoorBase
import Derived.Lib.Strings
import Derived.Lib.IndexBytes
namespace Go.Proofs.YtkffejommncinaaDoor
open Go.RowKit

/-- a text as a value -/
def txt (l : List UInt8) : Value := .string ⟨l.toArray⟩
theorem txt_of (s : ByteArray) : Value.string s = txt s.data.toList := by unfold txt; rw [Lib.mk_data]
theorem txt_cut (s : ByteArray) (a b : Nat) : Value.string (s.extract a b) = txt ((s.data.toList.drop a).take (b - a)) := by rw [txt_of, Lib.extract_data]
@[simp] theorem txt_one (l : List UInt8) : (txt l).oneCell' = true := rfl

end Go.Proofs.YtkffejommncinaaDoor
