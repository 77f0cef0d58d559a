/- Blocks of a store: markHeldS, heldHeldS. -/
import Derived.Test.YtipligidnoajfaaDoorHeld
import Derived.Test.YtipligidnoajfaaDoorRecsPut
namespace Go.Proofs.YtipligidnoajfaaDoor
open Go.RowKit

theorem heldFlds_get {os : List HeldR} {j : Nat} {o : HeldR} (h : os[j]? = some o) : (heldFlds os)[j * 3]? = some (.int o.id) ∧ (heldFlds os)[j * 3 + 1]? = some (.nums o.bytes) ∧ (heldFlds os)[j * 3 + 2]? = some (.int o.uses) :=
  ⟨flds_get HeldR.flds 3 (fun _ => rfl) os (j := 0) h (by omega), flds_get HeldR.flds 3 (fun _ => rfl) os (j := 1) h (by omega), flds_get HeldR.flds 3 (fun _ => rfl) os (j := 2) h (by omega)⟩
theorem len_heldFlds (os : List HeldR) : (heldFlds os).length = os.length * 3 := flds_len HeldR.flds 3 (fun _ => rfl) os

end Go.Proofs.YtipligidnoajfaaDoor
