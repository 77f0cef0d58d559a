/- How great the results of StoreKeep and StoreDrop are. -/
import Derived.Test.YtfhnhggmoplmiaaStoreKeep
namespace Go.Proofs.Ytfhnhggmoplmiaa
open Go.RowKit

theorem sizes_bound : ∀ (os : List HeldR) (m : Nat), (∀ o ∈ os, o.bytes.length ≤ m) → sizes (heldFlds os) ≤ os.length * (m + 2)
  | [], _, _ => by simp [heldFlds, sizes]
  | o :: r, m, h => by
    have ih := sizes_bound r m fun x hx => h x (List.mem_cons_of_mem _ hx)
    have ho := h o List.mem_cons_self
    rw [show heldFlds (o :: r) = o.flds ++ heldFlds r by simp [heldFlds], sizes_append, List.length_cons, Nat.succ_mul]
    have : sizes o.flds = o.bytes.length + 2 := by simp [sizes, HeldR.flds, Fld.size]; omega
    omega
def smallH (os : List HeldR) : Prop := os.length ≤ 17 ∧ ∀ o ∈ os, o.bytes.length ≤ 8
theorem smallH.sizes {os : List HeldR} (h : smallH os) : sizes (heldFlds os) ≤ 170 := by
  have := sizes_bound os 8 h.2
  have := h.1
  omega
theorem small_nil : smallH [] := ⟨by simp, by simp⟩
theorem small_store {os : List HeldR} (h : storeOk os = true) : smallH os := by
  obtain ⟨h1, h2, _⟩ := storeOk_all h
  exact ⟨by omega, fun o ho => (blockOk_len (h2 o ho).2.2.2.2).2⟩
theorem small_set {os : List HeldR} (h : smallH os) {i : Nat} {o : HeldR} (ho : os[i]? = some o) (k : Int) : smallH (os.set i { o with uses := k }) := by
  refine ⟨by rw [List.length_set]; exact h.1, fun x hx => ?_⟩
  rcases List.mem_or_eq_of_mem_set hx with hx | rfl
  · exact h.2 x hx
  · exact h.2 o (List.mem_of_getElem? ho)
theorem keepH_small (k : Int) (os : List HeldR) : smallH ((keepH k os).getD []) := by
  rw [keepH]
  split
  · rename_i h
    split
    · exact small_nil
    · split
      · exact small_nil
      · rename_i ho
        split
        · exact small_nil
        · exact small_set (small_store h) ho _
  · exact small_nil
theorem dropH_small (k : Int) (os : List HeldR) : smallH ((dropH k os).getD []) := by
  rw [dropH]
  split
  · rename_i h
    have hs := small_store h
    split
    · exact small_nil
    · split
      · exact small_nil
      · rename_i ho
        split
        · refine ⟨by have := hs.1; simp; omega, fun x hx => ?_⟩
          rcases List.mem_append.1 hx with hx | hx
          · exact hs.2 x (List.mem_of_mem_take hx)
          · exact hs.2 x (List.mem_of_mem_drop hx)
        · exact small_set hs ho _
  · exact small_nil

end Go.Proofs.Ytfhnhggmoplmiaa
