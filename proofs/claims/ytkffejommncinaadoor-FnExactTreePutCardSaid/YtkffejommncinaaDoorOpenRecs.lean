/- Arguments that are slices of structs, opened to cells: the part that is one for all types. -/
import Derived.Test.YtkffejommncinaaDoorBaseA
import Derived.ProofKit
import Derived.OpenShut
import Derived.Deep.Slices
import Derived.Deep.Fields
import Derived.ChangeArms
namespace Go.Proofs.YtkffejommncinaaDoor
open Go.RowKit Go.ChangeShapes Go.WideShapes Go.Deep

theorem list_of {α : Type} (P : Nat → α → Prop) : ∀ n, (∀ i, i < n → ∃ a, P i a) → ∃ l : List α, l.length = n ∧ ∀ i a, l[i]? = some a → P i a
  | 0, _ => ⟨[], rfl, fun i a h => by simp at h⟩
  | n + 1, h => by
    obtain ⟨l, h1, h2⟩ := list_of P n (fun i hi => h i (by omega))
    obtain ⟨a, ha⟩ := h n (by omega)
    refine ⟨l ++ [a], by simp [h1], fun i x hx => ?_⟩
    by_cases hi : i < n
    · rw [List.getElem?_append_left (by omega)] at hx
      exact h2 i x hx
    · have : i < (l ++ [a]).length := (List.getElem?_eq_some_iff.1 hx).1
      simp [h1] at this
      obtain rfl : i = n := by omega
      rw [List.getElem?_append_right (by omega)] at hx
      simp [h1] at hx
      subst hx; exact ha

theorem recs_of {α : Type} {f : α → List Fld} {sz : Nat} (hf : ∀ a, (f a).length = sz) (hsz : 0 < sz) {S : Nat → Prop} {w : World} {b off c : Nat} {os : List α} (hc : os.length ≤ c) (hm : c ≤ maxLen)
    (h : os = [] ∨ S b ∧ b < w.heap.size ∧ ∀ q o, os[q]? = some o → ∀ r g, (f o)[r]? = some g → ∃ u, w.cell? ⟨b, off + (q * sz + r), none⟩ = some u ∧ g.reads S w u) :
    Recs sz S w (.slice (some ⟨b, off, none⟩) os.length c) os.length (os.flatMap f) := by
  refine ⟨flds_len f sz hf os, _, c, rfl, hc, hm, ?_⟩
  rcases h with rfl | ⟨hS, hb, h⟩
  · exact .inl rfl
  · refine .inr ⟨b, off, rfl, hS, hb, fun i g hg => ?_⟩
    have hi := (List.getElem?_eq_some_iff.1 hg).1
    rw [flds_len f sz hf os] at hi
    have hq : i / sz < os.length := by rw [Nat.div_lt_iff_lt_mul hsz]; exact hi
    obtain ⟨o, ho⟩ := get_of hq
    have hr : i % sz < sz := Nat.mod_lt _ hsz
    have e : i / sz * sz + i % sz = i := by rw [Nat.mul_comm]; exact Nat.div_add_mod i sz
    have hg2 := flds_get f sz hf os ho hr
    rw [e, hg] at hg2
    have := h _ o ho _ g hg2.symm
    rw [e] at this
    exact this

theorem nums_of_cells' {k : IntKind} {w : World} (x : Addr) (n c : Nat) (zs : List Int) (hl : n ≤ c) (hm : c ≤ maxLen) (hz : n ≤ zs.length)
    (hc : ∀ i, i < zs.length → w.cell? (x.add i) = some (.int k (zs.getD i 0))) (hw : ∀ n ∈ zs, (Lit.int k n).wf = true) : Nums k Any w (.slice (some x) n c) (zs.take n) := by
  have hln : (zs.take n).length = n := by simp; omega
  refine ⟨.some x, c, by rw [hln], by omega, ⟨hm, by simp⟩, fun y hy => hw y (List.mem_of_mem_take hy), ?_⟩
  by_cases h0 : n = 0
  · left; subst h0; rfl
  · right
    obtain ⟨b, off, spot⟩ := x
    have h1 := hc 0 (by omega)
    have hspot : spot = none := by simpa [Addr.add] using World.cell?_spot h1
    subst hspot
    refine ⟨b, off, rfl, trivial, World.block_lt_of_cell? w _ h1, fun i y hy => ?_⟩
    have hi : i < n := by have := (List.getElem?_eq_some_iff.1 hy).1; omega
    have h2 := hc i (by omega)
    rw [List.getElem?_take_of_lt hi] at hy
    rw [Addr.add_lit] at h2
    simpa [List.getD, hy] using h2

section
variable {H : Type} {enc : TypeId × Value → H} {W : World} {base : Nat} {sp : Nat → Bool} {held : Bool} {n : Nat} {v : Value} {y : DataW H × List MemPlace}
theorem fld_int (h : DataW.trod enc Tryd.prog W base sp held n 3 [v] = some y) : ∃ x, (Fld.int x).reads Any W v := by
  obtain ⟨x, h1, _, h2⟩ := DataW.trod_int Tryd.underlying3 h
  exact ⟨x, by simpa using h1, h2⟩
theorem fld_txt (h : DataW.trod enc Tryd.prog W base sp held n 9 [v] = some y) : ∃ l, (Fld.txt l).reads Any W v := by
  obtain ⟨s, h1, _, h2⟩ := DataW.trod_string Tryd.underlying9 h
  refine ⟨s.data.toList, ?_, by rw [← Lib.size_eq]; exact h2⟩
  rw [← txt_of]; simpa using h1
theorem fld_bool (h : DataW.trod enc Tryd.prog W base sp held n 4 [v] = some y) : ∃ b, (Fld.bool b).reads Any W v := by
  obtain ⟨b, h1, _⟩ := DataW.trod_bool Tryd.underlying4 h
  exact ⟨b, by simpa [Fld.reads] using h1⟩
theorem fld_nums (h : DataW.trod enc Tryd.prog W base sp held n 26 [v] = some y) : ∃ xs, (Fld.nums xs).reads Any W v := by
  rcases open_ints Tryd.underlying26 Tryd.underlying3 (by kernel_rfl) h with ⟨hcs, _⟩ | ⟨x, l, c, zs, hcs, _, hl, hm, hz, _, hcell, hwz⟩
  · simp at hcs
    subst hcs
    exact ⟨[], Nums.nil _ _ _⟩
  · simp at hcs
    subst hcs
    exact ⟨zs.take l, nums_of_cells' x l c zs hl hm (by rw [hz]; split <;> omega) hcell hwz⟩
end

end Go.Proofs.YtkffejommncinaaDoor
