/- Rows of structs: what their cells read as, over append and set. -/
import Derived.Test.YtkffejommncinaaDoorRecs
namespace Go.Proofs.YtkffejommncinaaDoor
open Go.RowKit

theorem flds_drop {α : Type} (f : α → List Fld) (sz : Nat) (hf : ∀ a, (f a).length = sz) : ∀ (os : List α) (i : Nat), (os.flatMap f).drop (i * sz) = (os.drop i).flatMap f
  | [], i => by simp
  | a :: os, 0 => by simp
  | a :: os, i + 1 => by
    rw [List.flatMap_cons, List.drop_succ_cons, ← flds_drop f sz hf os i, List.drop_append, List.drop_eq_nil_of_le (by rw [hf, Nat.succ_mul]; omega), List.nil_append, hf, Nat.succ_mul, Nat.add_sub_cancel]

/-- The cells us read as the fields fs, by memory in T. -/
def Reads (T : Nat → Prop) (w : World) (us : List Value) (fs : List Fld) : Prop :=
  us.length = fs.length ∧ ∀ (i : Nat) u f, us[i]? = some u → fs[i]? = some f → f.reads T w u

theorem Fields.reads {S : Nat → Prop} {w : World} {us : List Value} {fs : List Fld} (h : Fields S w us fs) : Reads S w us fs := by
  refine ⟨h.length, fun i u f hu hf => ?_⟩
  obtain ⟨x, hx, ho⟩ := h.get hf
  rw [hu] at hx
  obtain rfl := Option.some.inj hx
  exact ho.reads
theorem Reads.one {S : Nat → Prop} {w : World} {us : List Value} {fs : List Fld} (h : Reads S w us fs) : ∀ u ∈ us, u.oneCell' = true := by
  intro u hu
  obtain ⟨i, hi, rfl⟩ := List.mem_iff_getElem.1 hu
  have hif : i < fs.length := by rw [← h.1]; exact hi
  obtain ⟨f, hf⟩ := get_of hif
  exact (h.2 i _ f (List.getElem?_eq_getElem hi) hf).one
theorem Reads.chg {S T : Nat → Prop} {w w' : World} {us : List Value} {fs : List Fld} (h : Reads S w us fs) (g : Chg T w w') (hd : ∀ j, j < w.heap.size → S j → ¬ T j) : Reads S w' us fs :=
  ⟨h.1, fun i u f hu hf => (h.2 i u f hu hf).chg g hd⟩
theorem Reads.new {S : Nat → Prop} {w w' : World} {us : List Value} {fs : List Fld} (h : Reads S w us fs) (g : New w w') : Reads S w' us fs := h.chg g fun _ _ _ hf => hf
theorem Reads.mono {S T : Nat → Prop} {w : World} {us : List Value} {fs : List Fld} (h : Reads S w us fs) (hs : ∀ j, j < w.heap.size → S j → T j) : Reads T w us fs :=
  ⟨h.1, fun i u f hu hf => (h.2 i u f hu hf).mono hs⟩
theorem Reads.append {S : Nat → Prop} {w : World} {us vs : List Value} {fs gs : List Fld} (h : Reads S w us fs) (g : Reads S w vs gs) : Reads S w (us ++ vs) (fs ++ gs) := by
  refine ⟨by simp [h.1, g.1], fun i u f hu hf => ?_⟩
  rw [List.getElem?_append] at hu hf
  rw [h.1] at hu
  split at hu
  · rename_i hi
    rw [if_pos hi] at hf
    exact h.2 i u f hu hf
  · rename_i hi
    rw [if_neg hi] at hf
    exact g.2 _ u f hu hf
theorem Reads.take {S : Nat → Prop} {w : World} {us : List Value} {fs : List Fld} (h : Reads S w us fs) (n : Nat) : Reads S w (us.take n) (fs.take n) := by
  refine ⟨by simp [h.1], fun i u f hu hf => ?_⟩
  rw [List.getElem?_take] at hu hf
  split at hu
  · rename_i hi
    rw [if_pos hi] at hf
    exact h.2 i u f hu hf
  · simp at hu
theorem Reads.drop {S : Nat → Prop} {w : World} {us : List Value} {fs : List Fld} (h : Reads S w us fs) (n : Nat) : Reads S w (us.drop n) (fs.drop n) := by
  refine ⟨by simp [h.1], fun i u f hu hf => ?_⟩
  rw [List.getElem?_drop] at hu hf
  exact h.2 _ u f hu hf
theorem Reads.set {S : Nat → Prop} {w : World} {us : List Value} {fs : List Fld} (h : Reads S w us fs) {v : Value} {g : Fld} (hg : g.reads S w v) (n : Nat) : Reads S w (us.set n v) (fs.set n g) := by
  refine ⟨by simp [h.1], fun i u f hu hf => ?_⟩
  rw [List.getElem?_set] at hu hf
  rw [h.1] at hu
  split at hu
  · rename_i hi
    rw [if_pos hi] at hf
    split at hu
    · rename_i hl
      rw [if_pos hl] at hf
      obtain rfl := Option.some.inj hu
      obtain rfl := Option.some.inj hf
      exact hg
    · simp at hu
  · rename_i hi
    rw [if_neg hi] at hf
    exact h.2 i u f hu hf

/-- A row of the call's own whose cells read as fields. -/
theorem Reads.recs {e sz : Nat} {S T : Nat → Prop} {w : World} {v : Value} {n : Nat} {us : List Value} {fs : List Fld} (r : Reads T w us fs) (h : Row e sz S w v n us) :
    Recs sz (fun j => S j ∨ T j) w v n fs := by
  obtain ⟨a, c, rfl, s1, s2, s3, _⟩ := h.shape
  refine ⟨by rw [← r.1]; exact s3, a, c, rfl, s1, s2, ?_⟩
  by_cases h0 : n = 0
  · exact .inl h0
  · obtain ⟨g, cap, e1, hS, hg, _, _⟩ := h.head (by omega)
    simp only [Value.slice.injEq] at e1
    obtain ⟨rfl, -, rfl⟩ := e1
    refine .inr ⟨g, 0, rfl, .inl hS, hg, fun i f hf => ?_⟩
    have hi : i < us.length := by rw [r.1]; exact (List.getElem?_eq_some_iff.1 hf).1
    obtain ⟨u, hu⟩ := get_of hi
    exact ⟨u, by rw [Nat.zero_add]; exact h.cellAt hu, (r.2 i u f hu hf).mono fun _ _ hj => .inr hj⟩

/-- A part of a row, as a source that is copied. -/
theorem Row.src {e sz : Nat} {S : Nat → Prop} {w : World} {g n cap : Nat} {us : List Value} (h : Row e sz S w (.slice (some ⟨g, 0, none⟩) n cap) n us) {i m : Nat} (him : i + m ≤ n) (c : Nat) : Src w (some ⟨g, i * sz, none⟩) m c sz ((us.drop (i * sz)).take (m * sz)) := by
  obtain ⟨_, _, hv, _, _, s3, _⟩ := h.shape
  refine ⟨?_, by simp, fun ad e j x hx => ?_⟩
  · have : (i + m) * sz ≤ n * sz := Nat.mul_le_mul_right _ him
    rw [Nat.add_mul] at this
    simp [s3]; omega
  · cases e
    rw [addr_add]
    rw [List.getElem?_take] at hx
    split at hx
    · rw [List.getElem?_drop] at hx
      exact h.cellAt hx
    · simp at hx
end Go.Proofs.YtkffejommncinaaDoor
