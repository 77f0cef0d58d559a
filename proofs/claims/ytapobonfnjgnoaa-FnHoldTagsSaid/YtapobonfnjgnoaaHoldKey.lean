/- Holds as the keys of a map. -/
import Derived.Test.YtapobonfnjgnoaaHoldOk
import Derived.Maps.OwnSet
import Derived.DeepKeys4
import Derived.MapViews
namespace Go.Proofs.Ytapobonfnjgnoaa
open Go.RowKit Go.Maps

theorem laidOutH : laidOutB Try.prog = true := by kernel_rfl
theorem rowH : (25 : TypeId) < (Try.prog).types.size := of_decide_eq_true (by kernel_rfl)
theorem cellsH : (Try.prog).cellsOf 25 = 2 := by kernel_rfl
theorem cellsS : (Try.prog).cellsOf 9 = 1 := by kernel_rfl
theorem wideH : (match (Try.prog).underlying 25 with | some (.array _ _) | some (.struct _) => true | _ => false) = true := by kernel_rfl
theorem KH : Keyed Try.prog 25 := Keyed.of_law (deep_law_laid laidOutH (m := 2) (by omega) rowH (by kernel_rfl) wideH)
theorem keyTypeH : (Try.prog).keyType 25 = true := by kernel_rfl
def hv (o : HoldR) : Value := .agg #[.string ⟨o.snap.toArray⟩, .string ⟨o.tag.toArray⟩]
def KL (o : HoldR) : Lit := .string (keyBytes [.string o.snap, .string o.tag])
def HFit (o : HoldR) : Prop := o.snap.length ≤ maxLen ∧ o.tag.length ≤ maxLen
theorem fieldsH : ∃ f g, (Try.prog).underlying 25 = some (.struct #[f, g]) ∧ f.type = 9 ∧ g.type = 9 ∧ f.offset = 0 ∧ g.offset = 1 ∧ (#[f, g].all (·.name != "_")) = true := ⟨_, _, Try.underlying25, rfl, rfl, rfl, rfl, by kernel_rfl⟩
theorem lits_one (n : Nat) (s : ByteArray) (h : s.size ≤ maxLen) : (Try.prog).keyLits (n + 1) 9 [.string s] = some [.string s.data.toList] := by
  unfold Program.keyLits
  rw [Try.underlying9]
  simp [h]
theorem lits_hold (n : Nat) (o : HoldR) (h : HFit o) : (Try.prog).keyLits (n + 2) 25 [.string ⟨o.snap.toArray⟩, .string ⟨o.tag.toArray⟩] = some [.string o.snap, .string o.tag] := by
  obtain ⟨f, g, hu, e1, e2, e3, e4, e5⟩ := fieldsH
  have l1 := lits_one n ⟨o.snap.toArray⟩ (by show o.snap.toArray.size ≤ _; simpa using h.1)
  have l2 := lits_one n ⟨o.tag.toArray⟩ (by show o.tag.toArray.size ≤ _; simpa using h.2)
  unfold Program.keyLits
  rw [hu]
  simp only [cellsH, List.length_cons, List.length_nil, e5]
  simp [e1, e2, e3, e4, cellsS, l1, l2]
theorem key_hold (o : HoldR) (h : HFit o) : keyOf Try.prog 25 (hv o) = some (KL o) := by
  obtain ⟨f, g, hu, -⟩ := fieldsH
  obtain ⟨n, hn⟩ : ∃ n, (Try.prog).types.size + 1 = n + 2 := ⟨(Try.prog).types.size - 1, by have h : (25 : Nat) < (Try.prog).types.size := rowH; omega⟩
  unfold keyOf
  rw [hu, hn]
  simp [keyTypeH, hv, Value.formed, hu, cellsH, Value.cells, lits_hold n o h, KL]
set_option maxRecDepth 4000 in
theorem lits_one_inv (n : Nat) (a : Value) (l : List Lit) (h : (Try.prog).keyLits (n + 1) 9 [a] = some l) : ∃ s : List UInt8, s.length ≤ maxLen ∧ a = .string ⟨s.toArray⟩ ∧ l = [.string s] := by
  unfold Program.keyLits at h
  rw [Try.underlying9] at h
  cases a <;> simp at h
  rename_i s
  refine ⟨s.data.toList, by simpa using h.1, rfl, h.2.symm⟩
set_option maxRecDepth 4000 in
theorem key_inv {v : Value} {kl : Lit} (h : keyOf Try.prog 25 v = some kl) : ∃ x, HFit x ∧ v = hv x ∧ kl = KL x := by
  have h0 := h
  obtain ⟨f, g, hu, e1, e2, e3, e4, e5⟩ := fieldsH
  obtain ⟨n, hn⟩ : ∃ n, (Try.prog).types.size + 1 = n + 2 := ⟨(Try.prog).types.size - 1, by have h : (25 : Nat) < (Try.prog).types.size := rowH; omega⟩
  unfold keyOf at h
  rw [hu, hn] at h
  simp only [keyTypeH, Bool.true_and] at h
  by_cases hf : v.formed Try.prog 25 = true
  · rw [if_pos hf] at h
    obtain ⟨ls, hls, hk⟩ := Option.map_eq_some_iff.1 h
    have hv2 : ∃ a b, v = .agg #[a, b] := by
      cases v <;> simp [Value.formed, hu, cellsH] at hf
      rename_i cs
      obtain ⟨l⟩ := cs
      match l, hf with
      | [a, b], _ => exact ⟨a, b, rfl⟩
    obtain ⟨a, b, rfl⟩ := hv2
    unfold Program.keyLits at hls
    rw [hu] at hls
    simp only [e5] at hls
    simp [cellsH, Value.cells, e1, e2, e3, e4, cellsS] at hls
    obtain ⟨la, ha, hls⟩ := Option.bind_eq_some_iff.1 hls
    obtain ⟨sa, ba, rfl, rfl⟩ := lits_one_inv n a la ha
    simp only [Function.comp, Option.map_eq_some_iff, Option.bind_eq_some_iff, Option.some.injEq] at hls
    obtain ⟨x, ⟨y, ⟨lb, hb, rfl⟩, rfl⟩, rfl⟩ := hls
    obtain ⟨sb, bb, rfl, rfl⟩ := lits_one_inv n b lb hb
    refine ⟨⟨sa, sb⟩, ⟨ba, bb⟩, rfl, ?_⟩
    rw [← hk]
    rfl
  · rw [if_neg hf] at h
    cases h
theorem KL_inj {x y : HoldR} (hx : HFit x) (hy : HFit y) (h : KL x = KL y) : x = y := by
  have k1 := key_hold x hx
  have k2 := key_hold y hy
  rw [h] at k1
  have e := KH.inj k1 k2
  obtain ⟨a, b⟩ := x
  obtain ⟨c, d⟩ := y
  simp only [hv, Value.agg.injEq] at e
  simp at e
  rw [e.1, e.2]
theorem KL_key {x : HoldR} (hx : HFit x) : WideAt.IsKeyLit (KL x) := KH.key (key_hold x hx)
end Go.Proofs.Ytapobonfnjgnoaa
