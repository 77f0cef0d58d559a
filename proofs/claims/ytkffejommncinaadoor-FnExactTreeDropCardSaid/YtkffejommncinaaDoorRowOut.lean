/- Rows: their fronts; fields without some in the middle. -/
import Derived.Test.YtkffejommncinaaDoorRecsRow
namespace Go.Proofs.YtkffejommncinaaDoor
open Go.RowKit

theorem Row.front {e sz : Nat} {S : Nat → Prop} {w : World} {g n cap : Nat} {us : List Value} (h : Row e sz S w (.slice (some ⟨g, 0, none⟩) n cap) n us) {i : Nat} (hi : i ≤ n) :
    Row e sz S w (.slice (some ⟨g, 0, none⟩) i cap) i (us.take (i * sz)) := by
  obtain ⟨⟨h1, h2⟩, hS⟩ := h
  rcases h2 with ⟨hv, _⟩ | ⟨g', cap', cur, hv, hb, hh, hn, hm, hs, ht⟩
  · simp at hv
  · simp only [Value.slice.injEq, Option.some.injEq, Addr.mk.injEq] at hv
    obtain ⟨⟨rfl, -, -⟩, -, rfl⟩ := hv
    have hmul : i * sz ≤ n * sz := Nat.mul_le_mul_right _ hi
    refine ⟨⟨by rw [List.length_take, h1, Nat.min_eq_left hmul], .inr ⟨g, cap, cur, rfl, hb, hh, by omega, hm, hs, ?_⟩⟩, fun k hk => hS k hk⟩
    rw [← ht, List.take_take, Nat.min_eq_left hmul]
theorem Fields.drop {w : World} : ∀ {vs : List Value} {fs : List Fld} {S : Nat → Prop} (m : Nat), Fields S w vs fs → Fields S w (vs.drop m) (fs.drop m)
  | _, _, _, 0, h => h
  | [], [], _, _ + 1, h => h
  | _ :: _, _ :: _, _, m + 1, h => (Fields.drop m h.2).mono fun _ _ hj => hj.1
  | [], _ :: _, _, _ + 1, h => h.elim
  | _ :: _, [], _, _ + 1, h => h.elim
theorem Fields.out {w : World} : ∀ {vs : List Value} {fs : List Fld} {S : Nat → Prop} (n m : Nat), n ≤ m → Fields S w vs fs → Fields S w (vs.take n ++ vs.drop m) (fs.take n ++ fs.drop m)
  | vs, fs, _, 0, m, _, h => by simpa using Fields.drop m h
  | [], [], _, n + 1, m, _, h => by simpa using h
  | v :: vs, f :: fs, S, n + 1, 0, hm, h => by omega
  | v :: vs, f :: fs, S, n + 1, m + 1, hm, h => ⟨h.1, Fields.out n m (by omega) h.2⟩
  | [], _ :: _, _, _ + 1, _, _, h => h.elim
  | _ :: _, [], _, _ + 1, _, _, h => h.elim
end Go.Proofs.YtkffejommncinaaDoor
