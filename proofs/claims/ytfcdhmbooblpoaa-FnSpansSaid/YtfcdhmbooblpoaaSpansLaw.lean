/- Plain law: the program's KeepSpans and the reference's give the same list. -/
import Derived.Test.YtfcdhmbooblpoaaSpansSpec
namespace Go.Proofs.Ytfcdhmbooblpoaa

def ff (s : Int) (l : Int) : List Int → List Int
  | [] => []
  | d :: D => if l / s ≠ d / s then d :: ff s d D else ff s l D
def gg (s : Int) : List Int → List Int
  | [] => []
  | d :: D => d :: ff s d D

theorem spanRun_ff (s : Int) (m : Nat) : ∀ (D kept : List Int) (l : Int), kept.length ≠ 0 → at0 kept (kept.length - 1) = l → kept.length ≤ m → spanRun s m kept D = kept ++ (ff s l D).take (m - kept.length)
  | [], kept, l, _, _, _ => by simp [spanRun, ff]
  | d :: D, kept, l, h0, hl, hm => by
    rw [spanRun]
    by_cases hlt : kept.length < m
    · rw [if_pos hlt]
      unfold spanStep
      rw [hl, ff]
      by_cases hne : l / s ≠ d / s
      · rw [if_pos (.inr hne), if_pos hne, spanRun_ff s m D (kept ++ [d]) d (by simp) (by simp [at0]) (by simp; omega)]
        rw [show m - kept.length = (m - (kept ++ [d]).length) + 1 from by simp; omega, List.take_succ_cons]
        simp
      · rw [if_neg (fun h => h.elim h0 hne), if_neg hne, spanRun_ff s m D kept l h0 hl hm]
    · rw [if_neg hlt, show m - kept.length = 0 from by omega]; simp
theorem spanRun_gg (s : Int) (m : Nat) (D : List Int) : spanRun s m [] D = (gg s D).take m := by
  cases D with
  | nil => simp [spanRun, gg]
  | cons d D =>
    rw [spanRun, gg]
    by_cases hm : 0 < m
    · rw [if_pos (by simpa using hm)]
      have e : spanStep s [] d = [d] := by simp [spanStep]
      rw [e, spanRun_ff s m D [d] d (by simp) (by simp [at0]) (by simp; omega)]
      obtain ⟨k, rfl⟩ : ∃ k, m = k + 1 := ⟨m - 1, by omega⟩
      simp
    · obtain rfl : m = 0 := by omega
      simp
def lst (l : Int) : List Int → Int
  | [] => l
  | d :: D => lst d D
theorem lst_snoc (y : Int) : ∀ (D : List Int) (l : Int), lst l (D ++ [y]) = y
  | [], _ => rfl
  | d :: D, _ => lst_snoc y D d
theorem lst_same (s l d : Int) (h : l / s = d / s) (D : List Int) : lst l D / s = lst d D / s := by
  cases D with
  | nil => exact h
  | cons y ys => rfl
theorem ff_snoc (s x : Int) : ∀ (D : List Int) (l : Int), ff s l (D ++ [x]) = ff s l D ++ if lst l D / s ≠ x / s then [x] else []
  | [], _ => rfl
  | d :: D, l => by
    simp only [List.cons_append, ff]
    by_cases hne : l / s ≠ d / s
    · rw [if_pos hne, if_pos hne, ff_snoc s x D d]; rfl
    · rw [if_neg hne, if_neg hne, ff_snoc s x D l, lst_same s l d (by simpa using hne)]; rfl
theorem lasts_gg (s : Int) : ∀ xs : List Int, (lasts s xs).reverse = gg s xs.reverse
  | [] => rfl
  | [x] => rfl
  | x :: y :: r => by
    have ih := lasts_gg s (y :: r)
    obtain ⟨d, D, hD, hl⟩ : ∃ d D, (y :: r).reverse = d :: D ∧ lst d D = y := by
      rw [List.reverse_cons]
      cases r.reverse with
      | nil => exact ⟨y, [], rfl, rfl⟩
      | cons z zs => exact ⟨z, zs ++ [y], rfl, lst_snoc y zs z⟩
    rw [lasts, List.reverse_cons, hD]
    rw [hD, gg] at ih
    simp only [List.cons_append, gg, ff_snoc, hl]
    by_cases hne : y / s ≠ x / s
    · rw [if_pos hne, if_pos hne, List.reverse_cons, ih]; rfl
    · rw [if_neg hne, if_neg hne, ih, List.append_nil]

theorem spans_eq (xs : List Int) (span many : Int) : specSpans xs span many = spans xs span many := by
  unfold specSpans spans
  rcases h : timesOk xs with _ | _
  · simp
  · rcases spanOk span with _ | _
    · simp
    · rcases manyOk many with _ | _
      · simp
      · simp only [Bool.and_self, if_true]
        rw [desc_of_ok h, spanRun_gg, ← lasts_gg, List.take_reverse, List.reverse_reverse]
theorem spans_len (xs : List Int) (span many : Int) : (spans xs span many).length ≤ 20 := by
  rw [← spans_eq]
  unfold specSpans
  split
  · rename_i h
    simp only [Bool.and_eq_true, timesOk, decide_eq_true_eq] at h
    have := lasts_sub span xs
    simp
    omega
  · simp

end Go.Proofs.Ytfcdhmbooblpoaa
