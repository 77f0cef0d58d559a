/- Plain law: the program's KeepBoth and the reference's give the same list. -/
import Derived.Test.YtfcdhmbooblpoaaBothSpec
import Derived.Test.YtfcdhmbooblpoaaSpansLaw
namespace Go.Proofs.Ytfcdhmbooblpoaa

def SS (xs : List Int) : Prop := xs.Pairwise (· < ·)

theorem putRun_true (n : Int) : ∀ xs : List Int, putRun n true xs = xs.filter (fun x => decide (x ≠ n))
  | [] => by simp [putRun]
  | x :: r => by
    rw [putRun]
    simp only [Bool.true_or, putRun_true n r]
    by_cases h : x = n <;> simp [h]
theorem mem_putRun (n z : Int) : ∀ (xs : List Int), z ∈ putRun n false xs ↔ (z ∈ xs ∨ z = n)
  | [] => by simp [putRun]
  | x :: r => by
    rw [putRun]
    by_cases hle : n ≤ x
    · simp only [hle, decide_true, Bool.or_true, putRun_true, and_self, if_true, List.mem_append, List.mem_filter, List.mem_cons, List.not_mem_nil, or_false, decide_eq_true_eq]
      constructor
      · rintro ((h | h) | ⟨h, _⟩)
        · exact .inr h
        · split at h
          · simp at h; exact .inl (.inl h)
          · simp at h
        · exact .inl (.inr h)
      · rintro ((h | h) | h)
        · by_cases hz : z = n
          · exact .inl (.inl hz)
          · subst h
            exact .inl (.inr (by rw [if_pos hz]; simp))
        · by_cases hz : z = n
          · exact .inl (.inl hz)
          · exact .inr ⟨h, hz⟩
        · exact .inl (.inl h)
    · have hne : x ≠ n := by omega
      simp [hle, hne, mem_putRun n z r]
      constructor
      · rintro (h | h | h)
        · exact .inl (.inl h)
        · exact .inl (.inr h)
        · exact .inr h
      · rintro ((h | h) | h)
        · exact .inl h
        · exact .inr (.inl h)
        · exact .inr (.inr h)
theorem putRun_sorted (n : Int) : ∀ (xs : List Int), SS xs → SS (putRun n false xs)
  | [], _ => by simp [putRun, SS]
  | x :: r, h => by
    unfold SS at h
    rw [List.pairwise_cons] at h
    obtain ⟨h1, h2⟩ := h
    rw [putRun]
    by_cases hle : n ≤ x
    · simp only [hle, decide_true, Bool.or_true, putRun_true, and_self, if_true]
      have hf : SS (r.filter fun x => decide (x ≠ n)) := h2.sublist List.filter_sublist
      have hr : ∀ z ∈ r.filter (fun x => decide (x ≠ n)), x < z := fun z hz => h1 z (List.mem_filter.1 hz).1
      unfold SS at hf ⊢
      by_cases hx : x = n
      · subst hx
        rw [if_neg (by simp)]
        simp only [List.append_nil, List.cons_append, List.nil_append]
        exact List.pairwise_cons.2 ⟨hr, hf⟩
      · rw [if_pos hx]
        simp only [List.cons_append, List.nil_append]
        refine List.pairwise_cons.2 ⟨fun z hz => ?_, List.pairwise_cons.2 ⟨hr, hf⟩⟩
        simp only [List.mem_cons] at hz
        rcases hz with rfl | hz
        · omega
        · have := hr z hz; omega
    · have hne : x ≠ n := by omega
      have ih := putRun_sorted n r h2
      unfold SS at ih ⊢
      simp only [hle, and_false, if_false, decide_false, Bool.or_false, List.nil_append, if_pos hne, List.cons_append]
      refine List.pairwise_cons.2 ⟨fun z hz => ?_, ih⟩
      rcases (mem_putRun n z r).1 hz with hz | rfl
      · exact h1 z hz
      · omega
theorem fold_put : ∀ (ys xs : List Int), SS xs → SS (ys.foldl put xs) ∧ ∀ z, z ∈ ys.foldl put xs ↔ z ∈ xs ∨ z ∈ ys
  | [], xs, h => ⟨h, by simp⟩
  | y :: ys, xs, h => by
    obtain ⟨h1, h2⟩ := fold_put ys (put xs y) (putRun_sorted y xs h)
    refine ⟨h1, fun z => ?_⟩
    rw [List.foldl_cons, h2 z]
    unfold put
    rw [mem_putRun]
    simp only [List.mem_cons]
    constructor
    · rintro ((h | h) | h)
      · exact .inl h
      · exact .inr (.inl h)
      · exact .inr (.inr h)
    · rintro (h | h | h)
      · exact .inl (.inl h)
      · exact .inl (.inr h)
      · exact .inr h

theorem SS.ext {xs ys : List Int} (hx : SS xs) (hy : SS ys) (h : ∀ z, z ∈ xs ↔ z ∈ ys) : xs = ys := by
  have nx : xs.Nodup := hx.imp (by intro a b h; omega)
  have ny : ys.Nodup := hy.imp (by intro a b h; omega)
  exact ((List.perm_ext_iff_of_nodup nx ny).2 h).eq_of_pairwise (le := fun x y : Int => x < y) (by intros; omega) hx hy

theorem bothStep_span (kept : List Int) (d : Int) : bothStep kept d = spanStep 1 kept d := by simp [bothStep, spanStep]
theorem bothRun_span (m : Nat) : ∀ (D kept : List Int), kept.length + D.length ≤ m → bothRun kept D = spanRun 1 m kept D
  | [], _, _ => rfl
  | d :: D, kept, h => by
    simp only [List.length_cons] at h
    rw [bothRun, spanRun, if_pos (by omega), bothStep_span, bothRun_span m D]
    unfold spanStep
    split <;> first | omega | (simp; omega)
theorem ff_len (s : Int) : ∀ (D : List Int) (l : Int), (ff s l D).length ≤ D.length
  | [], _ => by simp [ff]
  | d :: D, l => by
    rw [ff]
    split
    · have := ff_len s D d; simp; omega
    · have := ff_len s D l; simp; omega
theorem gg_len (s : Int) (D : List Int) : (gg s D).length ≤ D.length := by
  cases D with
  | nil => simp [gg]
  | cons d D => rw [gg]; have := ff_len s D d; simp; omega
theorem bothRun_gg (D : List Int) : bothRun [] D = gg 1 D := by
  rw [bothRun_span D.length D [] (by simp), spanRun_gg, List.take_of_length_le (gg_len 1 D)]
theorem ff_desc : ∀ (D : List Int) (l : Int), Desc (l :: D) → (ff 1 l D).Pairwise (fun x y => y < x) ∧ (∀ z ∈ ff 1 l D, z < l) ∧ ∀ z, (z = l ∨ z ∈ ff 1 l D) ↔ (z = l ∨ z ∈ D)
  | [], l, _ => by simp [ff]
  | d :: D, l, h => by
    unfold Desc at h
    rw [List.pairwise_cons] at h
    obtain ⟨h1, h2⟩ := h
    rw [ff]
    have hd := h1 d (by simp)
    by_cases hne : l / 1 ≠ d / 1
    · rw [if_pos hne]
      simp at hne
      obtain ⟨g1, g2, g3⟩ := ff_desc D d h2
      refine ⟨List.pairwise_cons.2 ⟨fun z hz => g2 z hz, g1⟩, fun z hz => ?_, fun z => ?_⟩
      · simp only [List.mem_cons] at hz
        rcases hz with rfl | hz
        · omega
        · have := g2 z hz; omega
      · simp only [List.mem_cons]
        have := g3 z
        constructor
        · rintro (h | h | h)
          · exact .inl h
          · exact .inr (.inl h)
          · exact .inr (this.1 (.inr h))
        · rintro (h | h)
          · exact .inl h
          · exact .inr (this.2 h)
    · rw [if_neg hne]
      simp at hne
      subst hne
      obtain ⟨g1, g2, g3⟩ := ff_desc D l h2
      refine ⟨g1, g2, fun z => ?_⟩
      rw [g3 z]
      simp only [List.mem_cons]
      constructor
      · rintro (h | h)
        · exact .inl h
        · exact .inr (.inr h)
      · rintro (h | h | h)
        · exact .inl h
        · exact .inl h
        · exact .inr h
theorem gg_desc (D : List Int) (h : Desc D) : SS (gg 1 D).reverse ∧ ∀ z, z ∈ (gg 1 D).reverse ↔ z ∈ D := by
  cases D with
  | nil => simp [gg, SS]
  | cons d D =>
    obtain ⟨g1, g2, g3⟩ := ff_desc D d h
    rw [gg]
    refine ⟨?_, fun z => ?_⟩
    · unfold SS
      rw [List.pairwise_reverse]
      exact List.pairwise_cons.2 ⟨fun z hz => g2 z hz, g1⟩
    · rw [List.mem_reverse, List.mem_cons, List.mem_cons]
      exact g3 z

theorem both_all {xs ys : List Int} (hx : timesOk xs = true) : bothAll xs ys = ys.foldl put xs := by
  obtain ⟨h1, h2⟩ := gg_desc _ (desc_desc (xs ++ ys))
  obtain ⟨g1, g2⟩ := fold_put ys xs (ok_sorted hx)
  unfold bothAll
  rw [bothRun_gg]
  refine SS.ext h1 g1 fun z => ?_
  rw [h2 z, g2 z, (desc_perm _).mem_iff, List.mem_append]

theorem tv_of_sorted : ∀ (xs : List Int) (q : Int), SS xs → (∀ x ∈ xs, q < x ∧ x ≤ 9999) → tvFrom q xs = true
  | [], _, _, _ => rfl
  | x :: r, q, h, hr => by
    unfold SS at h
    rw [List.pairwise_cons] at h
    have := hr x (by simp)
    rw [tvFrom, if_neg (by omega)]
    exact tv_of_sorted r x h.2 fun y hy => ⟨h.1 y hy, (hr y (by simp [hy])).2⟩

theorem both_ok {xs ys : List Int} (hx : timesOk xs = true) (hy : timesOk ys = true) : timesOk (ys.foldl put xs) = decide ((ys.foldl put xs).length ≤ 20) := by
  obtain ⟨g1, g2⟩ := fold_put ys xs (ok_sorted hx)
  have := tv_of_sorted _ (-1) g1 (fun x hz => by
    rcases (g2 x).1 hz with hz | hz
    · have := ok_range hx x hz; omega
    · have := ok_range hy x hz; omega)
  rw [timesOk, this, Bool.and_true]

theorem both_eq (xs ys : List Int) : specBoth xs ys = both xs ys := by
  unfold specBoth both
  rcases hx : timesOk xs with _ | _
  · simp
  · rcases hy : timesOk ys with _ | _
    · simp
    · simp only [Bool.and_self, if_true]
      rw [both_all hx, both_ok hx hy]
      by_cases h : (ys.foldl put xs).length ≤ 20
      · rw [if_neg (by omega), if_pos (by simpa using h)]
      · rw [if_pos (by omega), if_neg (by simpa using h)]
theorem both_len (xs ys : List Int) : (both xs ys).length ≤ 20 := by
  rw [← both_eq]
  unfold specBoth
  split
  · split
    · simp
    · omega
  · simp

end Go.Proofs.Ytfcdhmbooblpoaa
