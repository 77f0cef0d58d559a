/- Plain laws of lasts: what FnSpans, FnSpansAll, FnSpansLast and FnSpansOne ask. -/
import Derived.Test.YtfcdhmbooblpoaaBothLaw
namespace Go.Proofs.Ytfcdhmbooblpoaa

theorem lasts_mem (s : Int) : ∀ (xs : List Int) (y : Int), y ∈ lasts s xs → y ∈ xs
  | [], _, h => by simp [lasts] at h
  | [x], _, h => by simpa [lasts] using h
  | x :: z :: r, y, h => by
    rw [lasts] at h
    split at h
    · rcases List.mem_cons.1 h with h | h
      · exact List.mem_cons.2 (.inl h)
      · exact List.mem_cons_of_mem _ (lasts_mem s (z :: r) y h)
    · exact List.mem_cons_of_mem _ (lasts_mem s (z :: r) y h)
theorem lasts_cover (s : Int) : ∀ (xs : List Int) (t : Int), t ∈ xs → ∃ y ∈ lasts s xs, y / s = t / s
  | [], _, h => by simp at h
  | [x], t, h => ⟨x, by simp [lasts], by simp at h; rw [h]⟩
  | x :: z :: r, t, h => by
    rw [lasts]
    rcases List.mem_cons.1 h with rfl | h
    · split
      · exact ⟨t, by simp, rfl⟩
      · rename_i hne
        obtain ⟨y, h1, h2⟩ := lasts_cover s (z :: r) z (by simp)
        exact ⟨y, h1, by rw [h2]; simpa using hne⟩
    · obtain ⟨y, h1, h2⟩ := lasts_cover s (z :: r) t h
      split
      · exact ⟨y, List.mem_cons_of_mem _ h1, h2⟩
      · exact ⟨y, h1, h2⟩
theorem head_le {x z : Int} {r : List Int} (h : SS (x :: z :: r)) {t : Int} (ht : t ∈ z :: r) : x < z ∧ z ≤ t := by
  unfold SS at h
  rw [List.pairwise_cons] at h
  refine ⟨h.1 z (by simp), ?_⟩
  rcases List.mem_cons.1 ht with rfl | ht
  · omega
  · have := (List.pairwise_cons.1 h.2).1 t ht; omega
theorem SS.tail {x : Int} {r : List Int} (h : SS (x :: r)) : SS r := (List.pairwise_cons.1 h).2
theorem lasts_up (s : Int) (hs : 0 < s) : ∀ xs : List Int, SS xs → (lasts s xs).Pairwise (fun a b => a / s < b / s)
  | [], _ => by simp [lasts]
  | [x], _ => by simp [lasts]
  | x :: z :: r, h => by
    rw [lasts]
    split
    · rename_i hne
      refine List.pairwise_cons.2 ⟨fun b hb => ?_, lasts_up s hs _ h.tail⟩
      obtain ⟨h1, h2⟩ := head_le h (lasts_mem s _ b hb)
      have h3 := Int.ediv_le_ediv hs h2
      have h4 := Int.ediv_le_ediv hs (show x ≤ z by omega)
      omega
    · exact lasts_up s hs _ h.tail
theorem lasts_top (s : Int) (hs : 0 < s) : ∀ xs : List Int, SS xs → ∀ y ∈ lasts s xs, ∀ t ∈ xs, y < t → t / s ≠ y / s
  | [], _, _, h, _, _, _ => by simp [lasts] at h
  | [x], _, y, h, t, ht, hlt => by simp [lasts] at h ht; omega
  | x :: z :: r, h, y, hy, t, ht, hlt => by
    have hyt : y ∈ lasts s (z :: r) → t / s ≠ y / s := fun hy' => by
      rcases List.mem_cons.1 ht with rfl | ht
      · have := head_le h (lasts_mem s _ y hy'); omega
      · exact lasts_top s hs _ h.tail y hy' t ht hlt
    rw [lasts] at hy
    split at hy
    · rename_i hne
      rcases List.mem_cons.1 hy with rfl | hy
      · rcases List.mem_cons.1 ht with rfl | ht
        · omega
        · obtain ⟨h1, h2⟩ := head_le h ht
          have h3 := Int.ediv_le_ediv hs h2
          have h4 := Int.ediv_le_ediv hs (show y ≤ z by omega)
          omega
      · exact hyt hy
    · exact hyt hy
theorem lasts_id (s : Int) : ∀ zs : List Int, zs.Pairwise (fun a b => a / s < b / s) → lasts s zs = zs
  | [], _ => rfl
  | [x], _ => rfl
  | x :: z :: r, h => by
    have h1 := List.pairwise_cons.1 h
    rw [lasts, if_pos (by have := h1.1 z (by simp); omega), lasts_id s _ h1.2]
theorem lasts_last (s : Int) (x : Int) (xs : List Int) (h : xs.getLast? = some x) : (lasts s xs).getLast? = some x := by
  rw [List.getLast?_eq_head?_reverse] at h ⊢
  rw [lasts_gg]
  cases hr : xs.reverse with
  | nil => rw [hr] at h; simp at h
  | cons d D => rw [hr] at h; simpa [gg] using h

theorem tv_of : ∀ (xs : List Int) (q : Int), SS xs → (∀ x ∈ xs, q < x ∧ x ≤ 9999) → tvFrom q xs = true
  | [], _, _, _ => rfl
  | x :: xs, q, h, hb => by
    have hx := hb x (by simp)
    rw [tvFrom, if_neg (by omega)]
    exact tv_of xs x h.tail fun y hy => ⟨(List.pairwise_cons.1 h).1 y hy, (hb y (List.mem_cons_of_mem _ hy)).2⟩
theorem ok_of {xs : List Int} (h : SS xs) (hb : ∀ x ∈ xs, 0 ≤ x ∧ x ≤ 9999) (hl : xs.length ≤ 20) : timesOk xs = true := by
  simp only [timesOk, Bool.and_eq_true, decide_eq_true_eq]
  exact ⟨hl, tv_of _ _ h fun x hx => by have := hb x hx; omega⟩
theorem up_ss {s : Int} (hs : 0 < s) {zs : List Int} (h : zs.Pairwise (fun a b => a / s < b / s)) : SS zs :=
  h.imp fun {a b} hab => by
    by_cases hle : b ≤ a
    · have := Int.ediv_le_ediv hs hle; omega
    · omega

theorem spans_drop {xs : List Int} {s : Int} {m : Nat} (h : timesOk xs = true) (hs : spanOk s = true) (hm : manyOk (m : Int) = true) : spans xs s m = (lasts s xs).drop ((lasts s xs).length - m) := by
  rw [← spans_eq, specSpans, h, hs, hm]; rfl
theorem spans_up {xs : List Int} {s : Int} {m : Nat} (h : timesOk xs = true) (hs : spanOk s = true) (hm : manyOk (m : Int) = true) : (spans xs s m).Pairwise (fun a b => a / s < b / s) := by
  rw [spans_drop h hs hm]
  exact (lasts_up s (by simp [spanOk] at hs; omega) xs (ok_sorted h)).sublist (List.drop_sublist _ _)
theorem spans_many {xs : List Int} {s : Int} {m : Nat} (h : timesOk xs = true) (hs : spanOk s = true) (hm : manyOk (m : Int) = true) : (spans xs s m).length ≤ m := by
  rw [spans_drop h hs hm]; simp; omega
theorem spans_mem {xs : List Int} {s : Int} {m : Nat} (h : timesOk xs = true) (hs : spanOk s = true) (hm : manyOk (m : Int) = true) : ∀ y ∈ spans xs s m, y ∈ xs ∧ ∀ t ∈ xs, y < t → t / s ≠ y / s := by
  rw [spans_drop h hs hm]
  intro y hy
  have hy := List.mem_of_mem_drop hy
  exact ⟨lasts_mem s xs y hy, lasts_top s (by simp [spanOk] at hs; omega) xs (ok_sorted h) y hy⟩
theorem spans_ok {xs : List Int} {s : Int} {m : Nat} (h : timesOk xs = true) (hs : spanOk s = true) (hm : manyOk (m : Int) = true) : timesOk (spans xs s m) = true :=
  ok_of (up_ss (by simp [spanOk] at hs; omega) (spans_up h hs hm)) (fun x hx => ok_range h x (spans_mem h hs hm x hx).1) (spans_len _ _ _)
theorem spans_again {xs : List Int} {s : Int} {m : Nat} (h : timesOk xs = true) (hs : spanOk s = true) (hm : manyOk (m : Int) = true) : spans (spans xs s m) s m = spans xs s m := by
  rw [spans_drop (spans_ok h hs hm) hs hm, lasts_id s _ (spans_up h hs hm), show (spans xs s m).length - m = 0 from by have := spans_many h hs hm; omega]; rfl
theorem spans_one {xs : List Int} {m : Nat} (h : timesOk xs = true) (hm : manyOk (m : Int) = true) : spans xs 1 m = newest xs m := by
  rw [spans_drop h (by rfl) hm, lasts_id 1 xs ((ok_sorted h).imp fun {a b} hab => by simpa using hab), ← newest_eq, specNewest, h, hm]; rfl
theorem spans_full {xs : List Int} {s : Int} (h : timesOk xs = true) (hs : spanOk s = true) : ∀ t ∈ xs, ∃ y ∈ spans xs s 20, y / s = t / s := by
  have e := spans_drop (m := 20) h hs (by rfl)
  rw [show (lasts s xs).length - 20 = 0 from by have := lasts_sub s xs; simp [timesOk] at h; omega] at e
  rw [show (20 : Int) = ((20 : Nat) : Int) from rfl, e]
  exact lasts_cover s xs
theorem spans_most {xs : List Int} {s : Int} {m : Nat} (h : timesOk xs = true) (hs : spanOk s = true) (hm : manyOk (m : Int) = true) : (spans xs s m).length ≤ (spans xs s 20).length := by
  have e := spans_drop (m := 20) h hs (by rfl)
  rw [show (20 : Int) = ((20 : Nat) : Int) from rfl, e, spans_drop h hs hm]
  have := lasts_sub s xs
  simp [timesOk] at h
  simp
  omega
theorem spans_last {xs : List Int} {s : Int} {m : Nat} (h : timesOk xs = true) (hs : spanOk s = true) (hm : manyOk (m : Int) = true) (h0 : m ≠ 0) (hx : xs.length ≠ 0) :
    1 ≤ (spans xs s m).length ∧ ∃ x, (spans xs s m)[(spans xs s m).length - 1]? = some x ∧ xs[xs.length - 1]? = some x := by
  obtain ⟨x, hxx⟩ : ∃ x, xs.getLast? = some x := by
    cases hg : xs.getLast? with
    | none => rw [List.getLast?_eq_none_iff] at hg; simp [hg] at hx
    | some x => exact ⟨x, rfl⟩
  have hl := lasts_last s x xs hxx
  rw [List.getLast?_eq_getElem?] at hl hxx
  have hlt := (List.getElem?_eq_some_iff.1 hl).1
  rw [spans_drop h hs hm]
  refine ⟨by simp; omega, x, ?_, hxx⟩
  rw [List.getElem?_drop, ← hl]
  congr 1
  simp
  omega

end Go.Proofs.Ytfcdhmbooblpoaa
