/- Stores as lists: what put, get, keep and drop do to each other; nothing here speaks of one Go function. -/
import Derived.Test.YtipligidnoajfaaDoorStoreKeep
namespace Go.Proofs.YtipligidnoajfaaDoor
open Go.RowKit

theorem heldsFrom_of : ∀ (os : List HeldR) (l : Int) (seen : List (List Int)), (∀ o ∈ os, l < o.id ∧ o.id ≤ 99 ∧ 1 ≤ o.uses ∧ o.uses ≤ 999 ∧ blockOk o.bytes = true ∧ o.bytes ∉ seen) → os.Pairwise (fun a b => a.id < b.id ∧ a.bytes ≠ b.bytes) → heldsFrom l seen os = true
  | [], _, _, _, _ => rfl
  | h :: r, l, seen, hh, hp => by
    obtain ⟨hp1, hp2⟩ := List.pairwise_cons.1 hp
    obtain ⟨a1, a2, a3, a4, a5, a6⟩ := hh h List.mem_cons_self
    rw [heldsFrom, Bool.and_eq_true]
    refine ⟨?_, heldsFrom_of r h.id _ (fun o ho => ?_) hp2⟩
    · have : seen.contains h.bytes = false := by
        rw [Bool.eq_false_iff]; intro e; exact a6 (List.contains_iff_mem.1 e)
      simp only [heldOk, Bool.and_eq_true, decide_eq_true_eq, Bool.not_eq_true', this, and_true]
      exact ⟨⟨⟨⟨a1, a2⟩, a3⟩, a4⟩, a5⟩
    · obtain ⟨b1, b2, b3, b4, b5, b6⟩ := hh o (List.mem_cons_of_mem _ ho)
      obtain ⟨c1, c2⟩ := hp1 o ho
      refine ⟨c1, b2, b3, b4, b5, fun hm => ?_⟩
      rcases List.mem_append.1 hm with hm | hm
      · exact b6 hm
      · simp at hm; exact c2 hm.symm
theorem storeOk_of {os : List HeldR} (h1 : os.length ≤ 16) (h2 : ∀ o ∈ os, 0 < o.id ∧ o.id ≤ 99 ∧ 1 ≤ o.uses ∧ o.uses ≤ 999 ∧ blockOk o.bytes = true) (h3 : os.Pairwise (fun a b => a.id < b.id ∧ a.bytes ≠ b.bytes)) : storeOk os = true := by
  simp only [storeOk, Bool.and_eq_true, decide_eq_true_eq]
  exact ⟨h1, heldsFrom_of os 0 [] (fun o ho => by obtain ⟨a, b, c, d, e⟩ := h2 o ho; exact ⟨a, b, c, d, e, by simp⟩) h3⟩

theorem pair_at {os : List HeldR} (h : os.Pairwise (fun a b => a.id < b.id ∧ a.bytes ≠ b.bytes)) {i j : Nat} {a b : HeldR} (ha : os[i]? = some a) (hb : os[j]? = some b) (hij : i < j) : a.id < b.id ∧ a.bytes ≠ b.bytes := by
  obtain ⟨hi, rfl⟩ := List.getElem?_eq_some_iff.1 ha
  obtain ⟨hj, rfl⟩ := List.getElem?_eq_some_iff.1 hb
  exact List.pairwise_iff_getElem.1 h i j hi hj hij
theorem id_at {os : List HeldR} (h : os.Pairwise (fun a b => a.id < b.id ∧ a.bytes ≠ b.bytes)) {i j : Nat} {a b : HeldR} (ha : os[i]? = some a) (hb : os[j]? = some b) (he : a.id = b.id) : i = j := by
  rcases Nat.lt_trichotomy i j with hlt | e | hlt
  · have := (pair_at h ha hb hlt).1; omega
  · exact e
  · have := (pair_at h hb ha hlt).1; omega
theorem bytes_at {os : List HeldR} (h : os.Pairwise (fun a b => a.id < b.id ∧ a.bytes ≠ b.bytes)) {i j : Nat} {a b : HeldR} (ha : os[i]? = some a) (hb : os[j]? = some b) (he : a.bytes = b.bytes) : i = j := by
  rcases Nat.lt_trichotomy i j with hlt | e | hlt
  · exact absurd he (pair_at h ha hb hlt).2
  · exact e
  · exact absurd he.symm (pair_at h hb ha hlt).2
theorem atH_is {os : List HeldR} (h : os.Pairwise (fun a b => a.id < b.id ∧ a.bytes ≠ b.bytes)) {i : Nat} {a : HeldR} (ha : os[i]? = some a) {k : Int} (hk : a.id = k) : atH k os = some i :=
  atH_first ha hk fun q hq x hx e => by have := id_at h hx ha (by omega); omega

/-- the place of a block with these bytes -/
def likeH (xs : List Int) (os : List HeldR) : Option Nat := os.findIdx? (fun o => decide (o.bytes = xs))
theorem likeH_none {xs : List Int} {os : List HeldR} (h : ∀ o ∈ os, o.bytes ≠ xs) : likeH xs os = none := by
  rw [likeH, List.findIdx?_eq_none_iff]
  intro o ho
  simpa using h o ho
theorem likeH_first {xs : List Int} {os : List HeldR} {j : Nat} {o : HeldR} (ho : os[j]? = some o) (hk : o.bytes = xs) (hf : ∀ q, q < j → ∀ x, os[q]? = some x → x.bytes ≠ xs) : likeH xs os = some j := by
  obtain ⟨hj, rfl⟩ := List.getElem?_eq_some_iff.1 ho
  rw [likeH, List.findIdx?_eq_some_iff_getElem]
  refine ⟨hj, by simpa using hk, fun q hq => ?_⟩
  simpa using hf q hq _ (List.getElem?_eq_getElem (by omega))
theorem likeH_cases (xs : List Int) (os : List HeldR) : (likeH xs os = none ∧ ∀ o ∈ os, o.bytes ≠ xs) ∨ ∃ i o, likeH xs os = some i ∧ os[i]? = some o ∧ o.bytes = xs := by
  rcases h : likeH xs os with _ | i
  · refine .inl ⟨rfl, fun o ho => ?_⟩
    have := List.findIdx?_eq_none_iff.1 h o ho
    simpa using this
  · obtain ⟨hi, hp, _⟩ := List.findIdx?_eq_some_iff_getElem.1 h
    exact .inr ⟨i, _, rfl, List.getElem?_eq_getElem hi, by simpa using hp⟩
theorem likeH_is {os : List HeldR} (h : os.Pairwise (fun a b => a.id < b.id ∧ a.bytes ≠ b.bytes)) {i : Nat} {a : HeldR} (ha : os[i]? = some a) {xs : List Int} (hk : a.bytes = xs) : likeH xs os = some i :=
  likeH_first ha hk fun q hq x hx e => by have := bytes_at h hx ha (e.trans hk.symm); omega

/-- the least id behind l that a rising list leaves free -/
def freeFrom : Int → List HeldR → Int
  | l, [] => l + 1
  | l, a :: r => if a.id = l + 1 then freeFrom (l + 1) r else l + 1
def freeH (os : List HeldR) : Int := freeFrom 0 os
theorem freeFrom_is : ∀ (os : List HeldR) (l : Int), (∀ o ∈ os, l < o.id) → os.Pairwise (fun a b => a.id < b.id) →
    l + 1 ≤ freeFrom l os ∧ freeFrom l os ≤ l + 1 + os.length ∧ (∀ o ∈ os, o.id ≠ freeFrom l os) ∧ ∀ k, l < k → k < freeFrom l os → ∃ o ∈ os, o.id = k
  | [], l, _, _ => by
    rw [freeFrom]
    exact ⟨by omega, by simp, by simp, fun k h1 h2 => by omega⟩
  | a :: r, l, h, hp => by
    have ha := h a List.mem_cons_self
    obtain ⟨hp1, hp2⟩ := List.pairwise_cons.1 hp
    rw [freeFrom]
    split
    · rename_i e
      obtain ⟨i1, i2, i3, i4⟩ := freeFrom_is r (l + 1) (fun o ho => by have := hp1 o ho; omega) hp2
      refine ⟨by omega, by simp only [List.length_cons]; omega, fun o ho => ?_, fun k h1 h2 => ?_⟩
      · rcases List.mem_cons.1 ho with rfl | ho
        · omega
        · exact i3 o ho
      · by_cases hk : k = l + 1
        · exact ⟨a, List.mem_cons_self, by omega⟩
        · obtain ⟨o, ho, e2⟩ := i4 k (by omega) h2
          exact ⟨o, List.mem_cons_of_mem _ ho, e2⟩
    · rename_i e
      refine ⟨by omega, by simp only [List.length_cons]; omega, fun o ho => ?_, fun k h1 h2 => by omega⟩
      rcases List.mem_cons.1 ho with rfl | ho
      · omega
      · have := hp1 o ho; omega
theorem freeH_is {os : List HeldR} (h : storeOk os = true) : 1 ≤ freeH os ∧ freeH os ≤ 1 + os.length ∧ (∀ o ∈ os, o.id ≠ freeH os) ∧ ∀ k, 1 ≤ k → k < freeH os → ∃ o ∈ os, o.id = k := by
  obtain ⟨h1, h2, h3⟩ := storeOk_all h
  obtain ⟨i1, i2, i3, i4⟩ := freeFrom_is os 0 (fun o ho => (h2 o ho).1) (h3.imp fun h => h.1)
  exact ⟨by unfold freeH; omega, by unfold freeH; omega, i3, fun k k1 k2 => i4 k (by omega) k2⟩

/-- one block more, at its place -/
def insH (x : HeldR) : List HeldR → List HeldR
  | [] => [x]
  | a :: r => if x.id < a.id then x :: a :: r else a :: insH x r
theorem setP_ins {p : HP} : ∀ {ps : List HP}, (∀ q ∈ ps, q.1.id ≠ p.1.id) → (setP p ps).map Prod.fst = insH p.1 (ps.map Prod.fst)
  | [], _ => rfl
  | a :: r, hne => by
    have h := hne a List.mem_cons_self
    rw [setP]
    simp only [List.map_cons, insH]
    by_cases h1 : a.1.id < p.1.id
    · rw [if_pos h1, if_neg (by omega), List.map_cons, setP_ins fun q hq => hne q (List.mem_cons_of_mem _ hq)]
    · rw [if_neg h1, if_neg h, if_pos (by omega)]; rfl
theorem insH_split (x : HeldR) : ∀ os : List HeldR, ∃ j, j ≤ os.length ∧ insH x os = os.take j ++ x :: os.drop j ∧ (∀ a ∈ os.take j, ¬ x.id < a.id) ∧ ∀ a r, os.drop j = a :: r → x.id < a.id
  | [] => ⟨0, Nat.le_refl _, rfl, by simp, fun a r h => by simp at h⟩
  | a :: r => by
    rw [insH]
    split
    · rename_i h
      refine ⟨0, Nat.zero_le _, rfl, by simp, fun b s e => ?_⟩
      simp at e; rw [← e.1]; exact h
    · rename_i h
      obtain ⟨j, h1, h2, h3, h4⟩ := insH_split x r
      refine ⟨j + 1, by simp; omega, by rw [h2]; rfl, fun b hb => ?_, fun b s e => h4 b s (by simpa using e)⟩
      rw [List.take_succ_cons] at hb
      rcases List.mem_cons.1 hb with rfl | hb
      · exact h
      · exact h3 b hb
theorem insH_mem {x q : HeldR} {os : List HeldR} (h : q ∈ insH x os) : q = x ∨ q ∈ os := by
  obtain ⟨j, _, e, _⟩ := insH_split x os
  rw [e] at h
  rcases List.mem_append.1 h with h | h
  · exact .inr (List.mem_of_mem_take h)
  · rcases List.mem_cons.1 h with h | h
    · exact .inl h
    · exact .inr (List.mem_of_mem_drop h)
theorem insH_length (x : HeldR) (os : List HeldR) : (insH x os).length = os.length + 1 := by
  obtain ⟨j, hj, e, _⟩ := insH_split x os
  rw [e]; simp; omega
theorem insH_pair (x : HeldR) : ∀ {os : List HeldR}, os.Pairwise (fun a b => a.id < b.id ∧ a.bytes ≠ b.bytes) → (∀ o ∈ os, o.id ≠ x.id) → (∀ o ∈ os, o.bytes ≠ x.bytes) → (insH x os).Pairwise (fun a b => a.id < b.id ∧ a.bytes ≠ b.bytes)
  | [], _, _, _ => by simp [insH]
  | a :: r, hp, hi, hb => by
    obtain ⟨hp1, hp2⟩ := List.pairwise_cons.1 hp
    rw [insH]
    split
    · rename_i h
      refine List.pairwise_cons.2 ⟨fun b hb' => ⟨?_, fun e => hb b hb' e.symm⟩, hp⟩
      rcases List.mem_cons.1 hb' with rfl | hb'
      · exact h
      · have := (hp1 b hb').1; omega
    · rename_i h
      refine List.pairwise_cons.2 ⟨fun b hb' => ?_, insH_pair x hp2 (fun o ho => hi o (List.mem_cons_of_mem _ ho)) (fun o ho => hb o (List.mem_cons_of_mem _ ho))⟩
      rcases insH_mem hb' with rfl | hb'
      · have := hi a List.mem_cons_self
        exact ⟨by omega, hb a List.mem_cons_self⟩
      · exact hp1 b hb'

/-- a block is used once more, or is stored -/
def putH (xs : List Int) (os : List HeldR) : Option (List HeldR × Int) :=
  if storeOk os = true ∧ blockOk xs = true then
    match likeH xs os with
    | some i => match os[i]? with
      | some o => if o.uses = 999 then none else some (os.set i { o with uses := o.uses + 1 }, o.id)
      | none => none
    | none => if os.length < 16 then some (insH ⟨freeH os, xs, 1⟩ os, freeH os) else none
  else none
def getH (k : Int) (os : List HeldR) : Option (List Int) :=
  if storeOk os = true then
    match atH k os with
    | none => none
    | some i => (os[i]?).map HeldR.bytes
  else none
def usesH (k : Int) (os : List HeldR) : Int :=
  match atH k os with
  | none => 0
  | some i => match os[i]? with
    | none => 0
    | some o => o.uses

theorem set_pair {os : List HeldR} {i : Nat} {o : HeldR} (ho : os[i]? = some o) (y : Int) (h : os.Pairwise (fun a b => a.id < b.id ∧ a.bytes ≠ b.bytes)) : (os.set i { o with uses := y }).Pairwise (fun a b => a.id < b.id ∧ a.bytes ≠ b.bytes) := by
  have e : ∀ (l : List HeldR), l.Pairwise (fun a b => a.id < b.id ∧ a.bytes ≠ b.bytes) ↔ (l.map fun o => (o.id, o.bytes)).Pairwise (fun p q => p.1 < q.1 ∧ p.2 ≠ q.2) := fun l => (List.pairwise_map (f := fun o : HeldR => (o.id, o.bytes)) (R := fun p q => p.1 < q.1 ∧ p.2 ≠ q.2)).symm
  rw [e] at h ⊢
  rw [List.map_set]
  obtain ⟨hi, rfl⟩ := List.getElem?_eq_some_iff.1 ho
  have e2 : (os.map fun o => (o.id, o.bytes)).set i (os[i].id, os[i].bytes) = os.map fun o => (o.id, o.bytes) := by
    have : (os[i].id, os[i].bytes) = (os.map fun o => (o.id, o.bytes))[i]'(by simpa using hi) := by simp
    rw [this]; exact List.set_getElem_self _
  rw [e2]; exact h
theorem set_ok {os : List HeldR} (hs : storeOk os = true) {i : Nat} {o : HeldR} (ho : os[i]? = some o) {y : Int} (h1 : 1 ≤ y) (h2 : y ≤ 999) : storeOk (os.set i { o with uses := y }) = true := by
  obtain ⟨a, b, c⟩ := storeOk_all hs
  refine storeOk_of (by simpa using a) (fun q hq => ?_) (set_pair ho y c)
  rcases List.mem_or_eq_of_mem_set hq with hq | rfl
  · exact b q hq
  · obtain ⟨b1, b2, b3, b4, b5⟩ := b o (List.mem_of_getElem? ho)
    exact ⟨b1, b2, h1, h2, b5⟩
theorem set_not {os : List HeldR} {i : Nat} {o : HeldR} (ho : os[i]? = some o) {y : Int} (h2 : 999 < y) : storeOk (os.set i { o with uses := y }) = false := by
  rw [Bool.eq_false_iff]; intro h
  obtain ⟨_, b, _⟩ := storeOk_all h
  have hi := (List.getElem?_eq_some_iff.1 ho).1
  have := b { o with uses := y } (List.mem_of_getElem? (i := i) (by rw [List.getElem?_set_self hi]))
  have h4 := this.2.2.2.1
  simp only at h4; omega
theorem ins_ok {os : List HeldR} (hs : storeOk os = true) {xs : List Int} (hx : blockOk xs = true) (hn : ∀ o ∈ os, o.bytes ≠ xs) (hl : os.length < 16) : storeOk (insH ⟨freeH os, xs, 1⟩ os) = true := by
  obtain ⟨a, b, c⟩ := storeOk_all hs
  obtain ⟨f1, f2, f3, f4⟩ := freeH_is hs
  refine storeOk_of (by rw [insH_length]; omega) (fun q hq => ?_) (insH_pair _ c (fun o ho => f3 o ho) (fun o ho => hn o ho))
  rcases insH_mem hq with rfl | hq
  · exact ⟨by show 0 < freeH os; omega, by show freeH os ≤ 99; omega, by show (1 : Int) ≤ 1; omega, by show (1 : Int) ≤ 999; omega, hx⟩
  · exact b q hq
theorem ins_not {os : List HeldR} (x : HeldR) (hl : ¬ os.length < 16) : storeOk (insH x os) = false := by
  rw [Bool.eq_false_iff]; intro h
  obtain ⟨a, _, _⟩ := storeOk_all h
  rw [insH_length] at a; omega

/-- What put says: the two ways in which it goes on. -/
theorem putH_cases {xs : List Int} {os os' : List HeldR} {k : Int} (h : putH xs os = some (os', k)) : storeOk os = true ∧ blockOk xs = true ∧ storeOk os' = true ∧
    ((∃ i o, os[i]? = some o ∧ o.bytes = xs ∧ o.id = k ∧ o.uses + 1 ≤ 999 ∧ os' = os.set i { o with uses := o.uses + 1 }) ∨
     ((∀ o ∈ os, o.bytes ≠ xs) ∧ (∀ o ∈ os, o.id ≠ k) ∧ k = freeH os ∧ os.length < 16 ∧ os' = insH ⟨k, xs, 1⟩ os)) := by
  rw [putH] at h
  split at h
  · rename_i hs
    refine ⟨hs.1, hs.2, ?_⟩
    rcases likeH_cases xs os with ⟨e, hn⟩ | ⟨i, o, e, ho, hb⟩
    · rw [e] at h
      simp only at h
      split at h
      · rename_i hl
        simp only [Option.some.injEq, Prod.mk.injEq] at h
        obtain ⟨rfl, rfl⟩ := h
        exact ⟨ins_ok hs.1 hs.2 hn hl, .inr ⟨hn, (freeH_is hs.1).2.2.1, rfl, hl, rfl⟩⟩
      · simp at h
    · rw [e] at h
      simp only [ho] at h
      split at h
      · simp at h
      · rename_i hu
        simp only [Option.some.injEq, Prod.mk.injEq] at h
        obtain ⟨rfl, rfl⟩ := h
        obtain ⟨b1, b2, b3, b4, b5⟩ := (storeOk_all hs.1).2.1 o (List.mem_of_getElem? ho)
        exact ⟨set_ok hs.1 ho (by omega) (by omega), .inl ⟨i, o, ho, hb, rfl, by omega, rfl⟩⟩
  · simp at h

theorem getH_at {os : List HeldR} (hs : storeOk os = true) {i : Nat} {o : HeldR} (ho : os[i]? = some o) {k : Int} (hk : o.id = k) : getH k os = some o.bytes := by
  rw [getH, if_pos hs, atH_is (storeOk_all hs).2.2 ho hk]
  simp [ho]
theorem usesH_at {os : List HeldR} (hs : storeOk os = true) {i : Nat} {o : HeldR} (ho : os[i]? = some o) {k : Int} (hk : o.id = k) : usesH k os = o.uses := by
  rw [usesH, atH_is (storeOk_all hs).2.2 ho hk]
  simp [ho]
theorem getH_none {os : List HeldR} {k : Int} (h : ∀ o ∈ os, o.id ≠ k) : getH k os = none := by
  rw [getH, atH_none h]; split <;> rfl
theorem usesH_none {os : List HeldR} {k : Int} (h : ∀ o ∈ os, o.id ≠ k) : usesH k os = 0 := by
  rw [usesH, atH_none h]
theorem dropH_at {os : List HeldR} (hs : storeOk os = true) {i : Nat} {o : HeldR} (ho : os[i]? = some o) {k : Int} (hk : o.id = k) : dropH k os = if o.uses = 1 then some (os.take i ++ os.drop (i + 1)) else some (os.set i { o with uses := o.uses - 1 }) := by
  rw [dropH, if_pos hs, atH_is (storeOk_all hs).2.2 ho hk]
  simp [ho]
theorem keepH_at {os : List HeldR} (hs : storeOk os = true) {i : Nat} {o : HeldR} (ho : os[i]? = some o) {k : Int} (hk : o.id = k) : keepH k os = if o.uses = 999 then none else some (os.set i { o with uses := o.uses + 1 }) := by
  rw [keepH, if_pos hs, atH_is (storeOk_all hs).2.2 ho hk]
  simp [ho]
theorem keepH_cases {k : Int} {os os' : List HeldR} (h : keepH k os = some os') : storeOk os = true ∧ ∃ i o, os[i]? = some o ∧ o.id = k ∧ o.uses + 1 ≤ 999 ∧ 1 ≤ o.uses ∧ os' = os.set i { o with uses := o.uses + 1 } := by
  by_cases hs : storeOk os = true
  · refine ⟨hs, ?_⟩
    rcases atH_cases k os with ⟨e, hn⟩ | ⟨i, o, e, ho, hb⟩
    · rw [keepH, if_pos hs, e] at h; simp at h
    · rw [keepH_at hs ho hb] at h
      split at h
      · simp at h
      · rename_i hu
        simp only [Option.some.injEq] at h
        obtain ⟨b1, b2, b3, b4, b5⟩ := (storeOk_all hs).2.1 o (List.mem_of_getElem? ho)
        exact ⟨i, o, ho, hb, by omega, b3, h.symm⟩
  · rw [keepH, if_neg hs] at h; simp at h
theorem dropH_cases {k : Int} {os os' : List HeldR} (h : dropH k os = some os') : storeOk os = true ∧ ∃ i o, os[i]? = some o ∧ o.id = k ∧ 1 ≤ o.uses ∧ o.uses ≤ 999 ∧ ((o.uses = 1 ∧ os' = os.take i ++ os.drop (i + 1)) ∨ (o.uses ≠ 1 ∧ os' = os.set i { o with uses := o.uses - 1 })) := by
  by_cases hs : storeOk os = true
  · refine ⟨hs, ?_⟩
    rcases atH_cases k os with ⟨e, hn⟩ | ⟨i, o, e, ho, hb⟩
    · rw [dropH, if_pos hs, e] at h; simp at h
    · rw [dropH_at hs ho hb] at h
      obtain ⟨b1, b2, b3, b4, b5⟩ := (storeOk_all hs).2.1 o (List.mem_of_getElem? ho)
      refine ⟨i, o, ho, hb, b3, b4, ?_⟩
      split at h
      · rename_i hu
        simp only [Option.some.injEq] at h
        exact .inl ⟨hu, h.symm⟩
      · rename_i hu
        simp only [Option.some.injEq] at h
        exact .inr ⟨hu, h.symm⟩
  · rw [dropH, if_neg hs] at h; simp at h
theorem cut_ok {os : List HeldR} (hs : storeOk os = true) (i : Nat) : storeOk (os.take i ++ os.drop (i + 1)) = true := by
  obtain ⟨a, b, c⟩ := storeOk_all hs
  have hsub : (os.take i ++ os.drop (i + 1)).Sublist os := by
    have h1 : (os.drop (i + 1)).Sublist (os.drop i) := by
      rw [← List.drop_drop]; exact List.drop_sublist _ _
    have := (List.Sublist.refl (os.take i)).append h1
    rwa [List.take_append_drop] at this
  exact storeOk_of (Nat.le_trans hsub.length_le a) (fun o ho => b o (hsub.subset ho)) (c.sublist hsub)
theorem dropH_ok {k : Int} {os os' : List HeldR} (h : dropH k os = some os') : storeOk os' = true := by
  obtain ⟨hs, i, o, ho, hk, h1, h2, h3⟩ := dropH_cases h
  rcases h3 with ⟨e, rfl⟩ | ⟨e, rfl⟩
  · exact cut_ok hs i
  · exact set_ok hs ho (by omega) (by omega)
theorem keepH_ok {k : Int} {os os' : List HeldR} (h : keepH k os = some os') : storeOk os' = true := by
  obtain ⟨hs, i, o, ho, hk, h1, h2, rfl⟩ := keepH_cases h
  exact set_ok hs ho (by omega) (by omega)
theorem set_back {os : List HeldR} {i : Nat} {o : HeldR} (ho : os[i]? = some o) (y : Int) : (os.set i { o with uses := y }).set i { ({ o with uses := y } : HeldR) with uses := o.uses } = os := by
  rw [List.set_set]
  obtain ⟨hi, rfl⟩ := List.getElem?_eq_some_iff.1 ho
  exact List.set_getElem_self hi
theorem set_at {os : List HeldR} {i : Nat} {o p : HeldR} (ho : os[i]? = some o) : (os.set i p)[i]? = some p := List.getElem?_set_self (List.getElem?_eq_some_iff.1 ho).1

/-! ### the statements' laws -/
/-- P22 -/
theorem law_keep {k : Int} {os os' : List HeldR} (h : keepH k os = some os') : storeOk os' = true ∧ usesH k os' = usesH k os + 1 ∧ dropH k os' = some os := by
  have hok := keepH_ok h
  obtain ⟨hs, i, o, ho, hk, h1, h2, rfl⟩ := keepH_cases h
  have hat : (os.set i { o with uses := o.uses + 1 })[i]? = some { o with uses := o.uses + 1 } := set_at ho
  refine ⟨hok, ?_, ?_⟩
  · rw [usesH_at hok hat hk, usesH_at hs ho hk]
  · rw [dropH_at hok hat hk, if_neg (by show ¬ o.uses + 1 = 1; omega)]
    have e : ({ ({ o with uses := o.uses + 1 } : HeldR) with uses := ({ o with uses := o.uses + 1 } : HeldR).uses - 1 } : HeldR) = { ({ o with uses := o.uses + 1 } : HeldR) with uses := o.uses } := by
      simp only [HeldR.mk.injEq, true_and]; omega
    rw [e, set_back ho]
/-- P23 -/
theorem law_drop {k : Int} {os os' : List HeldR} (h : dropH k os = some os') : storeOk os' = true ∧ usesH k os' = usesH k os - 1 ∧ (getH k os').isSome = decide (1 < usesH k os) := by
  have hok := dropH_ok h
  obtain ⟨hs, i, o, ho, hk, h1, h2, h3⟩ := dropH_cases h
  have hp := (storeOk_all hs).2.2
  rw [usesH_at hs ho hk]
  rcases h3 with ⟨e, rfl⟩ | ⟨e, rfl⟩
  · have hn : ∀ q ∈ os.take i ++ os.drop (i + 1), q.id ≠ k := by
      intro q hq e2
      rcases List.mem_append.1 hq with hq | hq
      · obtain ⟨j, hj, rfl⟩ := List.mem_iff_getElem.1 hq
        have hj' : j < i ∧ j < os.length := by simp at hj; omega
        have hg : os[j]? = some (os.take i)[j] := by rw [List.getElem_take]; exact List.getElem?_eq_getElem hj'.2
        have := id_at hp hg ho (e2.trans hk.symm)
        omega
      · obtain ⟨j, hj, rfl⟩ := List.mem_iff_getElem.1 hq
        have hj' : i + 1 + j < os.length := by simp at hj; omega
        have hg : os[i + 1 + j]? = some (os.drop (i + 1))[j] := by rw [List.getElem_drop]; exact List.getElem?_eq_getElem hj'
        have := id_at hp hg ho (e2.trans hk.symm)
        omega
    refine ⟨hok, ?_, ?_⟩
    · rw [usesH_none hn]; omega
    · rw [getH_none hn]; simp; omega
  · have hat : (os.set i { o with uses := o.uses - 1 })[i]? = some { o with uses := o.uses - 1 } := set_at ho
    refine ⟨hok, ?_, ?_⟩
    · rw [usesH_at hok hat hk]
    · rw [getH_at hok hat hk]; simp; omega
/-- P24 -/
theorem law_get {k : Int} {os : List HeldR} {xs : List Int} (h : getH k os = some xs) : blockOk xs = true ∧ ∀ os' j, putH xs os = some (os', j) → j = k := by
  rw [getH] at h
  split at h
  · rename_i hs
    rcases atH_cases k os with ⟨e, hn⟩ | ⟨i, o, e, ho, hb⟩
    · rw [e] at h; simp at h
    · rw [e] at h
      simp only [ho, Option.map_some, Option.some.injEq] at h
      subst h
      refine ⟨((storeOk_all hs).2.1 o (List.mem_of_getElem? ho)).2.2.2.2, fun os' j hj => ?_⟩
      obtain ⟨-, -, -, h4⟩ := putH_cases hj
      rcases h4 with ⟨i', o', ho', hb', hk', -, -⟩ | ⟨hn, -⟩
      · have := bytes_at (storeOk_all hs).2.2 ho' ho hb'
        subst this
        rw [ho] at ho'
        obtain rfl := Option.some.inj ho'
        omega
      · exact absurd rfl (hn o (List.mem_of_getElem? ho))
  · simp at h
/-- P26 -/
theorem law_keepPut {k : Int} {os os' : List HeldR} (h : keepH k os = some os') : ∃ xs, getH k os = some xs ∧ putH xs os = some (os', k) := by
  obtain ⟨hs, i, o, ho, hk, h1, h2, rfl⟩ := keepH_cases h
  refine ⟨o.bytes, getH_at hs ho hk, ?_⟩
  have hb := ((storeOk_all hs).2.1 o (List.mem_of_getElem? ho)).2.2.2.2
  rw [putH, if_pos ⟨hs, hb⟩, likeH_is (storeOk_all hs).2.2 ho rfl]
  simp only [ho]
  rw [if_neg (by omega), hk]
theorem ins_at {x : HeldR} {os : List HeldR} : ∃ j : Nat, (insH x os)[j]? = some x ∧ (insH x os).take j ++ (insH x os).drop (j + 1) = os ∧ ∃ j', j' ≤ os.length ∧ insH x os = os.take j' ++ x :: os.drop j' := by
  obtain ⟨j, hj, e, -, -⟩ := insH_split x os
  have hl : (os.take j).length = j := by simp; omega
  refine ⟨j, ?_, ?_, j, hj, e⟩
  · rw [e, List.getElem?_append_right (by omega), hl]; simp
  · rw [e]
    have h1 : (os.take j ++ x :: os.drop j).take j = os.take j := by
      rw [List.take_append_of_le_length (by omega), List.take_of_length_le (by omega)]
    have h2 : (os.take j ++ x :: os.drop j).drop (j + 1) = os.drop j := by
      rw [List.drop_append, List.drop_eq_nil_of_le (by omega), hl, show j + 1 - j = 1 by omega]; rfl
    rw [h1, h2, List.take_append_drop]
/-- P18, P21 -/
theorem law_put {xs : List Int} {k : Int} {os os' : List HeldR} (h : putH xs os = some (os', k)) : storeOk os' = true ∧ getH k os' = some xs ∧ usesH k os' = usesH k os + 1 ∧ dropH k os' = some os := by
  obtain ⟨hs, hb, hok, h4⟩ := putH_cases h
  rcases h4 with ⟨i, o, ho, hx, hk, hu, rfl⟩ | ⟨hn, hf, -, hl, rfl⟩
  · have hat : (os.set i { o with uses := o.uses + 1 })[i]? = some { o with uses := o.uses + 1 } := set_at ho
    have hkp : keepH k os = some (os.set i { o with uses := o.uses + 1 }) := by rw [keepH_at hs ho hk, if_neg (by omega)]
    obtain ⟨l1, l2, l3⟩ := law_keep hkp
    refine ⟨hok, ?_, l2, l3⟩
    rw [getH_at hok hat hk]; exact congrArg _ hx
  · obtain ⟨j, hat, hcut, -⟩ := ins_at (x := ⟨k, xs, 1⟩) (os := os)
    refine ⟨hok, getH_at hok hat rfl, ?_, ?_⟩
    · rw [usesH_at hok hat rfl, usesH_none hf]; rfl
    · rw [dropH_at hok hat rfl, if_pos rfl, hcut]
/-- P20 -/
theorem law_putOnce {xs : List Int} {k j : Int} {os os' os2 : List HeldR} (h : putH xs os = some (os', k)) (g : putH xs os' = some (os2, j)) : j = k ∧ os2.length = os'.length := by
  obtain ⟨hok, hget, -, -⟩ := law_put h
  refine ⟨(law_get hget).2 _ _ g, ?_⟩
  obtain ⟨-, -, -, h4⟩ := putH_cases g
  rcases h4 with ⟨i, o, ho, hx, hk, hu, rfl⟩ | ⟨hn, -⟩
  · simp
  · obtain ⟨-, -, -, h4⟩ := putH_cases h
    rcases h4 with ⟨i, o, ho, hx, hk, hu, rfl⟩ | ⟨-, hf, -, hl, rfl⟩
    · exact absurd hx (hn { o with uses := o.uses + 1 } (List.mem_of_getElem? (set_at ho)))
    · obtain ⟨j', hat, -⟩ := ins_at (x := ⟨k, xs, 1⟩) (os := os)
      exact absurd rfl (hn _ (List.mem_of_getElem? hat))
theorem filter_set (f : HeldR → Bool) : ∀ (os : List HeldR) {i : Nat} {o p : HeldR}, os[i]? = some o → f o = false → f p = false → (os.set i p).filter f = os.filter f
  | [], i, o, p, h, _, _ => by simp at h
  | a :: r, 0, o, p, h, h1, h2 => by
    obtain rfl : a = o := by simpa using h
    rw [List.set_cons_zero, List.filter_cons, List.filter_cons, if_neg (by rw [h2]; simp), if_neg (by rw [h1]; simp)]
  | a :: r, i + 1, o, p, h, h1, h2 => by
    rw [List.set_cons_succ, List.filter_cons, List.filter_cons, filter_set f r (by simpa using h) h1 h2]
/-- P19 -/
theorem law_putOthers {xs : List Int} {k : Int} {os os' : List HeldR} (h : putH xs os = some (os', k)) : os.filter (fun o => o.id != k) = os'.filter (fun o => o.id != k) := by
  obtain ⟨hs, hb, hok, h4⟩ := putH_cases h
  rcases h4 with ⟨i, o, ho, hx, hk, hu, rfl⟩ | ⟨hn, hf, -, hl, rfl⟩
  · rw [filter_set _ os ho (by simp [hk]) (by simp [hk])]
  · obtain ⟨j, -, -, j', hj, e⟩ := ins_at (x := ⟨k, xs, 1⟩) (os := os)
    rw [e, List.filter_append, List.filter_cons, if_neg (by simp), ← List.filter_append, List.take_append_drop]
end Go.Proofs.YtipligidnoajfaaDoor
