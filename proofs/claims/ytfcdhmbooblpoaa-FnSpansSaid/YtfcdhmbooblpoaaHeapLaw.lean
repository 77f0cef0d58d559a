/- Plain facts on heaps of numbers, the largest on top. No program. -/
import Derived.Test.YtfcdhmbooblpoaaBase
namespace Go.Proofs.Ytfcdhmbooblpoaa

/-- number k of a list -/
def at0 (hs : List Int) (k : Nat) : Int := hs[k]?.getD 0
theorem at0_some {hs : List Int} {k : Nat} (h : k < hs.length) : hs[k]? = some (at0 hs k) := by simp [at0, h]
theorem at0_mem {hs : List Int} {k : Nat} (h : k < hs.length) : at0 hs k ∈ hs := List.mem_of_getElem? (at0_some h)

def sw (hs : List Int) (i j : Nat) : List Int := (hs.set i (at0 hs j)).set j (at0 hs i)
@[simp] theorem length_sw (hs : List Int) (i j : Nat) : (sw hs i j).length = hs.length := by simp [sw]
theorem at0_sw {hs : List Int} {i j : Nat} (hi : i < hs.length) (hj : j < hs.length) (k : Nat) : at0 (sw hs i j) k = if k = j then at0 hs i else if k = i then at0 hs j else at0 hs k := by
  unfold at0 sw
  by_cases h1 : k = j
  · subst h1; simp [hj, at0]
  · rw [if_neg h1, List.getElem?_set_ne (fun e => h1 e.symm)]
    by_cases h2 : k = i
    · subst h2; simp [hi, at0]
    · rw [if_neg h2, List.getElem?_set_ne (fun e => h2 e.symm)]
theorem sw_perm {hs : List Int} {i j : Nat} (hi : i < hs.length) (hj : j < hs.length) : (sw hs i j).Perm hs := by
  have h := Array.swap_perm (xs := hs.toArray) (i := i) (j := j) (by simpa using hi) (by simpa using hj)
  have e : (hs.toArray.swap i j (by simpa using hi) (by simpa using hj)).toList = sw hs i j := by
    simp [Array.swap, sw, at0, hi, hj]
  have := Array.perm_iff_toList_perm.1 h
  rw [e] at this
  simpa using this
theorem sw_far {hs : List Int} {i j k : Nat} (hi : k ≠ i) (hj : k ≠ j) : (sw hs i j)[k]? = hs[k]? := by
  unfold sw
  rw [List.getElem?_set_ne (fun e => hj e.symm), List.getElem?_set_ne (fun e => hi e.symm)]

/-- among the first n: from lo on no child is above its parent -/
def Hp (hs : List Int) (lo n : Nat) : Prop := ∀ j c, lo ≤ j → (c = 2 * j + 1 ∨ c = 2 * j + 2) → c < n → at0 hs c ≤ at0 hs j

/-- the same while i is being let down -/
def Hd (hs : List Int) (lo n i : Nat) : Prop :=
  (∀ j c, lo ≤ j → j ≠ i → (c = 2 * j + 1 ∨ c = 2 * j + 2) → c < n → at0 hs c ≤ at0 hs j) ∧
  (∀ p c, lo ≤ p → (i = 2 * p + 1 ∨ i = 2 * p + 2) → (c = 2 * i + 1 ∨ c = 2 * i + 2) → c < n → at0 hs c ≤ at0 hs p)

theorem Hd.start {hs : List Int} {lo n : Nat} (h : Hp hs (lo + 1) n) : Hd hs lo n lo :=
  ⟨fun j c hj hne hc hn => h j c (by omega) hc hn, fun p c hp hi _ _ => by omega⟩
theorem Hd.none {hs : List Int} {lo n i : Nat} (h : Hd hs lo n i) (hn : n ≤ 2 * i + 1) : Hp hs lo n := fun j c hj hc hcn => by
  by_cases e : j = i
  · omega
  · exact h.1 j c hj e hc hcn
theorem Hd.stop {hs : List Int} {lo n i j : Nat} (h : Hd hs lo n i) (hle : at0 hs j ≤ at0 hs i) (hmax : ∀ c, (c = 2 * i + 1 ∨ c = 2 * i + 2) → c < n → at0 hs c ≤ at0 hs j) : Hp hs lo n := fun k c hk hc hcn => by
  by_cases e : k = i
  · subst e; exact Int.le_trans (hmax c hc hcn) hle
  · exact h.1 k c hk e hc hcn
theorem Hd.step {hs : List Int} {lo n i j : Nat} (h : Hd hs lo n i) (hn : n ≤ hs.length) (hlo : lo ≤ i) (hj : j = 2 * i + 1 ∨ j = 2 * i + 2) (hjn : j < n) (hlt : at0 hs i < at0 hs j)
    (hmax : ∀ c, (c = 2 * i + 1 ∨ c = 2 * i + 2) → c < n → at0 hs c ≤ at0 hs j) : Hd (sw hs i j) lo n j := by
  have hi' : i < hs.length := by omega
  have hj' : j < hs.length := by omega
  constructor
  · intro k c hk hne hc hcn
    rw [at0_sw hi' hj', at0_sw hi' hj', if_neg hne]
    by_cases e : k = i
    · subst e
      rw [if_pos rfl]
      by_cases e2 : c = j
      · subst e2; rw [if_pos rfl]; omega
      · rw [if_neg e2, if_neg (by omega)]; exact hmax c hc hcn
    · rw [if_neg e, if_neg (show ¬ c = j by omega)]
      by_cases e2 : c = i
      · subst e2; rw [if_pos rfl]; exact h.2 k j hk hc hj hjn
      · rw [if_neg e2]; exact h.1 k c hk e hc hcn
  · intro p c hp hjp hc hcn
    have e : p = i := by omega
    subst e
    rw [at0_sw hi' hj', at0_sw hi' hj', if_neg (show ¬ c = j by omega), if_neg (show ¬ c = p by omega), if_neg (show ¬ p = j by omega), if_pos rfl]
    exact h.1 j c (by omega) (by omega) hc hcn

/-- the top is the largest -/
theorem Hp.top {hs : List Int} {n : Nat} (h : Hp hs 0 n) : ∀ k, k < n → at0 hs k ≤ at0 hs 0 := by
  intro k
  induction k using Nat.strongRecOn with
  | ind k ih =>
    intro hk
    by_cases h0 : k = 0
    · subst h0; exact Int.le_refl _
    · have h1 := h ((k - 1) / 2) k (Nat.zero_le _) (by omega) hk
      have h2 := ih ((k - 1) / 2) (by omega) (by omega)
      omega
theorem Hp.far {hs : List Int} {n lo : Nat} (h : n ≤ 2 * lo + 1) : Hp hs lo n := fun j c hj hc hcn => by omega
/-- the last taken off, the top put in its place -/
theorem Hp.swap {hs : List Int} {n : Nat} (h : Hp hs 0 n) (hn : n ≤ hs.length) (hpos : 0 < n) : Hp (sw hs 0 (n - 1)) 1 (n - 1) := by
  intro j c hj hc hcn
  rw [at0_sw (by omega) (by omega), at0_sw (by omega) (by omega), if_neg (by omega), if_neg (by omega), if_neg (by omega), if_neg (by omega)]
  exact h j c (by omega) hc (by omega)
theorem Hp.same {hs hs' : List Int} {lo n : Nat} (h : Hp hs lo n) (he : ∀ k, k < n → hs'[k]? = hs[k]?) : Hp hs' lo n := by
  intro j c hj hc hcn
  have := h j c hj hc hcn
  unfold at0 at *
  rw [he c hcn, he j (by omega)]; exact this

/-- a list, largest first, that a heap is a rearrangement of: its head is the top -/
def Desc (D : List Int) : Prop := D.Pairwise fun x y => y ≤ x
theorem top_head {hs D : List Int} {d : Int} (h : Hp hs 0 hs.length) (hp : hs.Perm (d :: D)) (hd : Desc (d :: D)) : at0 hs 0 = d := by
  have hl : 0 < hs.length := by rw [hp.length_eq]; simp
  have h1 : d ∈ hs := hp.symm.subset (by simp)
  obtain ⟨k, hk, hkd⟩ := List.getElem_of_mem h1
  have h2 := h.top k hk
  have h3 : at0 hs k = d := by simp [at0, hk, hkd]
  have h4 := hp.subset (at0_mem hl)
  simp only [List.mem_cons] at h4
  unfold Desc at hd
  rw [List.pairwise_cons] at hd
  rcases h4 with h4 | h4
  · exact h4
  · have := hd.1 _ h4; omega

/-- every list, largest first -/
def desc (xs : List Int) : List Int := xs.mergeSort fun x y => decide (y ≤ x)
theorem desc_desc (xs : List Int) : Desc (desc xs) := by
  have h := List.pairwise_mergeSort (le := fun x y : Int => decide (y ≤ x)) (by intro a b c; simp; omega) (by intro a b; simp; omega) xs
  exact h.imp (by simp)
theorem desc_perm (xs : List Int) : (desc xs).Perm xs := List.mergeSort_perm _ _
theorem desc_unique {D D' : List Int} (h : Desc D) (h' : Desc D') (hp : D.Perm D') : D = D' :=
  hp.eq_of_pairwise (le := fun x y : Int => y ≤ x) (by intros; omega) h h'

end Go.Proofs.Ytfcdhmbooblpoaa
