/- Files in a store, as lists: what storing, loading and freeing do to each other; nothing here speaks of one Go function. -/
import Derived.Test.YtipligidnoajfaaDoorStoreLaw
import Derived.Test.YtipligidnoajfaaDoorCut
namespace Go.Proofs.YtipligidnoajfaaDoor
open Go.RowKit

theorem cuts_get : ∀ (i : Nat) (xs b : List Int), (cuts xs)[i]? = some b → b = (xs.drop (8 * i)).take 8 ∧ 8 * i < xs.length
  | i, [], b, h => by simp [cuts_nil] at h
  | 0, x :: r, b, h => by
    rw [cuts_of (by simp)] at h
    simp only [List.getElem?_cons_zero, Option.some.injEq] at h
    subst h
    simp
  | i + 1, x :: r, b, h => by
    rw [cuts_of (by simp)] at h
    simp only [List.getElem?_cons_succ] at h
    obtain ⟨h1, h2⟩ := cuts_get i _ b h
    rw [List.drop_drop] at h1
    have e : 8 + 8 * i = 8 * (i + 1) := by omega
    rw [e] at h1
    refine ⟨h1, ?_⟩
    rw [List.length_drop] at h2
    omega
theorem cuts_count (xs : List Int) : 8 * (cuts xs).length < xs.length + 8 := by
  rcases h : (cuts xs).length with _ | n
  · omega
  · obtain ⟨b, hb⟩ := get_of (show n < (cuts xs).length by omega)
    have := (cuts_get n xs b hb).2
    omega
theorem cuts_ok {xs : List Int} (h : bytesOk xs = true) : ∀ b ∈ cuts xs, blockOk b = true := by
  intro b hb
  obtain ⟨i, hi, rfl⟩ := List.mem_iff_getElem.1 hb
  obtain ⟨e, hlt⟩ := cuts_get i xs _ (List.getElem?_eq_getElem hi)
  rw [e]
  have hs : bytesOk ((xs.drop (8 * i)).take 8) = true := bytesOk_sub h fun y hy => List.mem_of_mem_drop (List.mem_of_mem_take hy)
  simp only [blockOk, Bool.and_eq_true, decide_eq_true_eq]
  exact ⟨⟨by simp; omega, by simp; omega⟩, hs⟩
theorem cuts_full {xs : List Int} {i : Nat} {b : List Int} (h : (cuts xs)[i]? = some b) (hi : i + 1 < (cuts xs).length) : b.length = 8 := by
  obtain ⟨e, _⟩ := cuts_get i xs b h
  obtain ⟨b', hb'⟩ := get_of hi
  have := (cuts_get (i + 1) xs b' hb').2
  rw [e]; simp; omega
theorem cuts_join : ∀ (xs : List Int), (cuts xs).flatten = xs := by
  intro xs
  induction h : xs.length using Nat.strongRecOn generalizing xs with
  | ind n ih =>
    by_cases h0 : xs = []
    · subst h0; simp [cuts_nil]
    · have hp : 0 < xs.length := List.length_pos_iff.2 h0
      rw [cuts_of h0, List.flatten_cons, ih (xs.drop 8).length (by simp; omega) _ rfl, List.take_append_drop]
/-- Blocks that are full but the last are those of what they make. -/
theorem cuts_flatten : ∀ (bss : List (List Int)), (∀ b ∈ bss, 1 ≤ b.length ∧ b.length ≤ 8) → (∀ (i : Nat) (b : List Int), bss[i]? = some b → i + 1 < bss.length → b.length = 8) → cuts bss.flatten = bss
  | [], _, _ => by simp [cuts_nil]
  | b :: r, h1, h2 => by
    have hb := h1 b List.mem_cons_self
    have hne : (b :: r).flatten ≠ [] := by
      intro e
      have := congrArg List.length e
      simp at this
      have := this.1
      rw [this] at hb; simp at hb
    rw [cuts_of hne, List.flatten_cons]
    rcases r with _ | ⟨b', r'⟩
    · simp only [List.flatten_nil, List.append_nil]
      rw [List.take_of_length_le hb.2, List.drop_eq_nil_of_le hb.2, cuts_nil]
    · have h8 : b.length = 8 := h2 0 b rfl (by simp)
      rw [List.take_append_of_le_length (by omega), List.take_of_length_le (by omega), List.drop_append_of_le_length (by omega), List.drop_eq_nil_of_le (by omega), List.nil_append]
      rw [cuts_flatten (b' :: r') (fun b hb => h1 b (List.mem_cons_of_mem _ hb)) (fun i b hb hi => h2 (i + 1) b (by simpa using hb) (by simp at hi ⊢; omega))]

/-! ### storing blocks one behind the other -/
def storeAll : List (List Int) → List HeldR → Option (List HeldR × List Int)
  | [], os => some (os, [])
  | b :: r, os => match putH b os with
    | none => none
    | some (os', k) => match storeAll r os' with
      | none => none
      | some (os2, ks) => some (os2, k :: ks)
def fileStoreH (xs : List Int) (os : List HeldR) : Option (List HeldR × List Int) := if storeOk os = true ∧ fileOk xs = true then storeAll (cuts xs) os else none
def idsFrom : List Int → List HeldR → Bool
  | [], _ => true
  | k :: r, os => match getH k os with
    | none => false
    | some b => (r.isEmpty || decide (b.length = 8)) && idsFrom r os
def idsOk (ids : List Int) (os : List HeldR) : Bool := decide (ids.length ≤ 4) && idsFrom ids os
def loadAll (ids : List Int) (os : List HeldR) : List Int := ids.flatMap fun k => (getH k os).getD []
def fileLoadH (ids : List Int) (os : List HeldR) : Option (List Int) := if storeOk os = true ∧ idsOk ids os = true then some (loadAll ids os) else none
def freeAll : List Int → List HeldR → Option (List HeldR)
  | [], os => some os
  | k :: r, os => match dropH k os with
    | none => none
    | some os' => freeAll r os'
def fileFreeH (ids : List Int) (os : List HeldR) : Option (List HeldR) := if storeOk os = true ∧ idsOk ids os = true then freeAll ids os else none

theorem getH_some {k : Int} {os : List HeldR} {b : List Int} (h : getH k os = some b) : storeOk os = true ∧ ∃ (i : Nat) (o : HeldR), os[i]? = some o ∧ o.id = k ∧ o.bytes = b := by
  rw [getH] at h
  split at h
  · rename_i hs
    refine ⟨hs, ?_⟩
    rcases atH_cases k os with ⟨e, hn⟩ | ⟨i, o, e, ho, hid⟩
    · rw [e] at h; simp at h
    · rw [e] at h
      simp only [ho, Option.map_some, Option.some.injEq] at h
      exact ⟨i, o, ho, hid, h⟩
  · simp at h
theorem getH_ok {k : Int} {os : List HeldR} {b : List Int} (h : getH k os = some b) : blockOk b = true ∧ 0 < k ∧ k ≤ 99 := by
  obtain ⟨hs, i, o, ho, rfl, rfl⟩ := getH_some h
  have := (storeOk_all hs).2.1 o (List.mem_of_getElem? ho)
  exact ⟨this.2.2.2.2, this.1, this.2.1⟩
theorem getH_mem {k : Int} {os : List HeldR} (hs : storeOk os = true) {o : HeldR} (ho : o ∈ os) (hk : o.id = k) : getH k os = some o.bytes := by
  obtain ⟨i, hi⟩ := List.mem_iff_getElem?.1 ho
  exact getH_at hs hi hk
theorem usesH_mem {k : Int} {os : List HeldR} (hs : storeOk os = true) {o : HeldR} (ho : o ∈ os) (hk : o.id = k) : usesH k os = o.uses := by
  obtain ⟨i, hi⟩ := List.mem_iff_getElem?.1 ho
  exact usesH_at hs hi hk
theorem usesH_pos {k : Int} {os : List HeldR} (hs : storeOk os = true) (h : usesH k os ≠ 0) : ∃ o ∈ os, o.id = k ∧ o.uses = usesH k os := by
  rcases atH_cases k os with ⟨e, hn⟩ | ⟨i, o, e, ho, hid⟩
  · exact absurd (usesH_none hn) h
  · exact ⟨o, List.mem_of_getElem? ho, hid, (usesH_at hs ho hid).symm⟩
theorem usesH_zero {k : Int} {os : List HeldR} (hs : storeOk os = true) (h : usesH k os = 0) : ∀ o ∈ os, o.id ≠ k := fun o ho e => by
  have h1 := usesH_mem hs ho e
  have h2 := (storeOk_all hs).2.1 o ho
  omega
/-- Two rising lists with the same members are one. -/
theorem sorted_ext : ∀ {a b : List HeldR}, a.Pairwise (fun x y => x.id < y.id) → b.Pairwise (fun x y => x.id < y.id) → (∀ o, o ∈ a ↔ o ∈ b) → a = b
  | [], [], _, _, _ => rfl
  | [], y :: _, _, _, h => by have := (h y).2 List.mem_cons_self; simp at this
  | x :: _, [], _, _, h => by have := (h x).1 List.mem_cons_self; simp at this
  | x :: a, y :: b, ha, hb, h => by
    obtain ⟨a1, a2⟩ := List.pairwise_cons.1 ha
    obtain ⟨b1, b2⟩ := List.pairwise_cons.1 hb
    have hxy : x = y := by
      rcases List.mem_cons.1 ((h x).1 List.mem_cons_self) with e | hx
      · exact e
      · rcases List.mem_cons.1 ((h y).2 List.mem_cons_self) with e | hy
        · exact e.symm
        · have h1 := a1 y hy; have h2 := b1 x hx; omega
    subst hxy
    refine congrArg _ (sorted_ext a2 b2 fun o => ⟨fun ho => ?_, fun ho => ?_⟩)
    · rcases List.mem_cons.1 ((h o).1 (List.mem_cons_of_mem _ ho)) with rfl | h'
      · have := a1 o ho; omega
      · exact h'
    · rcases List.mem_cons.1 ((h o).2 (List.mem_cons_of_mem _ ho)) with rfl | h'
      · have := b1 o ho; omega
      · exact h'
/-- Stores that answer alike are one. -/
theorem store_ext {a b : List HeldR} (ha : storeOk a = true) (hb : storeOk b = true) (hu : ∀ k, usesH k a = usesH k b) (hg : ∀ k, getH k a = getH k b) : a = b := by
  have key : ∀ {a b : List HeldR}, storeOk a = true → storeOk b = true → (∀ k, usesH k a = usesH k b) → (∀ k, getH k a = getH k b) → ∀ o, o ∈ a → o ∈ b := by
    intro a b ha hb hu hg o ho
    have h1 := usesH_mem ha ho rfl
    have h2 := (storeOk_all ha).2.1 o ho
    obtain ⟨p, hp, hid, hpu⟩ := usesH_pos hb (k := o.id) (by rw [← hu, h1]; omega)
    have h3 := getH_mem hb hp hid
    rw [← hg, getH_mem ha ho rfl] at h3
    replace h3 := Option.some.inj h3
    rw [← hu, h1] at hpu
    have : o = p := by
      obtain ⟨i1, b1, u1⟩ := o
      obtain ⟨i2, b2, u2⟩ := p
      simp only at hid h3 hpu
      subst hid h3 hpu; rfl
    rw [this]; exact hp
  exact sorted_ext ((storeOk_all ha).2.2.imp fun h => h.1) ((storeOk_all hb).2.2.imp fun h => h.1) fun o => ⟨key ha hb hu hg o, key hb ha (fun k => (hu k).symm) (fun k => (hg k).symm) o⟩

/-- What one step does to uses and bytes. -/
theorem put_uses {xs : List Int} {os os' : List HeldR} {j : Int} (h : putH xs os = some (os', j)) (k : Int) : usesH k os' = usesH k os + (if k = j then 1 else 0) := by
  obtain ⟨hs, hb, hok, h4⟩ := putH_cases h
  by_cases hkj : k = j
  · rw [if_pos hkj, hkj]; exact (law_put h).2.2.1
  · rw [if_neg hkj]
    have hm : ∀ o : HeldR, o.id = k → (o ∈ os ↔ o ∈ os') := by
      have lf := law_putOthers h
      intro o ho
      have e : (o.id != j) = true := by simp; rw [ho]; exact hkj
      constructor
      · intro hm
        have := List.mem_filter (p := fun o : HeldR => o.id != j).2 ⟨hm, e⟩
        rw [lf] at this
        exact (List.mem_filter.1 this).1
      · intro hm
        have := List.mem_filter (p := fun o : HeldR => o.id != j).2 ⟨hm, e⟩
        rw [← lf] at this
        exact (List.mem_filter.1 this).1
    by_cases hu : usesH k os = 0
    · rw [hu]
      have hz := usesH_zero hs hu
      exact usesH_none fun o ho e => hz o ((hm o e).2 ho) e
    · obtain ⟨o, ho, hid, hou⟩ := usesH_pos hs hu
      rw [usesH_mem hok ((hm o hid).1 ho) hid, hou]; omega
theorem put_get {xs : List Int} {os os' : List HeldR} {j : Int} (h : putH xs os = some (os', j)) (k : Int) : getH k os' = if k = j then some xs else getH k os := by
  obtain ⟨hs, hb, hok, h4⟩ := putH_cases h
  by_cases hkj : k = j
  · rw [if_pos hkj, hkj]; exact (law_put h).2.1
  · rw [if_neg hkj]
    have hm : ∀ o : HeldR, o.id = k → (o ∈ os ↔ o ∈ os') := by
      have lf := law_putOthers h
      intro o ho
      have e : (o.id != j) = true := by simp; rw [ho]; exact hkj
      constructor
      · intro hm
        have := List.mem_filter (p := fun o : HeldR => o.id != j).2 ⟨hm, e⟩
        rw [lf] at this
        exact (List.mem_filter.1 this).1
      · intro hm
        have := List.mem_filter (p := fun o : HeldR => o.id != j).2 ⟨hm, e⟩
        rw [← lf] at this
        exact (List.mem_filter.1 this).1
    by_cases hu : usesH k os = 0
    · have hz := usesH_zero hs hu
      rw [getH_none hz, getH_none fun o ho e => hz o ((hm o e).2 ho) e]
    · obtain ⟨o, ho, hid, hou⟩ := usesH_pos hs hu
      rw [getH_mem hok ((hm o hid).1 ho) hid, getH_mem hs ho hid]
/-- A block that was there has these bytes. -/
theorem put_same {xs : List Int} {os os' : List HeldR} {j : Int} (h : putH xs os = some (os', j)) {b : List Int} (hg : getH j os = some b) : b = xs := by
  obtain ⟨hs, hb, hok, h4⟩ := putH_cases h
  obtain ⟨-, i, o, ho, hid, hob⟩ := getH_some hg
  rcases h4 with ⟨i', o', ho', hx, hk, -, -⟩ | ⟨-, hf, -⟩
  · have := id_at (storeOk_all hs).2.2 ho ho' (by omega)
    subst this
    rw [ho] at ho'
    obtain rfl := Option.some.inj ho'
    rw [← hob, hx]
  · exact absurd hid (hf o (List.mem_of_getElem? ho))
theorem drop_uses {os os' : List HeldR} {j : Int} (h : dropH j os = some os') (k : Int) : usesH k os' = usesH k os - (if k = j then 1 else 0) := by
  have hok := dropH_ok h
  by_cases hkj : k = j
  · rw [if_pos hkj, hkj]; exact (law_drop h).2.1
  · rw [if_neg hkj]
    obtain ⟨hs, i, o, ho, hid, h1, h2, h3⟩ := dropH_cases h
    have hm : ∀ p : HeldR, p.id = k → (p ∈ os ↔ p ∈ os') := by
      intro p hp
      have e : (p.id != j) = true := by simp; rw [hp]; exact hkj
      have lf : os.filter (fun o => o.id != j) = os'.filter (fun o => o.id != j) := by
        rcases h3 with ⟨e, rfl⟩ | ⟨e, rfl⟩
        · obtain ⟨hi, eo⟩ := List.getElem?_eq_some_iff.1 ho
          conv => lhs; rw [← List.take_append_drop i os, List.drop_eq_getElem_cons hi, eo]
          rw [List.filter_append, List.filter_append, List.filter_cons, if_neg (by simp [hid])]
        · rw [filter_set _ os ho (by simp [hid]) (by simp [hid])]
      constructor
      · intro hm
        have := List.mem_filter (p := fun o : HeldR => o.id != j).2 ⟨hm, e⟩
        rw [lf] at this
        exact (List.mem_filter.1 this).1
      · intro hm
        have := List.mem_filter (p := fun o : HeldR => o.id != j).2 ⟨hm, e⟩
        rw [← lf] at this
        exact (List.mem_filter.1 this).1
    by_cases hu : usesH k os = 0
    · rw [hu]
      have hz := usesH_zero hs hu
      rw [usesH_none fun o ho e => hz o ((hm o e).2 ho) e]; omega
    · obtain ⟨p, hp, hpid, hou⟩ := usesH_pos hs hu
      rw [usesH_mem hok ((hm p hpid).1 hp) hpid, hou]; omega
theorem drop_get {os os' : List HeldR} {j : Int} (h : dropH j os = some os') (k : Int) (hu : usesH k os' ≠ 0) : getH k os' = getH k os := by
  have hok := dropH_ok h
  obtain ⟨hs, i, o, ho, hid, h1, h2, h3⟩ := dropH_cases h
  obtain ⟨p, hp, hpid, -⟩ := usesH_pos hok hu
  rw [getH_mem hok hp hpid]
  rcases h3 with ⟨e, rfl⟩ | ⟨e, rfl⟩
  · have hpo : p ∈ os := by
      rcases List.mem_append.1 hp with hp | hp
      · exact List.mem_of_mem_take hp
      · exact List.mem_of_mem_drop hp
    exact (getH_mem hs hpo hpid).symm
  · rcases List.mem_or_eq_of_mem_set hp with hpo | rfl
    · exact (getH_mem hs hpo hpid).symm
    · exact (getH_at hs ho hpid).symm
theorem getH_zero {os : List HeldR} {k : Int} (hs : storeOk os = true) (h : usesH k os = 0) : getH k os = none := getH_none (usesH_zero hs h)
theorem drop_none {os : List HeldR} {j : Int} (hs : storeOk os = true) (h : usesH j os ≠ 0) : ∃ os', dropH j os = some os' := by
  obtain ⟨p, hp, hpid, -⟩ := usesH_pos hs h
  obtain ⟨i, hi⟩ := List.mem_iff_getElem?.1 hp
  rw [dropH_at hs hi hpid]
  split
  · exact ⟨_, rfl⟩
  · exact ⟨_, rfl⟩

/-! ### many steps -/
def countI (k : Int) (ks : List Int) : Int := ((ks.filter (fun x => x = k)).length : Nat)
theorem countI_cons (k j : Int) (ks : List Int) : countI k (j :: ks) = (if k = j then 1 else 0) + countI k ks := by
  unfold countI
  by_cases h : k = j
  · rw [if_pos h, List.filter_cons, if_pos (by simp [h])]; simp; omega
  · rw [if_neg h, List.filter_cons, if_neg (by simp; exact fun e => h e.symm)]; simp
theorem countI_pos (k : Int) (ks : List Int) : 0 ≤ countI k ks := by unfold countI; omega
theorem store_all : ∀ {bs : List (List Int)} {os os' : List HeldR} {ks : List Int}, storeOk os = true → storeAll bs os = some (os', ks) → storeOk os' = true ∧ ks.length = bs.length ∧ (∀ k, usesH k os' = usesH k os + countI k ks) ∧
    (∀ k b, getH k os = some b → getH k os' = some b) ∧ (∀ k, k ∉ ks → getH k os' = getH k os) ∧ ∀ (i : Nat) (k : Int), ks[i]? = some k → ∃ b, bs[i]? = some b ∧ getH k os' = some b
  | [], os, os', ks, hs, h => by
    simp only [storeAll, Option.some.injEq, Prod.mk.injEq] at h
    obtain ⟨rfl, rfl⟩ := h
    exact ⟨hs, rfl, fun k => by simp [countI], fun k b h => h, fun k _ => rfl, fun i k h => by simp at h⟩
  | b :: r, os, os', ks, hs, h => by
    rw [storeAll] at h
    rcases hp : putH b os with _ | ⟨os1, j⟩
    · rw [hp] at h; simp at h
    · rw [hp] at h
      simp only at h
      rcases ha : storeAll r os1 with _ | ⟨os2, js⟩
      · rw [ha] at h; simp at h
      · rw [ha] at h
        simp only [Option.some.injEq, Prod.mk.injEq] at h
        obtain ⟨rfl, rfl⟩ := h
        have hok1 := (putH_cases hp).2.2.1
        obtain ⟨h1, h2, h3, h4, h5, h6⟩ := store_all hok1 ha
        have pg := put_get hp
        refine ⟨h1, by simp [h2], fun k => ?_, fun k c hc => ?_, fun k hk => ?_, fun i k hi => ?_⟩
        · rw [h3, put_uses hp, countI_cons]; omega
        · refine h4 k c ?_
          rw [pg]
          split
          · rename_i e
            subst e
            rw [put_same hp hc]
          · exact hc
        · rw [h5 k (fun hm => hk (List.mem_cons_of_mem _ hm)), pg, if_neg (fun e => hk (by rw [e]; exact List.mem_cons_self))]
        · rcases i with _ | i
          · simp only [List.getElem?_cons_zero, Option.some.injEq] at hi
            subst hi
            exact ⟨b, rfl, h4 j b (by rw [pg, if_pos rfl])⟩
          · exact h6 i k (by simpa using hi)
theorem usesH_bound' {os : List HeldR} (hs : storeOk os = true) (k : Int) : 0 ≤ usesH k os ∧ usesH k os ≤ 999 := by
  rcases atH_cases k os with ⟨e, hn⟩ | ⟨i, o, e, ho, hid⟩
  · rw [usesH_none hn]; omega
  · rw [usesH_at hs ho hid]
    have := (storeOk_all hs).2.1 o (List.mem_of_getElem? ho)
    omega
theorem free_all : ∀ {ks : List Int} {os : List HeldR}, storeOk os = true → (∀ k, countI k ks ≤ usesH k os) → ∃ os', freeAll ks os = some os' ∧ storeOk os' = true ∧ (∀ k, usesH k os' = usesH k os - countI k ks) ∧ (∀ k, usesH k os' ≠ 0 → getH k os' = getH k os) ∧ os'.length ≤ os.length
  | [], os, hs, _ => ⟨os, rfl, hs, fun k => by simp [countI], fun k _ => rfl, Nat.le_refl _⟩
  | j :: r, os, hs, hc => by
    have hj := hc j
    rw [countI_cons, if_pos rfl] at hj
    have := countI_pos j r
    obtain ⟨os1, hd⟩ := drop_none hs (j := j) (by omega)
    have hok := dropH_ok hd
    have du := drop_uses hd
    obtain ⟨os2, h1, h2, h3, h4, h5⟩ := free_all (ks := r) hok fun k => by
      have := hc k
      rw [countI_cons] at this
      have e := du k
      have := countI_pos k r
      omega
    refine ⟨os2, by rw [freeAll, hd]; exact h1, h2, fun k => ?_, fun k hk => ?_, ?_⟩
    · rw [h3, du, countI_cons]; omega
    · rw [h4 k hk, drop_get hd k (by have h3' := h3 k; have := countI_pos k r; have := (usesH_bound' h2 k).1; intro e; rw [e] at h3'; omega)]
    · refine Nat.le_trans h5 ?_
      obtain ⟨-, i, o, ho, -, -, -, hh⟩ := dropH_cases hd
      rcases hh with ⟨-, rfl⟩ | ⟨-, rfl⟩
      · simp; omega
      · simp
theorem free_some : ∀ {ks : List Int} {os os' : List HeldR}, storeOk os = true → freeAll ks os = some os' → ∀ k, countI k ks ≤ usesH k os
  | [], os, os', hs, _, k => by have := (usesH_bound' hs k).1; simp [countI]; omega
  | j :: r, os, os', hs, h, k => by
    rw [freeAll] at h
    rcases hd : dropH j os with _ | os1
    · rw [hd] at h; simp at h
    · rw [hd] at h
      have := free_some (dropH_ok hd) h k
      rw [drop_uses hd] at this
      rw [countI_cons]; omega
/-! ### the statements' laws -/
theorem fileStoreH_cases {xs : List Int} {os os' : List HeldR} {ks : List Int} (h : fileStoreH xs os = some (os', ks)) : storeOk os = true ∧ fileOk xs = true ∧ storeAll (cuts xs) os = some (os', ks) := by
  rw [fileStoreH] at h
  split at h
  · rename_i hh; exact ⟨hh.1, hh.2, h⟩
  · simp at h
theorem fileOk_parts {xs : List Int} (h : fileOk xs = true) : xs.length ≤ 32 ∧ bytesOk xs = true := by
  simpa [fileOk] using h
theorem ids_of : ∀ {ks : List Int} {bs : List (List Int)} {os : List HeldR}, ks.length = bs.length → (∀ (i : Nat) (k : Int), ks[i]? = some k → ∃ b, bs[i]? = some b ∧ getH k os = some b) → (∀ (i : Nat) (b : List Int), bs[i]? = some b → i + 1 < bs.length → b.length = 8) → idsFrom ks os = true ∧ loadAll ks os = bs.flatten
  | [], [], os, _, _, _ => ⟨rfl, rfl⟩
  | [], _ :: _, os, h, _, _ => by simp at h
  | _ :: _, [], os, h, _, _ => by simp at h
  | k :: ks, b :: bs, os, hl, hg, hf => by
    obtain ⟨b', hb', hgb⟩ := hg 0 k rfl
    simp only [List.getElem?_cons_zero, Option.some.injEq] at hb'
    subst hb'
    obtain ⟨h1, h2⟩ := ids_of (ks := ks) (bs := bs) (os := os) (by simpa using hl) (fun i k hk => by
      obtain ⟨c, hc, hgc⟩ := hg (i + 1) k (by simpa using hk)
      exact ⟨c, by simpa using hc, hgc⟩) (fun i c hc hi => hf (i + 1) c (by simpa using hc) (by simp; omega))
    refine ⟨?_, ?_⟩
    · rw [idsFrom, hgb]
      simp only [h1, Bool.and_true, Bool.or_eq_true, decide_eq_true_eq]
      rcases ks with _ | ⟨k2, ks⟩
      · exact .inl rfl
      · exact .inr (hf 0 b rfl (by simp at hl; simp; omega))
    · rw [loadAll, List.flatMap_cons, hgb, List.flatten_cons, ← h2]
      rfl
/-- P28 -/
theorem law_fileStore {xs : List Int} {os os' : List HeldR} {ks : List Int} (h : fileStoreH xs os = some (os', ks)) : storeOk os' = true ∧ fileLoadH ks os' = some xs := by
  obtain ⟨hs, hf, ha⟩ := fileStoreH_cases h
  obtain ⟨hl, hb⟩ := fileOk_parts hf
  obtain ⟨h1, h2, h3, h4, h5, h6⟩ := store_all hs ha
  have hc := cuts_count xs
  obtain ⟨i1, i2⟩ := ids_of (os := os') h2 h6 fun i b hb hi => cuts_full hb hi
  refine ⟨h1, ?_⟩
  rw [fileLoadH, if_pos ⟨h1, by simp only [idsOk, i1, Bool.and_true, decide_eq_true_eq]; omega⟩, i2, cuts_join]
/-- P29 -/
theorem law_fileStoreFree {xs : List Int} {os os' : List HeldR} {ks : List Int} (h : fileStoreH xs os = some (os', ks)) : fileFreeH ks os' = some os := by
  obtain ⟨hs, hf, ha⟩ := fileStoreH_cases h
  obtain ⟨h1, h2, h3, h4, h5, h6⟩ := store_all hs ha
  have hc := cuts_count xs
  obtain ⟨hl, hb⟩ := fileOk_parts hf
  obtain ⟨i1, i2⟩ := ids_of (os := os') h2 h6 fun i b hb hi => cuts_full hb hi
  obtain ⟨os2, f1, f2, f3, f4, f5⟩ := free_all (ks := ks) h1 fun k => by rw [h3]; have := (usesH_bound' hs k).1; omega
  rw [fileFreeH, if_pos ⟨h1, by simp only [idsOk, i1, Bool.and_true, decide_eq_true_eq]; omega⟩, f1]
  have hu : ∀ k, usesH k os2 = usesH k os := fun k => by rw [f3, h3]; omega
  refine congrArg some (store_ext f2 hs hu fun k => ?_)
  by_cases hz : usesH k os2 = 0
  · rw [getH_zero f2 hz, getH_zero hs (by rw [← hu]; exact hz)]
  · rw [f4 k hz]
    obtain ⟨o, ho, hid, -⟩ := usesH_pos hs (k := k) (by rw [← hu]; exact hz)
    have := getH_mem hs ho hid
    rw [h4 k _ this, this]
theorem store_again : ∀ {bs : List (List Int)} {os os2 : List HeldR} {ks ks2 : List Int}, storeOk os = true → ks.length = bs.length → (∀ (i : Nat) (k : Int), ks[i]? = some k → ∃ b, bs[i]? = some b ∧ getH k os = some b) → storeAll bs os = some (os2, ks2) → ks2 = ks ∧ os2.length = os.length
  | [], os, os2, ks, ks2, hs, hl, _, h => by
    simp only [storeAll, Option.some.injEq, Prod.mk.injEq] at h
    obtain ⟨rfl, rfl⟩ := h
    obtain rfl : ks = [] := List.eq_nil_of_length_eq_zero (by simpa using hl)
    exact ⟨rfl, rfl⟩
  | b :: r, os, os2, [], ks2, hs, hl, _, h => by simp at hl
  | b :: r, os, os2, k :: ks, ks2, hs, hl, hg, h => by
    obtain ⟨b', hb', hgb⟩ := hg 0 k rfl
    simp only [List.getElem?_cons_zero, Option.some.injEq] at hb'
    subst hb'
    rw [storeAll] at h
    rcases hp : putH b os with _ | ⟨os1, j⟩
    · rw [hp] at h; simp at h
    · rw [hp] at h
      simp only at h
      rcases ha : storeAll r os1 with _ | ⟨os3, js⟩
      · rw [ha] at h; simp at h
      · rw [ha] at h
        simp only [Option.some.injEq, Prod.mk.injEq] at h
        obtain ⟨rfl, rfl⟩ := h
        obtain rfl := (law_get hgb).2 _ _ hp
        obtain ⟨-, -, hok, h4⟩ := putH_cases hp
        have hlen : os1.length = os.length := by
          obtain ⟨-, i, o, ho, hid, hob⟩ := getH_some hgb
          rcases h4 with ⟨i', o', ho', hx, hk, hu, rfl⟩ | ⟨hn, -⟩
          · simp
          · exact absurd hob (hn o (List.mem_of_getElem? ho))
        obtain ⟨e1, e2⟩ := store_again (ks := ks) hok (by simpa using hl) (fun i k hk => by
          obtain ⟨c, hc, hgc⟩ := hg (i + 1) k (by simpa using hk)
          refine ⟨c, by simpa using hc, ?_⟩
          rw [put_get hp]
          split
          · rename_i e
            subst e
            rw [hgb] at hgc
            exact hgc
          · exact hgc) ha
        exact ⟨by rw [e1], by rw [e2, hlen]⟩
/-- P30 -/
theorem law_fileTwice {xs : List Int} {os os' os2 : List HeldR} {ks ks2 : List Int} (h : fileStoreH xs os = some (os', ks)) (g : fileStoreH xs os' = some (os2, ks2)) : ks2 = ks ∧ os2.length = os'.length := by
  obtain ⟨hs, hf, ha⟩ := fileStoreH_cases h
  obtain ⟨h1, h2, h3, h4, h5, h6⟩ := store_all hs ha
  obtain ⟨-, -, gb⟩ := fileStoreH_cases g
  exact store_again h1 h2 h6 gb
theorem get_inj {os : List HeldR} {k j : Int} {b : List Int} (h : getH k os = some b) (g : getH j os = some b) : k = j := by
  obtain ⟨hs, i, o, ho, hid, hob⟩ := getH_some h
  obtain ⟨-, i', o', ho', hid', hob'⟩ := getH_some g
  have := bytes_at (storeOk_all hs).2.2 ho ho' (hob.trans hob'.symm)
  subst this
  rw [ho] at ho'
  obtain rfl := Option.some.inj ho'
  omega
/-- P31 -/
theorem law_fileMany {xs : List Int} {os os' : List HeldR} {ks : List Int} (h : fileStoreH xs os = some (os', ks)) : fileOk xs = true ∧ (cuts xs).length = ks.length ∧ ∀ (i j : Nat) (a b : List Int) (p q : Int), (cuts xs)[i]? = some a → (cuts xs)[j]? = some b → ks[i]? = some p → ks[j]? = some q → (a = b ↔ p = q) := by
  obtain ⟨hs, hf, ha⟩ := fileStoreH_cases h
  obtain ⟨h1, h2, h3, h4, h5, h6⟩ := store_all hs ha
  refine ⟨hf, h2.symm, fun i j a b p q ha hb hp hq => ?_⟩
  obtain ⟨a', ha', ga⟩ := h6 i p hp
  obtain ⟨b', hb', gb⟩ := h6 j q hq
  rw [ha] at ha'
  rw [hb] at hb'
  obtain rfl := Option.some.inj ha'
  obtain rfl := Option.some.inj hb'
  constructor
  · rintro rfl; exact get_inj ga gb
  · rintro rfl; rw [ga] at gb; exact Option.some.inj gb
theorem ids_blocks : ∀ {ks : List Int} {os : List HeldR}, idsFrom ks os = true → ∃ bs : List (List Int), bs.length = ks.length ∧ (∀ (i : Nat) (k : Int), ks[i]? = some k → ∃ b, bs[i]? = some b ∧ getH k os = some b) ∧ (∀ (i : Nat) (b : List Int), bs[i]? = some b → i + 1 < bs.length → b.length = 8) ∧ loadAll ks os = bs.flatten ∧ ∀ b ∈ bs, blockOk b = true
  | [], os, _ => ⟨[], rfl, fun i k h => by simp at h, fun i b h => by simp at h, rfl, by simp⟩
  | k :: ks, os, h => by
    rw [idsFrom] at h
    rcases hg : getH k os with _ | b
    · rw [hg] at h; simp at h
    · rw [hg] at h
      simp only [Bool.and_eq_true, Bool.or_eq_true, decide_eq_true_eq] at h
      obtain ⟨bs, h1, h2, h3, h4, h5⟩ := ids_blocks h.2
      refine ⟨b :: bs, by simp [h1], fun i j hj => ?_, fun i c hc hi => ?_, ?_, fun c hc => ?_⟩
      · rcases i with _ | i
        · simp only [List.getElem?_cons_zero, Option.some.injEq] at hj
          subst hj
          exact ⟨b, rfl, hg⟩
        · exact h2 i j (by simpa using hj)
      · rcases i with _ | i
        · simp only [List.getElem?_cons_zero, Option.some.injEq] at hc
          subst hc
          rcases h.1 with he | he
          · have : ks = [] := by simpa using he
            subst this
            simp at h1 hi; subst h1; simp at hi
          · exact he
        · exact h3 i c (by simpa using hc) (by simp at hi; omega)
      · rw [loadAll, List.flatMap_cons, hg, List.flatten_cons, ← h4]
        rfl
      · rcases List.mem_cons.1 hc with rfl | hc
        · exact (getH_ok hg).1
        · exact h5 c hc
theorem bytesOk_flatten {bs : List (List Int)} (h : ∀ b ∈ bs, blockOk b = true) : bytesOk bs.flatten = true := by
  rw [bytesOk_iff]
  intro x hx
  obtain ⟨b, hb, hxb⟩ := List.mem_flatten.1 hx
  have := h b hb
  simp only [blockOk, Bool.and_eq_true] at this
  exact (bytesOk_iff b).1 this.2 x hxb
theorem length_flatten {bs : List (List Int)} (h : ∀ b ∈ bs, blockOk b = true) : bs.flatten.length ≤ 8 * bs.length := by
  induction bs with
  | nil => simp
  | cons b r ih =>
    have := (blockOk_len (h b List.mem_cons_self)).2
    have := ih fun c hc => h c (List.mem_cons_of_mem _ hc)
    simp at this ⊢; omega
/-- P32 -/
theorem law_fileLoad {ks : List Int} {os : List HeldR} {xs : List Int} (h : fileLoadH ks os = some xs) : fileOk xs = true ∧ (cuts xs).length = ks.length ∧ ∀ (i : Nat) (k : Int), ks[i]? = some k → ∃ b, (cuts xs)[i]? = some b ∧ getH k os = some b := by
  rw [fileLoadH] at h
  split at h
  · rename_i hh
    obtain ⟨hs, hi⟩ := hh
    simp only [Option.some.injEq] at h
    simp only [idsOk, Bool.and_eq_true, decide_eq_true_eq] at hi
    obtain ⟨bs, h1, h2, h3, h4, h5⟩ := ids_blocks hi.2
    rw [h4] at h
    subst h
    have hc := cuts_flatten bs (fun b hb => blockOk_len (h5 b hb)) h3
    have hl := length_flatten h5
    refine ⟨by simp only [fileOk, Bool.and_eq_true, decide_eq_true_eq]; exact ⟨by omega, bytesOk_flatten h5⟩, by rw [hc, h1], fun i k hk => by rw [hc]; exact h2 i k hk⟩
  · simp at h
/-- P33 -/
theorem law_fileFree {ks : List Int} {os os' : List HeldR} (h : fileFreeH ks os = some os') : storeOk os' = true ∧ os'.length ≤ os.length ∧ ∀ o ∈ os, usesH o.id os' = o.uses - countI o.id ks := by
  rw [fileFreeH] at h
  split at h
  · rename_i hh
    obtain ⟨hs, hi⟩ := hh
    obtain ⟨os2, f1, f2, f3, f4, f5⟩ := free_all hs (free_some hs h)
    rw [h] at f1
    obtain rfl := Option.some.inj f1
    exact ⟨f2, f5, fun o ho => by rw [f3, usesH_mem hs ho rfl]⟩
  · simp at h
end Go.Proofs.YtipligidnoajfaaDoor
