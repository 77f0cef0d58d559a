/- A tree of nodes grows by a node: the memory; slices.Insert at the end. -/
import Derived.Test.YtkffejommncinaaDoorDirOf
namespace Go.Proofs.YtkffejommncinaaDoor
open Go.RowKit

theorem slPtr : SliceOf Tryd.prog 67 63 (.pointer none) 1 8 := by refine ⟨by kernel_rfl, by kernel_rfl, rfl, by decide⟩

theorem Forest.add {S : Nat → Prop} {w w' : World} {b : Key → Nat} {u kv : Key → Value} {ns ns' : List Nd} (F : Forest S w b u kv ns) {pd y : Nd} (hp : pd ∈ ns) (hf : ∀ x ∈ ns, x.key ≠ y.key) (hm : ∀ x, x ∈ ns' ↔ x ∈ ns ∨ x = y)
    (hk : ∀ x ∈ ns, x.key ≠ pd.key → kidsOf ns' x.key = kidsOf ns x.key) (hy : kidsOf ns' y.key = [])
    {nb : Nat} {uy v' : Value} (g : Chg (fun j => j = b pd.key ∨ (kv pd.key).ownBlock = some j) w w')
    (hnb : w.heap.size ≤ nb) (hcn : w'.heap[nb]? = some (.cells #[txt (nameOf y.key), .bool y.dir, uy, .slice none 0 0] 69))
    (hcp : w'.heap[b pd.key]? = some (.cells #[txt (nameOf pd.key), .bool pd.dir, u pd.key, v'] 69))
    (hids : OwnI (fun j => w.heap.size ≤ j ∧ j ≠ nb ∧ v'.ownBlock ≠ some j) w' uy y.ids)
    (hrow : Row 63 1 (fun j => (kv pd.key).ownBlock = some j ∨ (w.heap.size ≤ j ∧ j ≠ nb)) w' v' (kidsOf ns' pd.key).length ((kidsOf ns' pd.key).map fun k => .pointer (some ⟨if k = y.key then nb else b k, 0, none⟩)))
    (hu : ∀ x ∈ ns, x.key = pd.key → x = pd) :
    Forest (fun j => S j ∨ w.heap.size ≤ j) w' (fun k => if k = y.key then nb else b k) (fun k => if k = y.key then uy else u k) (fun k => if k = y.key then .slice none 0 0 else if k = pd.key then v' else kv k) ns' := by
  have hlt : ∀ x ∈ ns, b x.key < w.heap.size := fun x hx => F.lt hx
  have hkv : ∀ x ∈ ns, ∀ j, (kv x.key).ownBlock = some j → j < w.heap.size := fun x hx j hj => (F.row x hx).lt j hj
  have hv' : ∀ j, v'.ownBlock = some j → (kv pd.key).ownBlock = some j ∨ (w.heap.size ≤ j ∧ j ≠ nb) := fun j hj => hrow.2 j hj
  have hpy : pd.key ≠ y.key := hf pd hp
  have heq : ∀ x ∈ ns', x ∈ ns ∨ x = y := fun x hx => (hm x).1 hx
  -- the row of a node that was there
  have kvOf : ∀ x ∈ ns, (if x.key = y.key then (.slice none 0 0 : Value) else if x.key = pd.key then v' else kv x.key) = if x.key = pd.key then v' else kv x.key := fun x hx => if_neg (hf x hx)
  have rowS : ∀ x ∈ ns, ∀ j, (if x.key = pd.key then v' else kv x.key).ownBlock = some j → (kv x.key).ownBlock = some j ∨ (w.heap.size ≤ j ∧ j ≠ nb ∧ v'.ownBlock = some j ∧ x.key = pd.key) := by
    intro x hx j hj
    by_cases e : x.key = pd.key
    · rw [if_pos e] at hj
      rcases hv' j hj with h | h
      · exact .inl (by rw [e]; exact h)
      · exact .inr ⟨h.1, h.2, hj, e⟩
    · rw [if_neg e] at hj; exact .inl hj
  refine ⟨?_, ?_, ?_, ?_, ?_, ?_, ?_⟩
  · intro x hx
    rcases heq x hx with hx | rfl
    · simp only [if_neg (hf x hx)]
      by_cases e : x.key = pd.key
      · obtain rfl := hu x hx e
        simp only [if_true]; exact hcp
      · simp only [if_neg e]
        refine g.heap (F.cell x hx) (fun h => ?_)
        rcases h with h | h
        · exact e (F.inj x hx pd hp h)
        · exact F.ap1 pd hp x hx h
    · simp only [if_true]; exact hcn
  · intro x hx
    rcases heq x hx with hx | rfl
    · simp only [if_neg (hf x hx)]
      by_cases e : x.key = pd.key
      · obtain rfl := hu x hx e
        simp only [if_true]
        refine hrow.mono (fun j _ hj => ?_)
        rcases hj with hj | hj
        · exact .inl ((F.row x hp).2 j hj)
        · exact .inr hj.1
      · simp only [if_neg e]
        rw [hk x hx e]
        have hr := ((F.row x hx).own).chg g (fun j _ hj hT => by
          rcases hT with hT | hT
          · exact F.ap1 x hx pd hp (by rw [← hT]; exact hj.1)
          · exact e (F.ap2 x hx pd hp j hj.1 hT))
        have em : (kidsOf ns x.key).map (fun k => Value.pointer (some ⟨if k = y.key then nb else b k, 0, none⟩)) = (kidsOf ns x.key).map fun k => Value.pointer (some ⟨b k, 0, none⟩) := by
          refine List.map_congr_left fun k hk => ?_
          obtain ⟨z, hz, rfl, -⟩ := mem_kids.1 hk
          rw [if_neg (hf z hz)]
        rw [em]
        exact hr.mono (fun j _ hj => .inl hj.2.1)
    · simp only [if_true]
      rw [hy]
      exact Row.nil _ _ _ _
  · intro x hx
    rcases heq x hx with hx | rfl
    · simp only [if_neg (hf x hx)]
      have h1 := (F.ids x hx).mono (T := fun j => j < w.heap.size ∧ S j ∧ ∀ z ∈ ns, j ≠ b z.key ∧ (kv z.key).ownBlock ≠ some j) (fun j hj hh => ⟨hj, hh⟩)
      have h2 := h1.chg g (fun j _ hj hT => by
        rcases hT with hT | hT
        · exact (hj.2.2 pd hp).1 hT
        · exact (hj.2.2 pd hp).2 hT)
      refine h2.mono (fun j _ hj => ⟨.inl hj.2.1, fun z hz => ?_⟩)
      rcases heq z hz with hz | rfl
      · rw [if_neg (hf z hz), kvOf z hz]
        refine ⟨(hj.2.2 z hz).1, fun h => ?_⟩
        rcases rowS z hz j h with h | h
        · exact (hj.2.2 z hz).2 h
        · omega
      · simp only [if_true]
        exact ⟨by omega, by simp [Value.ownBlock]⟩
    · simp only [if_true]
      refine hids.mono (fun j _ hj => ⟨.inr hj.1, fun z hz => ?_⟩)
      rcases heq z hz with hz | rfl
      · rw [if_neg (hf z hz), kvOf z hz]
        refine ⟨fun e => ?_, fun h => ?_⟩
        · have := hlt z hz; omega
        · rcases rowS z hz j h with h | h
          · have := hkv z hz j h; omega
          · exact hj.2.2 h.2.2.1
      · simp only [if_true]
        exact ⟨hj.2.1, by simp [Value.ownBlock]⟩
  · intro x hx
    rcases heq x hx with hx | rfl
    · rw [if_neg (hf x hx)]; exact .inl (F.inS x hx)
    · rw [if_pos rfl]; exact .inr hnb
  · intro x hx z hz e
    rcases heq x hx with hx | rfl <;> rcases heq z hz with hz | rfl
    · rw [if_neg (hf x hx), if_neg (hf z hz)] at e; exact F.inj x hx z hz e
    · rw [if_neg (hf x hx), if_pos rfl] at e
      have := hlt x hx; omega
    · rw [if_neg (hf z hz), if_pos rfl] at e
      have := hlt z hz; omega
    · rfl
  · intro x hx z hz
    rcases heq x hx with hx | rfl
    · rw [kvOf x hx]
      intro h
      rcases heq z hz with hz | rfl
      · rw [if_neg (hf z hz)] at h
        rcases rowS x hx _ h with h | h
        · exact F.ap1 x hx z hz h
        · have := hlt z hz; omega
      · rw [if_pos rfl] at h
        rcases rowS x hx _ h with h | h
        · have := hkv x hx _ h; omega
        · exact h.2.1 rfl
    · simp [Value.ownBlock]
  · intro x hx z hz j h1 h2
    rcases heq x hx with hx | rfl
    · rcases heq z hz with hz | rfl
      · rw [kvOf x hx] at h1
        rw [kvOf z hz] at h2
        rcases rowS x hx j h1 with h1 | h1 <;> rcases rowS z hz j h2 with h2 | h2
        · exact F.ap2 x hx z hz j h1 h2
        · have := hkv x hx j h1; omega
        · have := hkv z hz j h2; omega
        · rw [h1.2.2.2, h2.2.2.2]
      · simp [Value.ownBlock] at h2
    · simp [Value.ownBlock] at h1

set_option maxRecDepth 4000 in
set_option maxHeartbeats 400000 in
theorem slInsertEnd {S : Nat → Prop} (v : Value) (n : Nat) (us : List Value) (nb k : Nat) (w : World) (h : Row 63 1 S w v n us) (hn : n ≤ 1000) (hc : w.cell? ⟨nb, 0, none⟩ = some (.pointer (some ⟨k, 0, none⟩))) :
    Calls Tryd.prog 85 #[v, .int .i64 n, .slice (some ⟨nb, 0, none⟩) 1 1] w fun e w' => ∃ v', e = .returned v' ∧
      Row 63 1 (fun j => v.ownBlock = some j ∨ j = w.heap.size) w' v' (n + 1) (us ++ [.pointer (some ⟨k, 0, none⟩)]) ∧ Chg (fun j => v.ownBlock = some j) w w' := by
  have h0 := h
  obtain ⟨a, c, rfl, h1, h2, -, h5⟩ := h.shape
  unfold maxLen at h2
  have hsrc : Src w (some ⟨nb, 0, none⟩) 1 1 1 [.pointer (some ⟨k, 0, none⟩)] := by
    refine ⟨rfl, by simp, fun ad e j x hx => ?_⟩
    cases e
    rcases j with _ | j
    · simp at hx; subst hx
      simpa [Addr.add] using hc
    · simp at hx
  clear hc
  rcases a with _ | ad
  · obtain rfl := h5 rfl
    obtain rfl : n = 0 := by omega
    go_enter Tryd.func85, Tryd.ntmps85
    go_wp2_with (at_builtin; refine wpRow_append slPtr _ _ rfl rfl (.slice none 0 0) 0 us rfl h0 (some ⟨nb, 0, none⟩) 1 1 [.pointer (some ⟨k, 0, none⟩)] rfl hsrc (by simp [Value.oneCell']) (by unfold maxLen; omega) (by omega) ?_; intro v1 w1 o1 c1)
    go_ret
    exact ⟨_, rfl, o1, c1⟩
  · clear h5
    go_enter Tryd.func85, Tryd.ntmps85
    go_wp2_with (at_builtin; refine wpRow_append slPtr _ _ rfl rfl (.slice (some ad) n c) n us rfl h0 (some ⟨nb, 0, none⟩) 1 1 [.pointer (some ⟨k, 0, none⟩)] rfl hsrc (by simp [Value.oneCell']) (by unfold maxLen; omega) (by omega) ?_; intro v1 w1 o1 c1)
    all_goals (go_ret; exact ⟨_, rfl, o1, c1⟩)
end Go.Proofs.YtkffejommncinaaDoor
