/- What two trees differ in, in plain Lean; its order. -/
import Derived.Test.YtkffejommncinaaDoorTreeA
namespace Go.Proofs.YtkffejommncinaaDoor
open Go.RowKit

structure ChR where
  kind : Int
  item : ItemR
deriving DecidableEq
/-- one place of both: what is told of it -/
def diffs (a b : ItemR) : List ChR := if a.dir ≠ b.dir then [⟨2, a⟩, ⟨1, b⟩] else if a = b then [] else [⟨3, b⟩]
def chgs : List ItemR → List ItemR → List ChR
  | [], [] => []
  | a :: xs, [] => ⟨2, a⟩ :: chgs xs []
  | [], b :: ys => ⟨1, b⟩ :: chgs [] ys
  | a :: xs, b :: ys =>
    if sLt a.path b.path = true then ⟨2, a⟩ :: chgs xs (b :: ys)
    else if sLt b.path a.path = true then ⟨1, b⟩ :: chgs (a :: xs) ys
    else diffs a b ++ chgs xs ys
termination_by a b => a.length + b.length
def adjOk (c d : ChR) : Prop := sLt c.item.path d.item.path = true ∨ (c.item.path = d.item.path ∧ c.kind = 2 ∧ d.kind = 1)
def Adj : List ChR → Prop
  | [] => True
  | [_] => True
  | c :: d :: r => adjOk c d ∧ Adj (d :: r)
theorem adj_cons {c : ChR} : ∀ {l : List ChR}, (∀ d ∈ l, adjOk c d) → Adj l → Adj (c :: l)
  | [], _, _ => trivial
  | d :: _, h, g => ⟨h d List.mem_cons_self, g⟩
theorem adj_at : ∀ {l : List ChR} {i : Nat} {c d : ChR}, Adj l → l[i]? = some c → l[i + 1]? = some d → adjOk c d
  | [], _, _, _, _, hc, _ => by simp at hc
  | [_], 0, _, _, _, _, hd => by simp at hd
  | [_], _ + 1, _, _, _, hc, _ => by simp at hc
  | c :: d :: r, 0, _, _, h, hc, hd => by cases hc; cases hd; exact h.1
  | _ :: d :: r, i + 1, _, _, h, hc, hd => adj_at (l := d :: r) (i := i) h.2 hc hd
theorem mem_diffs {a b : ItemR} {c : ChR} (h : c ∈ diffs a b) : c.item = a ∨ c.item = b := by
  unfold diffs at h
  split at h
  · simp at h; rcases h with rfl | rfl
    · exact .inl rfl
    · exact .inr rfl
  · split at h
    · simp at h
    · simp at h; subst h; exact .inr rfl
theorem mem_chgs : ∀ (xs ys : List ItemR) (c : ChR), c ∈ chgs xs ys → c.item ∈ xs ∨ c.item ∈ ys
  | [], [], c, h => by simp [chgs] at h
  | a :: xs, [], c, h => by
    rw [chgs] at h
    rcases List.mem_cons.1 h with rfl | h
    · exact .inl List.mem_cons_self
    · exact (mem_chgs xs [] c h).imp (List.mem_cons_of_mem _) id
  | [], b :: ys, c, h => by
    rw [chgs] at h
    rcases List.mem_cons.1 h with rfl | h
    · exact .inr List.mem_cons_self
    · exact (mem_chgs [] ys c h).imp id (List.mem_cons_of_mem _)
  | a :: xs, b :: ys, c, h => by
    rw [chgs] at h
    split at h
    · rcases List.mem_cons.1 h with rfl | h
      · exact .inl List.mem_cons_self
      · exact (mem_chgs xs (b :: ys) c h).imp (List.mem_cons_of_mem _) id
    · split at h
      · rcases List.mem_cons.1 h with rfl | h
        · exact .inr List.mem_cons_self
        · exact (mem_chgs (a :: xs) ys c h).imp id (List.mem_cons_of_mem _)
      · rcases List.mem_append.1 h with h | h
        · rcases mem_diffs h with e | e
          · exact .inl (by rw [e]; exact List.mem_cons_self)
          · exact .inr (by rw [e]; exact List.mem_cons_self)
        · exact (mem_chgs xs ys c h).imp (List.mem_cons_of_mem _) (List.mem_cons_of_mem _)
termination_by xs ys => xs.length + ys.length
theorem sLt_eq {p q : List UInt8} (h1 : ¬ sLt p q = true) (h2 : ¬ sLt q p = true) : p = q := by
  exact sLt_total (by simpa using h1) (by simpa using h2)
theorem adj_chgs : ∀ (xs ys : List ItemR), Asc xs → Asc ys → Adj (chgs xs ys)
  | [], [], _, _ => by rw [chgs]; trivial
  | a :: xs, [], h, g => by
    rw [chgs]
    obtain ⟨h1, h2⟩ := List.pairwise_cons.1 h
    refine adj_cons (fun d hd => .inl ?_) (adj_chgs xs [] h2 g)
    rcases mem_chgs _ _ _ hd with e | e
    · exact h1 _ e
    · simp at e
  | [], b :: ys, h, g => by
    rw [chgs]
    obtain ⟨g1, g2⟩ := List.pairwise_cons.1 g
    refine adj_cons (fun d hd => .inl ?_) (adj_chgs [] ys h g2)
    rcases mem_chgs _ _ _ hd with e | e
    · simp at e
    · exact g1 _ e
  | a :: xs, b :: ys, h, g => by
    rw [chgs]
    obtain ⟨h1, h2⟩ := List.pairwise_cons.1 h
    obtain ⟨g1, g2⟩ := List.pairwise_cons.1 g
    split
    · rename_i hl
      refine adj_cons (fun d hd => .inl ?_) (adj_chgs xs (b :: ys) h2 g)
      rcases mem_chgs _ _ _ hd with e | e
      · exact h1 _ e
      · rcases List.mem_cons.1 e with e | e
        · rw [e]; exact hl
        · exact sLt_trans hl (g1 _ e)
    · rename_i hl
      split
      · rename_i hr
        refine adj_cons (fun d hd => .inl ?_) (adj_chgs (a :: xs) ys h g2)
        rcases mem_chgs _ _ _ hd with e | e
        · rcases List.mem_cons.1 e with e | e
          · rw [e]; exact hr
          · exact sLt_trans hr (h1 _ e)
        · exact g1 _ e
      · rename_i hr
        have he := sLt_eq hl hr
        have later : ∀ d ∈ chgs xs ys, sLt b.path d.item.path = true := fun d hd => by
          rcases mem_chgs _ _ _ hd with e | e
          · rw [← he]; exact h1 _ e
          · exact g1 _ e
        have ih := adj_chgs xs ys h2 g2
        unfold diffs
        split
        · refine adj_cons (fun d hd => ?_) (adj_cons (fun d hd => .inl (later d hd)) ih)
          rcases List.mem_cons.1 hd with rfl | hd
          · exact .inr ⟨he, rfl, rfl⟩
          · exact .inl (by rw [he]; exact later d hd)
        · split
          · exact ih
          · exact adj_cons (fun d hd => .inl (later d hd)) ih
termination_by xs ys => xs.length + ys.length
end Go.Proofs.YtkffejommncinaaDoor
