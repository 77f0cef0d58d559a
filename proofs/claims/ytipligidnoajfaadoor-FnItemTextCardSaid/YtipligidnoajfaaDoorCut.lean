/- A file divided into blocks: the program's FileCut and the reference's. -/
import Derived.Test.YtipligidnoajfaaDoorReader
import Derived.Test.YtipligidnoajfaaDoorBlocks
import Derived.Test.YtipligidnoajfaaDoorIn
import Derived.Test.YtipligidnoajfaaDoorAppend1
import Derived.Deep.LoopGhost
namespace Go.Proofs.YtipligidnoajfaaDoor
open Go.RowKit

/-- blocks of eight -/
def cuts : List Int → List (List Int)
  | [] => []
  | x :: r => (x :: r).take 8 :: cuts ((x :: r).drop 8)
termination_by xs => xs.length
decreasing_by simp; omega
theorem cuts_nil : cuts [] = [] := by rw [cuts]
theorem cuts_of {xs : List Int} (h : xs ≠ []) : cuts xs = xs.take 8 :: cuts (xs.drop 8) := by
  cases xs with
  | nil => exact absurd rfl h
  | cons x r => rw [cuts]
theorem cuts_total (xs : List Int) : total (cuts xs) = xs.length := by
  induction h : xs.length using Nat.strongRecOn generalizing xs with
  | ind n ih =>
    by_cases h0 : xs = []
    · subst h0; subst h; simp [cuts_nil, total]
    · rw [cuts_of h0, total_cons, ih (xs.drop 8).length (by simp; have : 0 < xs.length := List.length_pos_iff.2 h0; omega) _ rfl]
      simp; omega
theorem cuts_length (xs : List Int) : (cuts xs).length ≤ xs.length := by
  induction h : xs.length using Nat.strongRecOn generalizing xs with
  | ind n ih =>
    by_cases h0 : xs = []
    · subst h0; subst h; simp [cuts_nil]
    · have hp : 0 < xs.length := List.length_pos_iff.2 h0
      have := ih (xs.drop 8).length (by simp; omega) _ rfl
      rw [cuts_of h0]
      simp at this ⊢; omega

def CutPost (w : World) (r : List (List Int)) (b : Bool) (e : Ending) (w' : World) : Prop :=
  ∃ v, e = .returned (.tuple #[v, .bool b]) ∧ Blocks (fun j => w.heap.size ≤ j) w' v r ∧ New w w'

/-- the program's and the reference's answer -/
def cutOf (xs : List Int) : List (List Int) := if fileOk xs then cuts xs else []

set_option maxRecDepth 4000 in
set_option maxHeartbeats 400000 in
theorem specCuts {S : Nat → Prop} (v : Value) (xs : List Int) (w : World) (h : Ints S w v xs) (hl : xs.length ≤ 1000) :
    Calls Tryd.prog 48 #[v] w fun e w' => ∃ u, e = .returned u ∧ Blocks (fun j => w.heap.size ≤ j) w' u (cuts xs) ∧ New w w' := by
  have h0 := h
  obtain ⟨a, c, rfl, g1, ⟨g2, -⟩, g3, g4⟩ := h
  unfold maxLen at g2
  have hch := fun (k : Nat) (hk : xs.drop k ≠ []) => cuts_of hk
  have Hch := Lib.hid hch
  have hcl := cuts_length xs
  clear hch
  go_enter Tryd.func48, Tryd.ntmps48
  go_wp2_with fail
  go_loopg [3, 4] xs.length (fun gk s3 s4 wr => ∃ (k : Nat) (done : List (List Int)), gk = xs.length - k ∧ k ≤ xs.length + 7 ∧ s4 = .int .i64 k ∧ done ++ cuts (xs.drop k) = cuts xs ∧ Blocks (fun j => w.heap.size ≤ j) wr s3 done ∧ New w wr)
  case atStart => exact ⟨0, [], by omega, by omega, rfl, rfl, Blocks.empty _, (New.refl w).alloc _⟩
  case round =>
    obtain ⟨k, done, hgk, hk, rfl, hd, hb, hn⟩ := hrel
    have Hgk := Lib.hid hgk
    have Hd := Lib.hid hd
    have hdl : done.length + (cuts (xs.drop k)).length ≤ 1000 := by
      have := congrArg List.length hd
      rw [List.length_append] at this
      omega
    clear hgk hd
    by_cases hlt : k < xs.length
    · have hne : xs.drop k ≠ [] := by intro e; have := congrArg List.length e; simp at this; omega
      have hce := Hch.out k hne
      rw [hce] at hdl
      simp only [List.length_cons] at hdl
      have Hce := Lib.hid hce
      have hdl' : done.length ≤ 999 := by omega
      clear hce hne hdl
      rcases g4 with rfl | ⟨b, off, rfl, -, -, -⟩
      · simp at hlt
      have hck : ¬ c = k := by omega
      have hdr := h0.drop k (by omega)
      rw [if_neg hck] at hdr
      obtain ⟨vs, r1, r2⟩ := hb.old
      have hs4 := r1.lt
      have hs4' := r1.2
      have hsz := hn.size
      by_cases h8 : (k : Int) + 8 ≤ (xs.length : Int)
      · obtain ⟨E, hEi⟩ : ∃ E : Nat, (k : Int) + 8 = (E : Int) := ⟨k + 8, by omega⟩
        have hE2 : k ≤ E := by omega
        have hE3 : E ≤ xs.length := by omega
        have hE4 : (xs.drop k).take (E - k) = (xs.drop k).take 8 := by
          by_cases h8 : k + 8 ≤ xs.length
          · rw [show E - k = 8 from by omega]
          · rw [List.take_of_length_le (by simp <;> omega), List.take_of_length_le (by simp <;> omega)]
        have hE5 : xs.drop (k + 8) = (xs.drop k).drop 8 := by rw [List.drop_drop]
        have hsrc := fun (W : World) (n : New w W) => ((hdr.take (E - k) (by omega)).new n).src
        have Hsrc := Lib.hid hsrc
        have HE4 := Lib.hid hE4
        have HE5 := Lib.hid hE5
        have hke : (k : Int) ≤ (E : Int) := by omega
        have hec : (E : Int) ≤ (c : Int) := by omega
        have hm8 : ¬ ((k : Int) + 8 < 0) := by omega
        clear hE4 hE5 hsrc hdr h0
        have n0 : New w (wr.alloc (.cells #[] 3)) := hn.alloc _
        have f1 : ∀ (u1 : Value) (w1 : World), Row 3 1 (fun j => Value.ownBlock (.slice (some ⟨wr.heap.size, 0, none⟩) 0 0) = some j ∨ j = (wr.alloc (.cells #[] 3)).heap.size) w1 u1 (0 + (E - k)) ([] ++ ((xs.drop k).take (E - k)).map (Value.int .i64)) →
            Chg (fun j => Value.ownBlock (.slice (some ⟨wr.heap.size, 0, none⟩) 0 0) = some j) (wr.alloc (.cells #[] 3)) w1 → New wr w1 ∧ OwnInts 3 (fun j => wr.heap.size ≤ j) w1 u1 ((xs.drop k).take 8) := by
          intro u1 w1 q1 c1
          have n1 : New wr w1 := ((New.refl wr).alloc _).trans_chg c1 (fun j hj e => by have := own_some e; simp only at this; omega)
          have o1 := OwnNums.of_append (xs := []) (ys := (xs.drop k).take (E - k)) q1 (by simp) (fun x hx => g3 x (List.mem_of_mem_drop (List.mem_of_mem_take hx)))
          rw [HE4.out] at o1
          refine ⟨n1, o1.mono fun j _ hj => ?_⟩
          rcases hj with hj | hj
          · have := own_some hj; simp only at this; omega
          · simp at hj; omega
        have F1 := Lib.hid f1
        clear f1
        have tok1 : True := trivial
        go_wp2_with (first | (at_builtin; have _t := tok1; refine wpRow_append slInt _ _ rfl rfl _ 0 [] rfl (Row.empty _ _ _) _ (E - k) (c - k) _ rfl (Hsrc.out _ n0) (oneCells _ _) (by unfold maxLen; omega) (by omega) ?_; intro u1 w1 q1 c1; obtain ⟨n1, o1⟩ := F1.out u1 w1 q1 c1; clear tok1 _t q1 c1; obtain ⟨a5, c5, rfl, -, -⟩ := o1.shape) | (at_builtin; refine wpRow_append1 slInts _ _ rfl rfl _ done.length vs _ _ rfl (r1.new n1) rfl rfl (by omega) (by decide) ?_; intro v' w2 q2 c2))
        have q2' : Row 23 1 (fun j => u3.ownBlock = some j ∨ w1.heap.size < j) w2 v' (done.length + 1) (vs ++ [Value.slice a5 ((xs.drop k).take 8).length c5]) := by rw [show ((xs.drop k).take 8).length = min 8 (xs.length - k) from by simp]; exact q2
        have c2' : Chg (fun j => u3.ownBlock = some j) w1 w2 := c2
        have hs1 := n1.size
        have hb' := Blocks.snoc (S := fun j => w.heap.size ≤ j ∧ j < wr.heap.size) (T := fun j => wr.heap.size ≤ j) (r2.new n1) o1 q2' c2' (fun j hj => ⟨hs4' j hj, by have := hs4 j hj; omega⟩) (fun j hj hT => by omega)
        have n2 : New w w2 := (hn.trans n1).trans_chg c2' (fun j hj e => by have := (hs4' j e).1; omega)
        go_roundg (xs.length - (k + 8))
        case measure => rw [Hgk.out]; omega
        case rel =>
          refine ⟨k + 8, done ++ [(xs.drop k).take 8], rfl, by omega, by first | go_num | (congr 1; omega), ?_, hb'.mono (fun j hj hh => by rcases hh with hh | hh | hh <;> omega), n2⟩
          rw [HE5.out, ← Hd.out, Hce.out, List.append_assoc]
          rfl
      · skip
        have hE2 : k ≤ xs.length := by omega
        have hE3 : xs.length ≤ xs.length := by omega
        have hE4 : (xs.drop k).take (xs.length - k) = (xs.drop k).take 8 := by
          by_cases h8 : k + 8 ≤ xs.length
          · rw [show xs.length - k = 8 from by omega]
          · rw [List.take_of_length_le (by simp <;> omega), List.take_of_length_le (by simp <;> omega)]
        have hE5 : xs.drop (k + 8) = (xs.drop k).drop 8 := by rw [List.drop_drop]
        have hsrc := fun (W : World) (n : New w W) => ((hdr.take (xs.length - k) (by omega)).new n).src
        have Hsrc := Lib.hid hsrc
        have HE4 := Lib.hid hE4
        have HE5 := Lib.hid hE5
        have hke : (k : Int) ≤ (xs.length : Int) := by omega
        have hec : (xs.length : Int) ≤ (c : Int) := by omega
        have hm8 : ¬ ((k : Int) + 8 < 0) := by omega
        clear hE4 hE5 hsrc hdr h0
        have n0 : New w (wr.alloc (.cells #[] 3)) := hn.alloc _
        have f1 : ∀ (u1 : Value) (w1 : World), Row 3 1 (fun j => Value.ownBlock (.slice (some ⟨wr.heap.size, 0, none⟩) 0 0) = some j ∨ j = (wr.alloc (.cells #[] 3)).heap.size) w1 u1 (0 + (xs.length - k)) ([] ++ ((xs.drop k).take (xs.length - k)).map (Value.int .i64)) →
            Chg (fun j => Value.ownBlock (.slice (some ⟨wr.heap.size, 0, none⟩) 0 0) = some j) (wr.alloc (.cells #[] 3)) w1 → New wr w1 ∧ OwnInts 3 (fun j => wr.heap.size ≤ j) w1 u1 ((xs.drop k).take 8) := by
          intro u1 w1 q1 c1
          have n1 : New wr w1 := ((New.refl wr).alloc _).trans_chg c1 (fun j hj e => by have := own_some e; simp only at this; omega)
          have o1 := OwnNums.of_append (xs := []) (ys := (xs.drop k).take (xs.length - k)) q1 (by simp) (fun x hx => g3 x (List.mem_of_mem_drop (List.mem_of_mem_take hx)))
          rw [HE4.out] at o1
          refine ⟨n1, o1.mono fun j _ hj => ?_⟩
          rcases hj with hj | hj
          · have := own_some hj; simp only at this; omega
          · simp at hj; omega
        have F1 := Lib.hid f1
        clear f1
        have tok1 : True := trivial
        go_wp2_with (first | (at_builtin; have _t := tok1; refine wpRow_append slInt _ _ rfl rfl _ 0 [] rfl (Row.empty _ _ _) _ (xs.length - k) (c - k) _ rfl (Hsrc.out _ n0) (oneCells _ _) (by unfold maxLen; omega) (by omega) ?_; intro u1 w1 q1 c1; obtain ⟨n1, o1⟩ := F1.out u1 w1 q1 c1; clear tok1 _t q1 c1; obtain ⟨a5, c5, rfl, -, -⟩ := o1.shape) | (at_builtin; refine wpRow_append1 slInts _ _ rfl rfl _ done.length vs _ _ rfl (r1.new n1) rfl rfl (by omega) (by decide) ?_; intro v' w2 q2 c2))
        have q2' : Row 23 1 (fun j => u3.ownBlock = some j ∨ w1.heap.size < j) w2 v' (done.length + 1) (vs ++ [Value.slice a5 ((xs.drop k).take 8).length c5]) := by rw [show ((xs.drop k).take 8).length = min 8 (xs.length - k) from by simp]; exact q2
        have c2' : Chg (fun j => u3.ownBlock = some j) w1 w2 := c2
        have hs1 := n1.size
        have hb' := Blocks.snoc (S := fun j => w.heap.size ≤ j ∧ j < wr.heap.size) (T := fun j => wr.heap.size ≤ j) (r2.new n1) o1 q2' c2' (fun j hj => ⟨hs4' j hj, by have := hs4 j hj; omega⟩) (fun j hj hT => by omega)
        have n2 : New w w2 := (hn.trans n1).trans_chg c2' (fun j hj e => by have := (hs4' j e).1; omega)
        go_roundg (xs.length - (k + 8))
        case measure => rw [Hgk.out]; omega
        case rel =>
          refine ⟨k + 8, done ++ [(xs.drop k).take 8], rfl, by omega, by first | go_num | (congr 1; omega), ?_, hb'.mono (fun j hj hh => by rcases hh with hh | hh | hh <;> omega), n2⟩
          rw [HE5.out, ← Hd.out, Hce.out, List.append_assoc]
          rfl
    · have hnil : xs.drop k = [] := drop_end hlt
      have hdone : done = cuts xs := by rw [← Hd.out, hnil, cuts_nil, List.append_nil]
      clear hnil
      have Hdone := Lib.hid hdone
      clear hdone
      go_wp2_with fail
      go_ret
      refine ⟨_, rfl, ?_, hn⟩
      rw [← Hdone.out]
      exact hb

end Go.Proofs.YtipligidnoajfaaDoor
