/- The walk of the file's reader. -/
import Derived.Test.YtfhnhggmoplmiaaBytes
import Derived.StillTailTactics
namespace Go.Proofs.Ytfhnhggmoplmiaa
open Go.RowKit

/-- The reader at block g: the numbers xs that lie elsewhere, and a place. -/
def FR (g : Nat) (v : Value) (xs : List Int) (k : Nat) (w : World) : Prop :=
  w.heap[g]? = some (.cells #[v, .int .i64 k] 76 (0, 0)) ∧ Ints (fun j => j ≠ g) w v xs ∧ k ≤ xs.length ∧ xs.length ≤ 32

def NextPost (g : Nat) (v : Value) (xs : List Int) (k : Nat) (w : World) (e : Ending) (w' : World) : Prop :=
  ∃ v', e = .returned v' ∧ OwnInts 3 (fun j => w.heap.size ≤ j) w' v' ((xs.drop k).take 8) ∧ FR g v xs (min (k + 8) xs.length) w' ∧ Chg (fun j => j = g) w w'

set_option maxRecDepth 4000 in
set_option maxHeartbeats 400000 in
theorem readerNext (g : Nat) (v : Value) (xs : List Int) (k : Nat) (w : World) (h : FR g v xs k w) :
    Calls Try.prog 57 #[.pointer (some ⟨g, 0, none⟩)] w (NextPost g v xs k w) := by
  obtain ⟨h1, h2, h3, h4⟩ := h
  have h2' := h2
  obtain ⟨a, c, rfl, g1, ⟨g2, g3⟩, g4, g5⟩ := h2'
  unfold maxLen at g2
  have hc0 : w.cell? ⟨g, 0, none⟩ = some (.slice a xs.length c) := by simp [World.cell?, h1]
  have hc1 : w.cell? ⟨g, 1, none⟩ = some (.int .i64 k) := by simp [World.cell?, h1]
  have hf : w.frozen? ⟨g, 1, none⟩ = false := by simp [World.frozen?, h1]
  have H1 := Lib.hid h1
  have fin : ∀ (E : Nat) (w' : World) (v' : Value), E = min (k + 8) xs.length → Row 3 1 (fun j => j = w.heap.size) w' v' (0 + (E - k)) ([] ++ ((xs.drop k).take (E - k)).map (Value.int .i64)) → New w w' →
      NextPost g (.slice a xs.length c) xs k w (.returned v') (w'.setCell ⟨g, 1, none⟩ (.int .i64 E)) := by
    intro E w' v' hE hr hn
    have hg := (Array.getElem?_eq_some_iff.1 h1).1
    have o1 := OwnNums.of_append (xs := []) (ys := (xs.drop k).take (E - k)) hr (by simp) (fun x hx => h2.fits x (List.mem_of_mem_drop (List.mem_of_mem_take hx)))
    have cs : Chg (fun j => j = g) w' (w'.setCell ⟨g, 1, none⟩ (.int .i64 E)) := (Chg.refl _ _).setCell (a := ⟨g, 1, none⟩) _ (fun _ => rfl)
    have e1 : (xs.drop k).take (E - k) = (xs.drop k).take 8 := by
      by_cases h8 : k + 8 ≤ xs.length
      · rw [show E - k = 8 from by omega]
      · rw [List.take_of_length_le (by simp; omega), List.take_of_length_le (by simp; omega)]
    refine ⟨v', rfl, ?_, ⟨?_, ?_, by omega, h4⟩, (hn.chg _).trans cs⟩
    · rw [← e1]
      exact (o1.chg cs (fun j _ hj e => by omega)).mono (fun j _ hj => by omega)
    · have := hn.heap h1
      rw [← hE]
      simp [World.setCell, Array.getElem?_modify, this]
    · exact (h2.new hn).chg cs (fun j _ hj e => hj e)
  have Fin := Lib.hid fin
  clear h1 fin
  have hcut : ∀ (E : Nat) (ao : Option Addr), k ≤ E → E ≤ xs.length → (xs = [] ∨ ∃ b off, a = some ⟨b, off, none⟩ ∧ ao = if c = k then some ⟨b, off, none⟩ else some ⟨b, off + k, none⟩) → (ao = none → a = none) → ∀ n, Src (w.drewN n) ao (E - k) (c - k) 1 (((xs.drop k).take (E - k)).map (Value.int .i64)) := by
    intro E ao h5 h6 h7 h8 n
    rcases h7 with rfl | ⟨b, off, rfl, rfl⟩
    · refine ⟨by simp at h6 ⊢; omega, fun e => ?_, fun ad _ j u hu => by simp at hu⟩
      have := g3 (h8 e)
      simp at h6
      omega
    · have := ((h2.drop k h3).take (E - k) (by omega)).new ((New.refl w).drewN n)
      exact this.src
  have Hcut := Lib.hid hcut
  clear hcut g4 h2
  rcases g5 with rfl | ⟨b, off, rfl, -, -, -⟩
  · obtain rfl : k = 0 := by simpa using h3
    have hsrc := fun ao => Hcut.out 0 ao (Nat.le_refl _) (Nat.le_refl _) (.inl rfl)
    have fin := fun w' v' => Fin.out 0 w' v' rfl
    have Hsrc := Lib.hid hsrc
    have Fin' := Lib.hid fin
    clear hsrc fin Fin Hcut
    rcases a with _ | ⟨b, off, sp⟩
    · clear Hsrc
      go_enter Try.func57, Try.ntmps57
      go_wp2_with fail
      go_quiet (fail)
      go_wp2_with fail
      refine wp_region_still_tail 10 (by kernel_rfl) (by kernel_rfl) ?_
      simp only [List.take_succ_cons, List.take_zero, List.drop_succ_cons, List.drop_zero]
      change wpStill _ _ (w.drewN (nq + 1)) (fun a' => wpList _ _ _ _ a' (w.drewN (nq + 1))) _ _
      have hc0' : (w.drewN (nq + 1)).cell? ⟨g, 0, none⟩ = some (.slice none 0 c) := hc0
      have hc1' : (w.drewN (nq + 1)).cell? ⟨g, 1, none⟩ = some (.int .i64 0) := hc1
      have hcc : 0 ≤ c := Nat.zero_le _
      generalize hw3 : w.drewN (nq + 1) = w3 at hc0' hc1' ⊢
      have n3 : New w w3 := by rw [← hw3]; exact (New.refl w).drewN _
      have es : w3.heap.size = w.heap.size := by rw [← hw3]; rfl
      have Es := Lib.hid es
      clear hw3 es hc0 hc1 hf
      iterate 10 still_step
      refine wpStill_nil ?_
      have after : ∀ w1 : World, Chg (fun k => Value.ownBlock (.slice none 0 0) = some k) w3 w1 → New w w1 ∧ w1.cell? ⟨g, 1, none⟩ = some (.int .i64 0) ∧ w1.frozen? ⟨g, 1, none⟩ = false := by
        intro w1 c1
        have n1 : New w w1 := n3.trans_chg c1 (fun j _ hj => by simp [Value.ownBlock] at hj)
        have hh := n1.heap H1.out
        exact ⟨n1, by simp [World.cell?, hh], by simp [World.frozen?, hh]⟩
      have After := Lib.hid after
      have src : ∀ (ao : Option Addr) cc, (ao = none → cc = 0) → Src w3 ao 0 cc 1 ([] : List Value) := fun ao cc h => ⟨rfl, fun e => ⟨rfl, h e⟩, fun _ _ _ _ hu => by simp at hu⟩
      have Srcs := Lib.hid src
      clear after src
      go_wp2_with (at_builtin; refine wpRow_append slInt _ _ rfl rfl (.slice none 0 0) 0 [] rfl (Row.nil _ _ (fun _ => False) _) _ 0 _ _ rfl (Srcs.out _ _ ?_) (by simp) (by unfold maxLen; omega) (by omega) ?_; (intro e; first | rfl | (exfalso; split at e <;> simp at e) | simp at e); intro v1 w1 o1 c1; obtain ⟨n1, hd1, hf1⟩ := After.out w1 c1)
      go_ret
      refine Fin'.out _ _ (o1.mono (fun j _ hj => ?_)) n1
      rcases hj with hj | hj
      · simp [Value.ownBlock] at hj
      · rw [hj]; exact Es.out
    · clear Hsrc
      go_enter Try.func57, Try.ntmps57
      go_wp2_with fail
      go_quiet (fail)
      go_wp2_with fail
      refine wp_region_still_tail 10 (by kernel_rfl) (by kernel_rfl) ?_
      simp only [List.take_succ_cons, List.take_zero, List.drop_succ_cons, List.drop_zero]
      change wpStill _ _ (w.drewN (nq + 1)) (fun a' => wpList _ _ _ _ a' (w.drewN (nq + 1))) _ _
      have hc0' : (w.drewN (nq + 1)).cell? ⟨g, 0, none⟩ = some (.slice (some ⟨b, off, sp⟩) 0 c) := hc0
      have hc1' : (w.drewN (nq + 1)).cell? ⟨g, 1, none⟩ = some (.int .i64 0) := hc1
      have hcc : 0 ≤ c := Nat.zero_le _
      generalize hw3 : w.drewN (nq + 1) = w3 at hc0' hc1' ⊢
      have n3 : New w w3 := by rw [← hw3]; exact (New.refl w).drewN _
      have es : w3.heap.size = w.heap.size := by rw [← hw3]; rfl
      have Es := Lib.hid es
      clear hw3 es hc0 hc1 hf
      iterate 10 still_step
      refine wpStill_nil ?_
      have after : ∀ w1 : World, Chg (fun k => Value.ownBlock (.slice none 0 0) = some k) w3 w1 → New w w1 ∧ w1.cell? ⟨g, 1, none⟩ = some (.int .i64 0) ∧ w1.frozen? ⟨g, 1, none⟩ = false := by
        intro w1 c1
        have n1 : New w w1 := n3.trans_chg c1 (fun j _ hj => by simp [Value.ownBlock] at hj)
        have hh := n1.heap H1.out
        exact ⟨n1, by simp [World.cell?, hh], by simp [World.frozen?, hh]⟩
      have After := Lib.hid after
      have src : ∀ (ao : Option Addr) cc, (ao = none → cc = 0) → Src w3 ao 0 cc 1 ([] : List Value) := fun ao cc h => ⟨rfl, fun e => ⟨rfl, h e⟩, fun _ _ _ _ hu => by simp at hu⟩
      have Srcs := Lib.hid src
      clear after src
      go_wp2_with (at_builtin; refine wpRow_append slInt _ _ rfl rfl (.slice none 0 0) 0 [] rfl (Row.nil _ _ (fun _ => False) _) _ 0 _ _ rfl (Srcs.out _ _ ?_) (by simp) (by unfold maxLen; omega) (by omega) ?_; (intro e; first | rfl | (exfalso; split at e <;> simp at e) | simp at e); intro v1 w1 o1 c1; obtain ⟨n1, hd1, hf1⟩ := After.out w1 c1)
      go_ret
      refine Fin'.out _ _ (o1.mono (fun j _ hj => ?_)) n1
      rcases hj with hj | hj
      · simp [Value.ownBlock] at hj
      · rw [hj]; exact Es.out
  · clear g3
    by_cases h8 : (k : Int) + 8 ≤ (xs.length : Int)
    · obtain ⟨E, hEi⟩ : ∃ E : Nat, (k : Int) + 8 = (E : Int) := ⟨k + 8, by omega⟩
      have hke : k ≤ E := by omega
      have hke' : (k : Int) ≤ (E : Int) := by omega
      have hel : E ≤ xs.length := by omega
      have hec : (E : Int) ≤ (c : Int) := by omega
      have hem : E = min (k + 8) xs.length := by omega
      have hsrc := fun ao h => Hcut.out E ao hke hel (.inr ⟨b, off, rfl, h⟩)
      have fin := fun w' v' => Fin.out E w' v' hem
      have Hsrc := Lib.hid hsrc
      have Fin' := Lib.hid fin
      clear hsrc fin Fin Hcut hem
      go_enter Try.func57, Try.ntmps57
      go_wp2_with fail
      go_quiet (fail)
      go_wp2_with fail
      refine wp_region_still_tail 10 (by kernel_rfl) (by kernel_rfl) ?_
      simp only [List.take_succ_cons, List.take_zero, List.drop_succ_cons, List.drop_zero]
      change wpStill _ _ (w.drewN (nq + 1)) (fun a' => wpList _ _ _ _ a' (w.drewN (nq + 1))) _ _
      have hc0' : (w.drewN (nq + 1)).cell? ⟨g, 0, none⟩ = some (.slice (some ⟨b, off, none⟩) xs.length c) := hc0
      have hc1' : (w.drewN (nq + 1)).cell? ⟨g, 1, none⟩ = some (.int .i64 k) := hc1
      generalize hw3 : w.drewN (nq + 1) = w3 at hc0' hc1' ⊢
      have Hw3 := Lib.hid hw3
      clear hw3
      iterate 10 still_step
      refine wpStill_nil ?_
      obtain ⟨ao, hao⟩ : ∃ ao : Option Addr, ao = if c = k then some ⟨b, off, none⟩ else some ⟨b, off + k, none⟩ := ⟨_, rfl⟩
      rw [← hao]
      have src := Hsrc.out ao hao (by intro e; rw [hao] at e; split at e <;> simp at e) (nq + 1)
      rw [Hw3.out] at src
      have n3 : New w w3 := by rw [← Hw3.out]; exact (New.refl w).drewN _
      have Src := Lib.hid src
      have es : w3.heap.size = w.heap.size := by rw [← Hw3.out]; rfl
      have Es := Lib.hid es
      clear hao src hc0 hc1 hf hc0' hc1' es
      have after : ∀ w1 : World, Chg (fun k => Value.ownBlock (.slice none 0 0) = some k) w3 w1 → New w w1 ∧ w1.cell? ⟨g, 1, none⟩ = some (.int .i64 k) ∧ w1.frozen? ⟨g, 1, none⟩ = false := by
        intro w1 c1
        have n1 : New w w1 := n3.trans_chg c1 (fun j _ hj => by simp [Value.ownBlock] at hj)
        have hh := n1.heap H1.out
        exact ⟨n1, by simp [World.cell?, hh], by simp [World.frozen?, hh]⟩
      have After := Lib.hid after
      clear after
      go_wp2_with (at_builtin; refine wpRow_append slInt _ _ rfl rfl (.slice none 0 0) 0 [] rfl (Row.nil _ _ (fun _ => False) _) ao (E - k) (c - k) _ rfl Src.out (oneCells _ _) (by unfold maxLen; omega) (by omega) ?_; intro v1 w1 o1 c1; obtain ⟨n1, hd1, hf1⟩ := After.out w1 c1)
      go_ret
      refine Fin'.out _ _ (o1.mono (fun j _ hj => ?_)) n1
      rcases hj with hj | hj
      · simp [Value.ownBlock] at hj
      · rw [hj]; exact Es.out
    · skip
      have hke : k ≤ xs.length := by omega
      have hke' : (k : Int) ≤ (xs.length : Int) := by omega
      have hel : xs.length ≤ xs.length := by omega
      have hec : (xs.length : Int) ≤ (c : Int) := by omega
      have hem : xs.length = min (k + 8) xs.length := by omega
      have hsrc := fun ao h => Hcut.out xs.length ao hke hel (.inr ⟨b, off, rfl, h⟩)
      have fin := fun w' v' => Fin.out xs.length w' v' hem
      have Hsrc := Lib.hid hsrc
      have Fin' := Lib.hid fin
      clear hsrc fin Fin Hcut hem
      go_enter Try.func57, Try.ntmps57
      go_wp2_with fail
      go_quiet (fail)
      go_wp2_with fail
      refine wp_region_still_tail 10 (by kernel_rfl) (by kernel_rfl) ?_
      simp only [List.take_succ_cons, List.take_zero, List.drop_succ_cons, List.drop_zero]
      change wpStill _ _ (w.drewN (nq + 1)) (fun a' => wpList _ _ _ _ a' (w.drewN (nq + 1))) _ _
      have hc0' : (w.drewN (nq + 1)).cell? ⟨g, 0, none⟩ = some (.slice (some ⟨b, off, none⟩) xs.length c) := hc0
      have hc1' : (w.drewN (nq + 1)).cell? ⟨g, 1, none⟩ = some (.int .i64 k) := hc1
      generalize hw3 : w.drewN (nq + 1) = w3 at hc0' hc1' ⊢
      have Hw3 := Lib.hid hw3
      clear hw3
      iterate 10 still_step
      refine wpStill_nil ?_
      obtain ⟨ao, hao⟩ : ∃ ao : Option Addr, ao = if c = k then some ⟨b, off, none⟩ else some ⟨b, off + k, none⟩ := ⟨_, rfl⟩
      rw [← hao]
      have src := Hsrc.out ao hao (by intro e; rw [hao] at e; split at e <;> simp at e) (nq + 1)
      rw [Hw3.out] at src
      have n3 : New w w3 := by rw [← Hw3.out]; exact (New.refl w).drewN _
      have Src := Lib.hid src
      have es : w3.heap.size = w.heap.size := by rw [← Hw3.out]; rfl
      have Es := Lib.hid es
      clear hao src hc0 hc1 hf hc0' hc1' es
      have after : ∀ w1 : World, Chg (fun k => Value.ownBlock (.slice none 0 0) = some k) w3 w1 → New w w1 ∧ w1.cell? ⟨g, 1, none⟩ = some (.int .i64 k) ∧ w1.frozen? ⟨g, 1, none⟩ = false := by
        intro w1 c1
        have n1 : New w w1 := n3.trans_chg c1 (fun j _ hj => by simp [Value.ownBlock] at hj)
        have hh := n1.heap H1.out
        exact ⟨n1, by simp [World.cell?, hh], by simp [World.frozen?, hh]⟩
      have After := Lib.hid after
      clear after
      go_wp2_with (at_builtin; refine wpRow_append slInt _ _ rfl rfl (.slice none 0 0) 0 [] rfl (Row.nil _ _ (fun _ => False) _) ao (xs.length - k) (c - k) _ rfl Src.out (oneCells _ _) (by unfold maxLen; omega) (by omega) ?_; intro v1 w1 o1 c1; obtain ⟨n1, hd1, hf1⟩ := After.out w1 c1)
      go_ret
      refine Fin'.out _ _ (o1.mono (fun j _ hj => ?_)) n1
      rcases hj with hj | hj
      · simp [Value.ownBlock] at hj
      · rw [hj]; exact Es.out

end Go.Proofs.Ytfhnhggmoplmiaa
