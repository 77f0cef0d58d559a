/- The walk of FnItemText. -/
import Derived.Test.YtipligidnoajfaaDoorItemText
import Derived.Test.YtipligidnoajfaaDoorDrawItem
namespace Go.Proofs.YtipligidnoajfaaDoor
open Go.RowKit

theorem decs_last : ∀ n, n ≤ 40 → ∃ b : UInt8, b ≠ 47 ∧ (decs n).getLast? = some b ∧ (decs n).length ≤ 90 := by
  have h : ∀ n, n ≤ 40 → (match (decs n).getLast? with | some b => b != 47 | none => false) = true := by decide +kernel
  have h3 : ∀ n, n ≤ 40 → (decs n).length ≤ 90 := by decide +kernel
  intro n hn
  have h1 := h n hn
  rcases h2 : (decs n).getLast? with _ | b
  · rw [h2] at h1; simp at h1
  · rw [h2] at h1; exact ⟨b, by simpa using h1, rfl, h3 n hn⟩

/-- A line that is no empty text: longer than the path, begins with it, ends in a stroke just where it is a folder's. -/
theorem line_law {o : ItemR} {os : List HeldR} (h : textH o os ≠ []) : (textH o os).length ≤ o.path.length + 100 ∧ o.path.length < (textH o os).length ∧ (textH o os).take o.path.length = o.path ∧ ∃ b : UInt8, (textH o os)[(textH o os).length - 1]? = some b ∧ decide (b = 47) = o.dir := by
  unfold textH at h ⊢
  by_cases hc : storeOk os = true ∧ itemOk o = true ∧ idsOk o.ids os = true
  · rw [if_pos hc]
    unfold lineH
    rcases hd : o.dir with _ | _
    · simp only [Bool.false_eq_true, if_false]
      obtain ⟨b, hb, hl, hll⟩ := decs_last (loadAll o.ids os).length (by have := text_len hc.2.2; omega)
      refine ⟨by simp; omega, by simp, by simp, b, ?_, by simpa using hb⟩
      rw [← List.getLast?_eq_getElem?]
      rw [List.getLast?_append]
      rw [List.getLast?_cons, hl]
      rfl
    · simp only [if_true]
      refine ⟨by simp, by simp, by simp, 47, ?_, by simp⟩
      simp
  · rw [if_neg hc] at h
    exact absurd rfl h

set_option maxRecDepth 4000 in
set_option maxHeartbeats 4000000 in
theorem walkFnItemText (v : Value) (bs : List Int) (w : World) (h : Nums .u8 Any w v bs) :
    Calls Tryd.prog 4 #[v] w fun e w' => e = .returned (.bool true) ∧ New w w' := by
  have hdr := drawItem v bs w h
  have Hdr := Lib.hid hdr
  obtain ⟨a, c, rfl, g1, ⟨g2, -⟩, -, -⟩ := h
  unfold maxLen at g2
  clear hdr
  by_cases hbl : 1048576 < bs.length
  · have hbl' : (1048576 : Int) < bs.length := by omega
    go_enter Tryd.func4, Tryd.ntmps4
    go_wp2_with fail
    go_ret
    exact ⟨rfl, New.refl _⟩
  have hbl' : ¬ ((1048576 : Int) < bs.length) := by omega
  go_enter Tryd.func4, Tryd.ntmps4
  go_wp2_with fail
  refine Hdr.out.mono ?_
  rintro e w1 ⟨v1, os, u, o, rfl, hp, ho, hu, n1⟩
  have hlaw := line_law (o := o) (os := os)
  have him := fun (W : World) (n : New w1 W) => implItemText v1 os o u W (Recs.new ho n) (hu.new n) (by omega)
  have hsp := fun (W : World) (n : New w1 W) => specItemText v1 os o u W (Recs.new ho n) (hu.new n) (by omega)
  obtain ⟨l, d, xs⟩ := o
  simp only at hlaw him hsp hp hu ⊢
  generalize textH ⟨l, d, xs⟩ os = T at *
  obtain ⟨-, av, cv, rfl, -, hv2, -⟩ := ho
  obtain ⟨au, cu, rfl, -, -, -, -⟩ := hu
  have Hlaw := Lib.hid hlaw
  have Him := Lib.hid him
  have Hsp := Lib.hid hsp
  clear hlaw him hsp
  unfold txt at Him Hsp ⊢
  go_wp2_with fail
  have nb : New w1 (w1.alloc (.cells #[.string ⟨l.toArray⟩, .bool d, .slice au xs.length cu] 31)) := (New.refl w1).alloc _
  have b0 : (w1.alloc (.cells #[.string ⟨l.toArray⟩, .bool d, .slice au xs.length cu] 31)).cell? ⟨w1.heap.size, 0, none⟩ = some (.string ⟨l.toArray⟩) := by rw [cell_alloc]; rfl
  have b1 : (w1.alloc (.cells #[.string ⟨l.toArray⟩, .bool d, .slice au xs.length cu] 31)).cell? ⟨w1.heap.size, 1, none⟩ = some (.bool d) := by rw [cell_alloc]; rfl
  have b2 : (w1.alloc (.cells #[.string ⟨l.toArray⟩, .bool d, .slice au xs.length cu] 31)).cell? ⟨w1.heap.size, 2, none⟩ = some (.slice au xs.length cu) := by rw [cell_alloc]; rfl
  generalize w1.alloc (.cells #[.string ⟨l.toArray⟩, .bool d, .slice au xs.length cu] 31) = wb at *
  generalize w1.heap.size = g at *
  refine (Him.out _ nb).mono ?_
  rintro e w2 ⟨rfl, n2⟩
  replace b0 := n2.cell b0
  replace b1 := n2.cell b1
  replace b2 := n2.cell b2
  replace nb := nb.trans n2
  clear n2
  go_wp2_with fail
  refine (Hsp.out _ nb).mono ?_
  rintro e w3 ⟨rfl, n3⟩
  replace b0 := n3.cell b0
  replace b1 := n3.cell b1
  replace nb := n1.trans (nb.trans n3)
  clear n3 b2 n1
  by_cases hT : T = []
  · subst hT
    go_wp2_with fail
    go_ret
    exact ⟨rfl, nb⟩
  · obtain ⟨h5, h1, h2, b, h3, h4⟩ := Hlaw.out hT
    have h6 : (T.length : Int) ≤ 200 := by omega
    have h7 : (1 : Int) ≤ (T.length : Int) := by omega
    have hs : (⟨T.toArray⟩ : ByteArray).size = T.length := by show T.toArray.size = _; simp
    have he : T.isEmpty = false := by rw [List.isEmpty_eq_false_iff]; exact hT
    have hx : (((⟨T.toArray⟩ : ByteArray).extract 0 l.length).toList == l) = true := by
      have e1 := Lib.extract_data (⟨T.toArray⟩ : ByteArray) 0 l.length
      have e2 : (⟨T.toArray⟩ : ByteArray).data.toList = T := rfl
      rw [e2, List.drop_zero, Nat.sub_zero, h2] at e1
      rw [ByteArray.toList_eq, e1]
      simp
    have hidx : ∀ W : World, (Instr.index 9 (.string ⟨T.toArray⟩) (.int .i64 ((T.length : Int) - 1))).run Tryd.prog W = .ok (.int .u8 (b.toNat : Int)) W := fun W => by
      have hk : T.length - 1 < (⟨T.toArray⟩ : ByteArray).size := by rw [hs]; omega
      have e1 := Lib.data_getElem? (⟨T.toArray⟩ : ByteArray) (T.length - 1) hk
      have e2 : (⟨T.toArray⟩ : ByteArray).data.toList = T := rfl
      rw [e2, h3] at e1
      rw [run_index_string _ _ _ _ _ Tryd.underlying9, dif_pos ⟨by omega, by rw [hs]; omega⟩]
      have e3 : ((T.length : Int) - 1).toNat = T.length - 1 := by omega
      simp only [e3]
      rw [← Option.some.inj e1]
    have h1' : (l.length : Int) < (T.length : Int) := by omega
    have hpl : (0 : Int) ≤ (l.length : Int) := by omega
    have hml : (l.length : Int) ≤ (T.length : Int) := by omega
    go_wp2_with fail
    go_quiet (fail)
    go_wp2_with fail
    go_ret
    have hb47 : (((b.toNat : Int) == 47) == d) = true := by
      rw [← h4]
      by_cases hb : b = 47
      · subst hb; decide
      · have hne : ¬ ((b.toNat : Int) = 47) := fun e => by
          have e2 : b.toNat = (47 : UInt8).toNat := by
            have : (47 : UInt8).toNat = 47 := rfl
            omega
          exact hb (UInt8.toNat_inj.1 e2)
        simp [hb, hne]
    exact ⟨ret_bool hb47, nb.drewN _⟩
end Go.Proofs.YtipligidnoajfaaDoor
