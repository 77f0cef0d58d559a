/- Items: markItemS, markItem, heldItem. -/
import Derived.Test.YtkffejommncinaaDoorItemsA
import Derived.Test.YtkffejommncinaaDoorBaseA
namespace Go.Proofs.YtkffejommncinaaDoor
open Go.RowKit

theorem itemFlds_get {os : List ItemR} {j : Nat} {o : ItemR} (h : os[j]? = some o) : (itemFlds os)[j * 3]? = some (.txt o.path) ∧ (itemFlds os)[j * 3 + 1]? = some (.bool o.dir) ∧ (itemFlds os)[j * 3 + 2]? = some (.nums o.ids) :=
  ⟨flds_get ItemR.flds 3 (fun _ => rfl) os (j := 0) h (by omega), flds_get ItemR.flds 3 (fun _ => rfl) os (j := 1) h (by omega), flds_get ItemR.flds 3 (fun _ => rfl) os (j := 2) h (by omega)⟩
theorem len_itemFlds (os : List ItemR) : (itemFlds os).length = os.length * 3 := flds_len ItemR.flds 3 (fun _ => rfl) os

set_option maxRecDepth 4000 in
set_option maxHeartbeats 1000000 in
theorem markItems {S : Nat → Prop} (v : Value) (os : List ItemR) (k : Int) (w : World) (h : OwnItems S w v os) (hk0 : 0 ≤ k) (hk1 : k ≤ 576460752303423488) (hr : sizes (itemFlds os) ≤ 288230376151711744) :
    Calls Tryd.prog 27 #[v, .int .i64 k] w fun e w' => e = .returned (.int .i64 (k + sizes (itemFlds os))) ∧ Chg S w w' ∧ OwnRecs 28 3 S w' v os.length (markF k (itemFlds os)) := by
  have h0 := h
  obtain ⟨a, c, rfl, h1, h2, -⟩ := h.shape
  unfold maxLen at h2
  go_enter Tryd.func27, Tryd.ntmps27
  go_wp2
  go_loopg [1, 5] os.length (fun gk q i wr => ∃ (j : Nat), gk = os.length - j ∧ j ≤ os.length ∧ i = .int .i64 j ∧ q = .int .i64 (k + sizes ((itemFlds os).take (j * 3))) ∧ Chg S w wr ∧ OwnRecs 28 3 S wr (.slice a os.length c) os.length (markedF k (itemFlds os) (j * 3)))
  case atStart => exact ⟨0, by omega, Nat.zero_le _, rfl, by simp [sizes], Chg.refl _ _, by rw [Nat.zero_mul, markedF_zero]; exact h0⟩
  case round =>
    obtain ⟨j, hgk, hj, rfl, rfl, hw, hb⟩ := hrel
    have Hgk := Lib.hid hgk
    clear hgk
    by_cases hlt : j < os.length
    · obtain ⟨o, hx⟩ := get_of hlt
      obtain ⟨g0, g1, g2⟩ := itemFlds_get hx
      have m0 := markedF_step (k := k) g0
      have m1 := markedF_step (k := k) g1
      have m2 := markedF_step (k := k) g2
      have s0 := sizes_take g0
      have s1 := sizes_take g1
      have s2 := sizes_take g2
      have sl := sizes_le (itemFlds os) (j * 3 + 2 + 1)
      have l0 : (markedF k (itemFlds os) (j * 3))[j * 3]? = _ := (markedF_later (k := k) (Nat.le_refl _)).trans g0
      have l1 : (markedF k (itemFlds os) (j * 3 + 1))[j * 3 + 1]? = _ := (markedF_later (k := k) (Nat.le_refl _)).trans g1
      have l2 : (markedF k (itemFlds os) (j * 3 + 1 + 1))[j * 3 + 2]? = _ := (markedF_later (k := k) (Nat.le_refl _)).trans g2
      simp only [Fld.mark, Fld.size] at m0 m1 m2 s0 s1 s2
      rw [s0] at m1 s1
      rw [s1] at m2 s2
      rw [show ∀ q : Nat, k + ((q + 1 : Nat) : Int) = k + q + 1 from fun q => by omega] at m1
      rw [show ∀ q : Nat, k + ((q + 1 + 1 : Nat) : Int) = k + q + 1 + 1 from fun q => by omega] at m2
      rw [s2] at sl
      generalize hq : sizes ((itemFlds os).take (j * 3)) = q at *
      obtain ⟨b, c', u0, e1, hS, hlb, hc0, hf0, ho0⟩ := hb.at l0
      simp only [Value.slice.injEq] at e1
      obtain ⟨rfl, -, rfl⟩ := e1
      have hcall := fun W => markText (k + q) W (by omega)
      have ml0 := markT_len (k := k + q) (by omega)
      unfold txt at hcall
      generalize hT0 : markT (k + q) = T0 at *
      have Hcall := Lib.hid hcall
      obtain ⟨B0, hB0, hB1⟩ : ∃ B0, decide ((k + q + 1) % 3 = 0) = B0 ∧ ((k + q + 1) % 3 == 0) = B0 := ⟨_, rfl, rfl⟩
      rw [hB0] at m1
      have hbl : (o.ids.length : Int) ≤ 288230376151711744 := by omega
      have Hm0 := Lib.hid m0
      have Hm1 := Lib.hid m1
      have Hm2 := Lib.hid m2
      have Hs2 := Lib.hid s2
      have Hl0 := Lib.hid l0
      have Hl1 := Lib.hid l1
      have Hl2 := Lib.hid l2
      clear hcall m0 m1 m2 s0 s1 s2 l0 l1 l2 g0 g1 g2 hx hq ho0 hc0 hf0 hT0 hB0
      go_wp2_with fail
      refine (Hcall.out _).mono ?_
      rintro e w2 ⟨rfl, n2⟩
      have b0 := hb.new n2
      obtain ⟨b', c', u0', e1, -, -, hc0, hf0, -⟩ := b0.at Hl0.out
      simp only [Value.slice.injEq, Option.some.injEq, Addr.mk.injEq] at e1
      obtain ⟨⟨rfl, -, -⟩, -, rfl⟩ := e1
      have b1 := b0.putTxt Hl0.out ml0
      rw [Hm0.out] at b1
      have cs1 := chg_set1 w2 b (j * 3) (txt T0)
      have cc1 : Chg S w (w2.setCell ⟨b, j * 3, none⟩ (txt T0)) := (hw.step n2 (fun _ _ hf => hf.elim)).step cs1 (fun i _ hi => by rw [hi]; exact hS)
      clear hb b0 cs1
      obtain ⟨w3, hw3⟩ : ∃ w3, w3 = w2.setCell ⟨b, j * 3, none⟩ (txt T0) := ⟨_, rfl⟩
      rw [← hw3] at b1 cc1
      obtain ⟨b', c', u1, e1, -, -, hc1, hf1, -⟩ := b1.at Hl1.out
      simp only [Value.slice.injEq, Option.some.injEq, Addr.mk.injEq] at e1
      obtain ⟨⟨rfl, -, -⟩, -, rfl⟩ := e1
      have b2 := b1.putBool (y := B0) Hl1.out
      rw [Hm1.out] at b2
      have cs2 := chg_set1 w3 b (j * 3 + 1) (.bool B0)
      have cc2 : Chg S w (w3.setCell ⟨b, j * 3 + 1, none⟩ (.bool B0)) := cc1.step cs2 (fun i _ hi => by rw [hi]; exact hS)
      clear b1 cs2 cc1
      obtain ⟨b', c', u2, e1, -, -, hc2, -, ho2⟩ := b2.at Hl2.out
      simp only [Value.slice.injEq, Option.some.injEq, Addr.mk.injEq] at e1
      obtain ⟨⟨rfl, -, -⟩, -, rfl⟩ := e1
      have hcall := markI u2 o.ids (k + q + 1 + 1) _ ho2 (by omega) (by omega) (by omega)
      rw [hw3] at hc1 hf1 hc2 hcall b2 cc2 ho2
      unfold txt at hc1 hf1 hc2 hcall b2 cc2 ho2
      have Hcall := Lib.hid hcall
      have Hc2 := Lib.hid hc2
      have hw3' := hw3
      clear hcall hw3' hw3
      go_wp2_with fail
      refine Hcall.out.mono ?_
      rintro e w4 ⟨rfl, c3, o3⟩
      have b3 := b2.putNums Hl2.out Hc2.out c3 (by simp) o3
      rw [Hm2.out] at b3
      have cc3 : Chg S w w4 := cc2.step c3 (fun i _ hi => (ho2.blk i hi).1.1)
      clear b2 cc2 ho2 o3 c3
      go_wp2_with fail
      go_roundg (os.length - (j + 1))
      case measure => rw [Hgk.out]; omega
      case rel =>
        refine ⟨j + 1, rfl, by omega, by go_num, ?_, cc3, ?_⟩
        · rw [show (j + 1) * 3 = j * 3 + 2 + 1 by omega, Hs2.out]; go_num
        · rw [show (j + 1) * 3 = j * 3 + 2 + 1 by omega]; exact b3
    · have ej : j = os.length := by omega
      rw [ej, markedF_all _ _ (by rw [len_itemFlds]; exact Nat.le_refl _)] at hb
      have e2 : (itemFlds os).take (j * 3) = itemFlds os := List.take_of_length_le (by rw [len_itemFlds]; omega)
      rw [e2]
      clear e2 ej
      go_wp2_with fail
      go_ret
      exact ⟨rfl, hw, hb⟩

set_option maxRecDepth 4000 in
set_option maxHeartbeats 400000 in
theorem markItem {S : Nat → Prop} (o : ItemR) (u : Value) (k : Int) (w : World) (h : OwnI S w u o.ids) (hk0 : 0 ≤ k) (hk1 : k ≤ 576460752303423488) (hr : o.ids.length ≤ 1048576) :
    Calls Tryd.prog 32 #[.agg #[txt o.path, .bool o.dir, u], .int .i64 k] w fun e w' => e = .returned (.int .i64 (k + o.ids.length)) ∧ Chg S w w' ∧ OwnI S w' u (upTo k o.ids.length) := by
  unfold txt
  have hb : ∀ j, blk u (.nums o.ids) = some j → S j := fun j hj => ((Fld.owns.blk (f := .nums o.ids) h) j hj).1
  have Hb := Lib.hid hb
  have hlt : ∀ j, blk u (.nums o.ids) = some j → j < w.heap.size := fun j hj => ((Fld.owns.blk (f := .nums o.ids) h) j hj).2
  have Hlt := Lib.hid hlt
  have hn := fun (W : World) (n : New w W) => h.chg n (fun _ _ _ hf => hf)
  have hcall := fun (W : World) (n : New w W) => markI u o.ids k W (hn W n) hk0 (by omega) (by omega)
  have Hcall := Lib.hid hcall
  have Hn := Lib.hid hn
  have n0 := fun ob => (New.refl w).alloc ob
  have N0 := Lib.hid n0
  obtain ⟨a, c, rfl, -, ⟨h2, -⟩, -, -⟩ := h.nums
  unfold maxLen at h2
  clear hb hlt hcall hn n0 h
  go_enter Tryd.func32, Tryd.ntmps32
  go_wp2_with fail
  refine (Hcall.out _ (N0.out _)).mono ?_
  rintro e w1 ⟨rfl, c1, o1⟩
  have cc := (New.chg (N0.out (.cells #[.string ⟨o.path.toArray⟩, .bool o.dir, .slice a o.ids.length c] 28)) S).step c1 (fun j _ hj => Hb.out j hj)
  have oo := o1 S (Hn.out _ (N0.out _))
  clear c1 o1
  go_wp2_with fail
  go_ret
  exact ⟨rfl, cc, oo⟩

end Go.Proofs.YtkffejommncinaaDoor
