/- HoldPut: the reference's. -/
import Derived.Test.YtapobonfnjgnoaaHoldSpec
namespace Go.Proofs.Ytapobonfnjgnoaa
open Go.RowKit

theorem len_snoc {α : Type} (l : List α) (x : α) : (l ++ [x]).length = l.length + 1 := by simp
theorem insH_ge {x o : HoldR} {r : List HoldR} (h : hLt x o = false) : insH x (o :: r) = o :: insH x r := by rw [insH, if_neg (by simp [h])]
theorem insH_lt {x o : HoldR} {r : List HoldR} (h : hLt x o = true) : insH x (o :: r) = x :: o :: r := by rw [insH, if_pos h]

set_option maxRecDepth 4000 in
set_option maxHeartbeats 4000000 in
theorem specPut {S : Nat → Prop} (v : Value) (os : List HoldR) (x : HoldR) (w : World) (h : Holds S w v os) (hs : ∀ o ∈ os, HSm o) (hx : HSm x) :
    Calls Try.prog 12 #[v, .agg #[.string ⟨x.snap.toArray⟩, .string ⟨x.tag.toArray⟩]] w (HoldPost (putR os x) w) := by
  have h0 := h
  have hsp := fun (W : World) (n : New w W) => specHolds v os W (h.new n) hs
  have hhas := fun (W : World) (n : New w W) => specHas v os x W (h.new n)
  have nbx := (New.refl w).alloc (.cells #[.string ⟨x.snap.toArray⟩, .string ⟨x.tag.toArray⟩] 25)
  have hbx := heap_alloc_new w (.cells #[.string ⟨x.snap.toArray⟩, .string ⟨x.tag.toArray⟩] 25)
  obtain ⟨-, a, c, rfl, h1, h2, -⟩ := h
  unfold maxLen at h2
  have hat := fun (W : World) (n : New w W) (k : Nat) (o : HoldR) (hk : os[k]? = some o) => Holds.at (Recs.new h0 n) hk
  have Hat := Lib.hid hat
  have Hsp := Lib.hid hsp
  have Hhas := Lib.hid hhas
  have Hs := Lib.hid hs
  have Hbx := Lib.hid hbx
  have Hsx := Lib.hid (fun W => specHold x W hx)
  have Hbef := Lib.hid specBefore
  have fin : ∀ W : World, New w W → putR os x = ([], false) → HoldPost (putR os x) w (.returned (.tuple #[.slice (some ⟨W.heap.size, 0, none⟩) 0 0, .bool false])) (W.alloc (.cells #[] 25)) := fun W n hr => by
    rw [hr]
    exact ⟨_, rfl, (OwnHolds.of_row (ss := []) (Row.empty 25 2 W) (by simp)).mono (fun j _ hj => by have := n.size; omega), n.alloc _⟩
  have Fin := Lib.hid fin
  clear hat hs hsp hhas hbx fin
  rcases hok : holdsOk os with _ | _
  · have Hr := Lib.hid (show putR os x = ([], false) by unfold putR; rw [if_neg (by simp [hok])])
    have hv := Hsp.out _ nbx
    rw [hok] at hv
    have Hv := Lib.hid hv
    clear hv hok
    go_enter Try.func12, Try.ntmps12
    go_wp2_with fail
    refine Hv.out.mono ?_
    rintro e w3 ⟨rfl, n3⟩
    go_wp2_with fail
    go_ret2
    exact Fin.out _ (nbx.trans n3) Hr.out
  have hlen := (holdsOk_pw hok).1
  have hv := Hsp.out _ nbx
  rw [hok] at hv
  have Hv := Lib.hid hv
  have Hok := Lib.hid hok
  clear hv hok
  rcases hxo : holdOk x with _ | _
  · have Hr := Lib.hid (show putR os x = ([], false) by unfold putR; rw [if_neg (by simp [hxo])])
    rw [hxo] at Hsx
    clear hxo
    go_enter Try.func12, Try.ntmps12
    go_wp2_with fail
    refine Hv.out.mono ?_
    rintro e w3 ⟨rfl, n3⟩
    have hb3 := n3.heap Hbx.out
    have c0 : w3.cell? ⟨w.heap.size, 0, none⟩ = some (.string ⟨x.snap.toArray⟩) := by unfold World.cell?; rw [hb3]; rfl
    have c1 : w3.cell? ⟨w.heap.size, 1, none⟩ = some (.string ⟨x.tag.toArray⟩) := by unfold World.cell?; rw [hb3]; rfl
    clear hb3
    go_wp2_with fail
    refine (Hsx.out _).mono ?_
    rintro e w4 ⟨rfl, n4⟩
    go_wp2_with fail
    go_ret2
    exact Fin.out _ ((nbx.trans n3).trans n4) Hr.out
  rw [hxo] at Hsx
  have Hxo := Lib.hid hxo
  clear hxo
  by_cases hin : x ∈ os
  · have Hr := Lib.hid (show putR os x = ([], false) by unfold putR; rw [if_neg (by simp [hin])])
    rw [decide_eq_true hin] at Hhas
    clear hin
    go_enter Try.func12, Try.ntmps12
    go_wp2_with fail
    refine Hv.out.mono ?_
    rintro e w3 ⟨rfl, n3⟩
    have hb3 := n3.heap Hbx.out
    have c0 : w3.cell? ⟨w.heap.size, 0, none⟩ = some (.string ⟨x.snap.toArray⟩) := by unfold World.cell?; rw [hb3]; rfl
    have c1 : w3.cell? ⟨w.heap.size, 1, none⟩ = some (.string ⟨x.tag.toArray⟩) := by unfold World.cell?; rw [hb3]; rfl
    clear hb3
    go_wp2_with fail
    refine (Hsx.out _).mono ?_
    rintro e w4 ⟨rfl, n4⟩
    have d0 := n4.cell c0
    have d1 := n4.cell c1
    go_wp2_with fail
    refine (Hhas.out _ ((nbx.trans n3).trans n4)).mono ?_
    rintro e w5 ⟨rfl, n5⟩
    go_wp2_with fail
    go_ret2
    exact Fin.out _ (((nbx.trans n3).trans n4).trans n5) Hr.out
  rw [decide_eq_false hin] at Hhas
  have Hin := Lib.hid hin
  clear hin
  by_cases h8 : os.length = 8
  · have Hr := Lib.hid (show putR os x = ([], false) by unfold putR; rw [if_neg (by simp [h8])])
    have h8' : ((os.length : Int) == 8) = true := by simp [h8]
    have H8 := Lib.hid h8
    clear h8
    go_enter Try.func12, Try.ntmps12
    go_wp2_with fail
    refine Hv.out.mono ?_
    rintro e w3 ⟨rfl, n3⟩
    have hb3 := n3.heap Hbx.out
    have c0 : w3.cell? ⟨w.heap.size, 0, none⟩ = some (.string ⟨x.snap.toArray⟩) := by unfold World.cell?; rw [hb3]; rfl
    have c1 : w3.cell? ⟨w.heap.size, 1, none⟩ = some (.string ⟨x.tag.toArray⟩) := by unfold World.cell?; rw [hb3]; rfl
    clear hb3
    go_wp2_with fail
    refine (Hsx.out _).mono ?_
    rintro e w4 ⟨rfl, n4⟩
    have d0 := n4.cell c0
    have d1 := n4.cell c1
    go_wp2_with fail
    refine (Hhas.out _ ((nbx.trans n3).trans n4)).mono ?_
    rintro e w5 ⟨rfl, n5⟩
    go_wp2_with fail
    go_ret2
    exact Fin.out _ (((nbx.trans n3).trans n4).trans n5) Hr.out
  have Hr := Lib.hid (show putR os x = (insH x os, true) by unfold putR; rw [if_pos ⟨Hok.out, Hxo.out, Hin.out, by omega⟩])
  have h8' : ((os.length : Int) == 8) = false := by simp; omega
  have H8 := Lib.hid h8
  clear h8
  go_enter Try.func12, Try.ntmps12
  go_wp2_with fail
  refine Hv.out.mono ?_
  rintro e w3 ⟨rfl, n3⟩
  have hb3 := n3.heap Hbx.out
  have c0 : w3.cell? ⟨w.heap.size, 0, none⟩ = some (.string ⟨x.snap.toArray⟩) := by unfold World.cell?; rw [hb3]; rfl
  have c1 : w3.cell? ⟨w.heap.size, 1, none⟩ = some (.string ⟨x.tag.toArray⟩) := by unfold World.cell?; rw [hb3]; rfl
  go_wp2_with fail
  refine (Hsx.out _).mono ?_
  rintro e w4 ⟨rfl, n4⟩
  have d0 := n4.cell c0
  have d1 := n4.cell c1
  go_wp2_with fail
  refine (Hhas.out _ ((nbx.trans n3).trans n4)).mono ?_
  rintro e w5 ⟨rfl, n5⟩
  have nw5 := ((nbx.trans n3).trans n4).trans n5
  have hb5 := (n4.trans n5).heap hb3
  have hemp := Row.empty 25 2 w5
  have HB6 := Lib.hid (((New.refl w5).alloc (.cells #[] 25)).heap hb5)
  have nw6 := nw5.alloc (.cells #[] 25)
  have hg5 : w.heap.size + 1 ≤ w5.heap.size := (Array.getElem?_eq_some_iff.1 hb5).1
  generalize hbs : w.heap.size = g at *
  have Hbs := Lib.hid hbs
  clear hb3 hb5 c0 c1 d0 d1 hbs nbx n3 n4 n5
  go_wp2_with fail
  go_loopg [6, 7, 8] os.length (fun gk s6 s7 i wr => ∃ (k : Nat) (d : Bool) (done : List HoldR), gk = os.length - k ∧ k ≤ os.length ∧ i = .int .i64 k ∧ s7 = .bool d ∧ wr.heap[g]? = some (.cells #[.string ⟨x.snap.toArray⟩, .string ⟨x.tag.toArray⟩] 25) ∧ New w wr ∧ Row 25 2 (fun j => g + 1 ≤ j) wr s6 done.length (holdCells done) ∧
    insH x os = done ++ (if d = true then os.drop k else insH x (os.drop k)))
  case atStart => exact ⟨0, false, [], by omega, by omega, rfl, rfl, HB6.out, nw6, hemp.mono (fun j _ hj => by omega), rfl⟩
  case round =>
    obtain ⟨k, d, done, hgk, hk, rfl, rfl, hbxr, hn, hrow, hins⟩ := hrel
    have Hgk := Lib.hid hgk
    have Hbxr := Lib.hid hbxr
    have hdl : done.length ≤ 9 := by
      have := congrArg List.length hins
      rw [insH_len, List.length_append] at this
      omega
    have Hins := Lib.hid hins
    have r0 : wr.cell? ⟨g, 0, none⟩ = some (.string ⟨x.snap.toArray⟩) := by unfold World.cell?; rw [hbxr]; rfl
    have r1 : wr.cell? ⟨g, 1, none⟩ = some (.string ⟨x.tag.toArray⟩) := by unfold World.cell?; rw [hbxr]; rfl
    have hgr : g + 1 ≤ wr.heap.size := (Array.getElem?_eq_some_iff.1 hbxr).1
    have hos := hrow.2
    have Hos := Lib.hid hos
    have Hg := Lib.hid (show w.heap.size ≤ g + 1 by rw [Hbs.out]; omega)
    obtain ⟨at3, cs, rfl, -⟩ := hrow.shape
    clear hgk hins hbxr hos
    by_cases hlt : k < os.length
    · obtain ⟨o, ho⟩ := get_of hlt
      obtain ⟨b, off, c', e1, hb, c0, c1, -, -⟩ := Hat.out wr hn k o ho
      simp only [Value.slice.injEq] at e1
      obtain ⟨rfl, -, rfl⟩ := e1
      have Hdrop := Lib.hid (drop_of ho)
      unfold txt at c0 c1
      have k0 : wr.drew.cell? ⟨g, 0, none⟩ = some (.string ⟨x.snap.toArray⟩) := r0
      have k1 : wr.drew.cell? ⟨g, 1, none⟩ = some (.string ⟨x.tag.toArray⟩) := r1
      have k2 : wr.drew.cell? ⟨b, off + k * 2, none⟩ = some (.string ⟨o.snap.toArray⟩) := c0
      have k3 : wr.drew.cell? ⟨b, off + k * 2 + 1, none⟩ = some (.string ⟨o.tag.toArray⟩) := c1
      have hnd := hn.drew
      have hrd := hrow.new (New.refl wr).drew
      have Ho := Lib.hid ho
      clear ho hrow
      rcases d with _ | _
      · have hbef := fun W => Hbef.out x o W
        unfold txt at hbef
        rcases hl : hLt x o with _ | _
        · have Hst := Lib.hid (show insH x os = (done ++ [o]) ++ (if false = true then os.drop (k + 1) else insH x (os.drop (k + 1))) by
            rw [Hins.out, Hdrop.out, insH_ge hl]; simp)
          rw [hl] at hbef
          have Hb := Lib.hid hbef
          clear hl hbef
          go_wp2_with fail
          refine wp_region_held_drew (S := (fun w' => (w'.cell? ⟨g, 0, none⟩ = some (.string ⟨x.snap.toArray⟩) ∧ w'.cell? ⟨g, 1, none⟩ = some (.string ⟨x.tag.toArray⟩)) ∧ w'.cell? ⟨b, off + k * 2, none⟩ = some (.string ⟨o.snap.toArray⟩) ∧ w'.cell? ⟨b, off + k * 2 + 1, none⟩ = some (.string ⟨o.tag.toArray⟩))) (by kernel_rfl) ?_ (fun hHeld => ?_)
          · exact ⟨⟨k0, k1⟩, k2, k3⟩
          refine wpAnyH_take (i := 0) (v := ?_) (oi := ?_) ?hi_1 ?hs_1 ?hf_1 ?hr_1 ?hQ_1 ?hy_1 ?hS_1 ?h_1
          case hi_1 => (simp only [List.getElem?_toArray, List.getElem?_cons_zero] <;> rfl)
          case hs_1 => kernel_rfl
          case hf_1 => kernel_rfl
          case hr_1 => kernel_rfl
          case hQ_1 => exact fun _ _ _ h => h
          case hy_1 => (refine Or.inl ⟨by rfl, ?_⟩; intro w hSw; (try dsimp only at hSw); go_simp; try with_reducible rfl)
          case hS_1 => assumption
          try go_frame
          refine wpAnyH_take (i := 1) (v := ?_) (oi := ?_) ?hi_2 ?hs_2 ?hf_2 ?hr_2 ?hQ_2 ?hy_2 ?hS_2 ?h_2
          case hi_2 => (simp only [List.getElem?_toArray, List.getElem?_cons_zero, List.getElem?_cons_succ] <;> rfl)
          case hs_2 => kernel_rfl
          case hf_2 => kernel_rfl
          case hr_2 => kernel_rfl
          case hQ_2 => exact fun _ _ _ h => h
          case hy_2 => (refine Or.inl ⟨by rfl, ?_⟩; intro w hSw; (try dsimp only at hSw); go_simp; try with_reducible rfl)
          case hS_2 => assumption
          try go_frame
          refine wpAnyH_take (i := 2) (v := ?_) (oi := ?_) ?hi_3 ?hs_3 ?hf_3 ?hr_3 ?hQ_3 ?hy_3 ?hS_3 ?h_3
          case hi_3 => (simp only [List.getElem?_toArray, List.getElem?_cons_zero, List.getElem?_cons_succ] <;> rfl)
          case hs_3 => kernel_rfl
          case hf_3 => kernel_rfl
          case hr_3 => kernel_rfl
          case hQ_3 => exact fun _ _ _ h => h
          case hy_3 => (refine Or.inl ⟨by rfl, ?_⟩; intro w hSw; (try dsimp only at hSw); go_simp; try with_reducible rfl)
          case hS_3 => assumption
          try go_frame
          refine wpAnyH_take (i := 3) (v := ?_) (oi := ?_) ?hi_4 ?hs_4 ?hf_4 ?hr_4 ?hQ_4 ?hy_4 ?hS_4 ?h_4
          case hi_4 => (simp only [List.getElem?_toArray, List.getElem?_cons_zero, List.getElem?_cons_succ] <;> rfl)
          case hs_4 => kernel_rfl
          case hf_4 => kernel_rfl
          case hr_4 => kernel_rfl
          case hQ_4 => exact fun _ _ _ h => h
          case hy_4 => (refine Or.inl ⟨by rfl, ?_⟩; intro w hSw; (try dsimp only at hSw); go_simp; try with_reducible rfl)
          case hS_4 => assumption
          try go_frame
          refine wpAnyH_take (i := 4) (v := ?_) (oi := ?_) ?hi_5 ?hs_5 ?hf_5 ?hr_5 ?hQ_5 ?hy_5 ?hS_5 ?h_5
          case hi_5 => (simp only [List.getElem?_toArray, List.getElem?_cons_zero, List.getElem?_cons_succ] <;> rfl)
          case hs_5 => kernel_rfl
          case hf_5 => kernel_rfl
          case hr_5 => kernel_rfl
          case hQ_5 => exact fun _ _ _ h => h
          case hy_5 => (refine Or.inl ⟨by rfl, ?_⟩; intro w hSw; (try dsimp only at hSw); go_simp; try with_reducible rfl)
          case hS_5 => assumption
          try go_frame
          refine wpAnyH_take (i := 5) (v := ?_) (oi := ?_) ?hi_6 ?hs_6 ?hf_6 ?hr_6 ?hQ_6 ?hy_6 ?hS_6 ?h_6
          case hi_6 => (simp only [List.getElem?_toArray, List.getElem?_cons_zero, List.getElem?_cons_succ] <;> rfl)
          case hs_6 => kernel_rfl
          case hf_6 => kernel_rfl
          case hr_6 => kernel_rfl
          case hQ_6 => exact fun _ _ _ h => h
          case hy_6 => (refine Or.inl ⟨by rfl, ?_⟩; intro w hSw; (try dsimp only at hSw); go_simp; try with_reducible rfl)
          case hS_6 => assumption
          try go_frame
          refine wpAnyH_take (i := 6) (v := ?_) (oi := ?_) ?hi_7 ?hs_7 ?hf_7 ?hr_7 ?hQ_7 ?hy_7 ?hS_7 ?h_7
          case hi_7 => (simp only [List.getElem?_toArray, List.getElem?_cons_zero, List.getElem?_cons_succ] <;> rfl)
          case hs_7 => kernel_rfl
          case hf_7 => kernel_rfl
          case hr_7 => kernel_rfl
          case hQ_7 => exact fun _ _ _ h => h
          case hy_7 => (refine Or.inl ⟨by rfl, ?_⟩; intro w hSw; (try dsimp only at hSw); go_simp; try with_reducible rfl)
          case hS_7 => assumption
          try go_frame
          refine wpAnyH_take (i := 7) (v := ?_) (oi := ?_) ?hi_8 ?hs_8 ?hf_8 ?hr_8 ?hQ_8 ?hy_8 ?hS_8 ?h_8
          case hi_8 => (simp only [List.getElem?_toArray, List.getElem?_cons_zero, List.getElem?_cons_succ] <;> rfl)
          case hs_8 => kernel_rfl
          case hf_8 => kernel_rfl
          case hr_8 => kernel_rfl
          case hQ_8 => exact fun _ _ _ h => h
          case hy_8 => (refine Or.inl ⟨by rfl, ?_⟩; intro w hSw; (try dsimp only at hSw); go_simp; try with_reducible rfl)
          case hS_8 => assumption
          try go_frame
          refine wpAnyH_ready (rs := [8]) (by kernel_rfl) (by simp) ?_
          refine AllReadyH.cons (o := ?_) ?hi_9 (fun K hK => ?h_9) AllReadyH.nil
          case hi_9 => (simp only [List.getElem?_toArray, List.getElem?_cons_zero, List.getElem?_cons_succ] <;> rfl)
          go_simp
          (refine (Hb.out _).mono ?_; rintro e w2 ⟨rfl, n2⟩; go_wp2_with fail)
          refine hK.out _ _ ?_ (fun hHeld => ?_)
          · exact ⟨⟨n2.cell k0, n2.cell k1⟩, n2.cell k2, n2.cell k3⟩
          clear hK K
          try go_frame
          refine wpAnyH_take (i := 9) (v := ?_) (oi := ?_) ?hi_10 ?hs_10 ?hf_10 ?hr_10 ?hQ_10 ?hy_10 ?hS_10 ?h_10
          case hi_10 => (simp only [List.getElem?_toArray, List.getElem?_cons_zero, List.getElem?_cons_succ] <;> rfl)
          case hs_10 => kernel_rfl
          case hf_10 => kernel_rfl
          case hr_10 => kernel_rfl
          case hQ_10 => exact fun _ _ _ h => h
          case hy_10 => (refine Or.inl ⟨by rfl, ?_⟩; intro w hSw; (try dsimp only at hSw); go_simp; try with_reducible rfl)
          case hS_10 => assumption
          try go_frame
          refine wpAnyH_done (by kernel_rfl) ?_ _
          have m0 := n2.cell k0
          have m1 := n2.cell k1
          have m2 := n2.cell k2
          have m3 := n2.cell k3
          have hr2 := hrd.new n2
          have Hb2 := Lib.hid (n2.heap (show wr.drew.heap[g]? = _ from Hbxr.out))
          go_wp2_with (at_builtin; refine wpRow_appendRec slHold _ _ rfl rfl (.slice at3 done.length cs) done.length (holdCells done) [.string ⟨o.snap.toArray⟩, .string ⟨o.tag.toArray⟩] 25 rfl hr2 rfl (by intro u hu; simp at hu; rcases hu with rfl | rfl <;> rfl) rfl (by omega) (by decide) ?_; intro v' w6 q1 ch1)
          obtain ⟨q2, n6, hold6⟩ := app_hold (wr := w2) (g + 1) Hg.out (Array.getElem?_eq_some_iff.1 Hb2.out).1 (hnd.trans n2) Hos.out q1 ch1
          have Hb6 := Lib.hid (hold6 g _ (by omega) Hb2.out)
          clear q1 ch1 hold6
          go_roundg (os.length - (k + 1))
          case measure => rw [Hgk.out]; omega
          case rel => exact ⟨k + 1, false, done ++ [o], rfl, by omega, by go_num, rfl, Hb6.out, n6, q2, Hst.out⟩
        · have Hst := Lib.hid (show insH x os = ((done ++ [x]) ++ [o]) ++ (if true = true then os.drop (k + 1) else insH x (os.drop (k + 1))) by
            rw [Hins.out, Hdrop.out, insH_lt hl]; simp)
          rw [hl] at hbef
          have Hb := Lib.hid hbef
          clear hl hbef
          go_wp2_with fail
          refine wp_region_held_drew (S := (fun w' => (w'.cell? ⟨g, 0, none⟩ = some (.string ⟨x.snap.toArray⟩) ∧ w'.cell? ⟨g, 1, none⟩ = some (.string ⟨x.tag.toArray⟩)) ∧ w'.cell? ⟨b, off + k * 2, none⟩ = some (.string ⟨o.snap.toArray⟩) ∧ w'.cell? ⟨b, off + k * 2 + 1, none⟩ = some (.string ⟨o.tag.toArray⟩))) (by kernel_rfl) ?_ (fun hHeld => ?_)
          · exact ⟨⟨k0, k1⟩, k2, k3⟩
          refine wpAnyH_take (i := 0) (v := ?_) (oi := ?_) ?hi_11 ?hs_11 ?hf_11 ?hr_11 ?hQ_11 ?hy_11 ?hS_11 ?h_11
          case hi_11 => (simp only [List.getElem?_toArray, List.getElem?_cons_zero] <;> rfl)
          case hs_11 => kernel_rfl
          case hf_11 => kernel_rfl
          case hr_11 => kernel_rfl
          case hQ_11 => exact fun _ _ _ h => h
          case hy_11 => (refine Or.inl ⟨by rfl, ?_⟩; intro w hSw; (try dsimp only at hSw); go_simp; try with_reducible rfl)
          case hS_11 => assumption
          try go_frame
          refine wpAnyH_take (i := 1) (v := ?_) (oi := ?_) ?hi_12 ?hs_12 ?hf_12 ?hr_12 ?hQ_12 ?hy_12 ?hS_12 ?h_12
          case hi_12 => (simp only [List.getElem?_toArray, List.getElem?_cons_zero, List.getElem?_cons_succ] <;> rfl)
          case hs_12 => kernel_rfl
          case hf_12 => kernel_rfl
          case hr_12 => kernel_rfl
          case hQ_12 => exact fun _ _ _ h => h
          case hy_12 => (refine Or.inl ⟨by rfl, ?_⟩; intro w hSw; (try dsimp only at hSw); go_simp; try with_reducible rfl)
          case hS_12 => assumption
          try go_frame
          refine wpAnyH_take (i := 2) (v := ?_) (oi := ?_) ?hi_13 ?hs_13 ?hf_13 ?hr_13 ?hQ_13 ?hy_13 ?hS_13 ?h_13
          case hi_13 => (simp only [List.getElem?_toArray, List.getElem?_cons_zero, List.getElem?_cons_succ] <;> rfl)
          case hs_13 => kernel_rfl
          case hf_13 => kernel_rfl
          case hr_13 => kernel_rfl
          case hQ_13 => exact fun _ _ _ h => h
          case hy_13 => (refine Or.inl ⟨by rfl, ?_⟩; intro w hSw; (try dsimp only at hSw); go_simp; try with_reducible rfl)
          case hS_13 => assumption
          try go_frame
          refine wpAnyH_take (i := 3) (v := ?_) (oi := ?_) ?hi_14 ?hs_14 ?hf_14 ?hr_14 ?hQ_14 ?hy_14 ?hS_14 ?h_14
          case hi_14 => (simp only [List.getElem?_toArray, List.getElem?_cons_zero, List.getElem?_cons_succ] <;> rfl)
          case hs_14 => kernel_rfl
          case hf_14 => kernel_rfl
          case hr_14 => kernel_rfl
          case hQ_14 => exact fun _ _ _ h => h
          case hy_14 => (refine Or.inl ⟨by rfl, ?_⟩; intro w hSw; (try dsimp only at hSw); go_simp; try with_reducible rfl)
          case hS_14 => assumption
          try go_frame
          refine wpAnyH_take (i := 4) (v := ?_) (oi := ?_) ?hi_15 ?hs_15 ?hf_15 ?hr_15 ?hQ_15 ?hy_15 ?hS_15 ?h_15
          case hi_15 => (simp only [List.getElem?_toArray, List.getElem?_cons_zero, List.getElem?_cons_succ] <;> rfl)
          case hs_15 => kernel_rfl
          case hf_15 => kernel_rfl
          case hr_15 => kernel_rfl
          case hQ_15 => exact fun _ _ _ h => h
          case hy_15 => (refine Or.inl ⟨by rfl, ?_⟩; intro w hSw; (try dsimp only at hSw); go_simp; try with_reducible rfl)
          case hS_15 => assumption
          try go_frame
          refine wpAnyH_take (i := 5) (v := ?_) (oi := ?_) ?hi_16 ?hs_16 ?hf_16 ?hr_16 ?hQ_16 ?hy_16 ?hS_16 ?h_16
          case hi_16 => (simp only [List.getElem?_toArray, List.getElem?_cons_zero, List.getElem?_cons_succ] <;> rfl)
          case hs_16 => kernel_rfl
          case hf_16 => kernel_rfl
          case hr_16 => kernel_rfl
          case hQ_16 => exact fun _ _ _ h => h
          case hy_16 => (refine Or.inl ⟨by rfl, ?_⟩; intro w hSw; (try dsimp only at hSw); go_simp; try with_reducible rfl)
          case hS_16 => assumption
          try go_frame
          refine wpAnyH_take (i := 6) (v := ?_) (oi := ?_) ?hi_17 ?hs_17 ?hf_17 ?hr_17 ?hQ_17 ?hy_17 ?hS_17 ?h_17
          case hi_17 => (simp only [List.getElem?_toArray, List.getElem?_cons_zero, List.getElem?_cons_succ] <;> rfl)
          case hs_17 => kernel_rfl
          case hf_17 => kernel_rfl
          case hr_17 => kernel_rfl
          case hQ_17 => exact fun _ _ _ h => h
          case hy_17 => (refine Or.inl ⟨by rfl, ?_⟩; intro w hSw; (try dsimp only at hSw); go_simp; try with_reducible rfl)
          case hS_17 => assumption
          try go_frame
          refine wpAnyH_take (i := 7) (v := ?_) (oi := ?_) ?hi_18 ?hs_18 ?hf_18 ?hr_18 ?hQ_18 ?hy_18 ?hS_18 ?h_18
          case hi_18 => (simp only [List.getElem?_toArray, List.getElem?_cons_zero, List.getElem?_cons_succ] <;> rfl)
          case hs_18 => kernel_rfl
          case hf_18 => kernel_rfl
          case hr_18 => kernel_rfl
          case hQ_18 => exact fun _ _ _ h => h
          case hy_18 => (refine Or.inl ⟨by rfl, ?_⟩; intro w hSw; (try dsimp only at hSw); go_simp; try with_reducible rfl)
          case hS_18 => assumption
          try go_frame
          refine wpAnyH_ready (rs := [8]) (by kernel_rfl) (by simp) ?_
          refine AllReadyH.cons (o := ?_) ?hi_19 (fun K hK => ?h_19) AllReadyH.nil
          case hi_19 => (simp only [List.getElem?_toArray, List.getElem?_cons_zero, List.getElem?_cons_succ] <;> rfl)
          go_simp
          (refine (Hb.out _).mono ?_; rintro e w2 ⟨rfl, n2⟩; go_wp2_with fail)
          refine hK.out _ _ ?_ (fun hHeld => ?_)
          · exact ⟨⟨n2.cell k0, n2.cell k1⟩, n2.cell k2, n2.cell k3⟩
          clear hK K
          try go_frame
          refine wpAnyH_take (i := 9) (v := ?_) (oi := ?_) ?hi_20 ?hs_20 ?hf_20 ?hr_20 ?hQ_20 ?hy_20 ?hS_20 ?h_20
          case hi_20 => (simp only [List.getElem?_toArray, List.getElem?_cons_zero, List.getElem?_cons_succ] <;> rfl)
          case hs_20 => kernel_rfl
          case hf_20 => kernel_rfl
          case hr_20 => kernel_rfl
          case hQ_20 => exact fun _ _ _ h => h
          case hy_20 => (refine Or.inl ⟨by rfl, ?_⟩; intro w hSw; (try dsimp only at hSw); go_simp; try with_reducible rfl)
          case hS_20 => assumption
          try go_frame
          refine wpAnyH_done (by kernel_rfl) ?_ _
          have m0 := n2.cell k0
          have m1 := n2.cell k1
          have m2 := n2.cell k2
          have m3 := n2.cell k3
          have hr2 := hrd.new n2
          have hnd2 := hnd.trans n2
          have Hb2 := Lib.hid (n2.heap (show wr.drew.heap[g]? = _ from Hbxr.out))
          go_wp2_with (first | (at_builtin; refine wpRow_appendRec slHold _ _ rfl rfl (.slice at3 done.length cs) done.length (holdCells done) [.string ⟨x.snap.toArray⟩, .string ⟨x.tag.toArray⟩] 25 rfl hr2 rfl (by intro u hu; simp at hu; rcases hu with rfl | rfl <;> rfl) rfl (by omega) (by decide) ?_; intro v' w6 q1 ch1; obtain ⟨q2, n6, hold6⟩ := app_hold (wr := w2) (g + 1) Hg.out (Array.getElem?_eq_some_iff.1 Hb2.out).1 hnd2 Hos.out q1 ch1; have Hb6 := Lib.hid (hold6 g _ (by omega) Hb2.out); have hos6 := q2.2; obtain ⟨b6, off6, cc6, e6, -, m26, m36, -, -⟩ := Hat.out w6 n6 k o Ho.out; simp only [Value.slice.injEq, Option.some.injEq, Addr.mk.injEq] at e6; obtain ⟨⟨rfl, rfl, -⟩, -, rfl⟩ := e6; unfold txt at m26 m36; have q2b : Row 25 2 (fun j => g + 1 ≤ j) w6 v' (done.length + 1) (holdCells (done ++ [x])) := (by rw [← len_snoc done x]; exact q2); obtain ⟨at6, cs6, rfl, -⟩ := q2b.shape; have Hos6 := Lib.hid hos6; clear q1 ch1 hold6 hr2 hos6 q2) | (at_builtin; refine wpRow_appendRec slHold _ _ rfl rfl (.slice at6 (done.length + 1) cs6) (done.length + 1) (holdCells (done ++ [x])) [.string ⟨o.snap.toArray⟩, .string ⟨o.tag.toArray⟩] 25 rfl q2b rfl (by intro u hu; simp at hu; rcases hu with rfl | rfl <;> rfl) rfl (by omega) (by decide) ?_; intro v'' w7 q3 ch3))
          obtain ⟨q4, n7, hold7⟩ := app_hold (wr := w6) (done := done ++ [x]) (g + 1) Hg.out (Array.getElem?_eq_some_iff.1 Hb6.out).1 n6 Hos6.out (by rw [len_snoc]; exact q3) ch3
          have Hb7 := Lib.hid (hold7 g _ (by omega) Hb6.out)
          clear q3 ch3 hold7
          go_roundg (os.length - (k + 1))
          case measure => rw [Hgk.out]; omega
          case rel => exact ⟨k + 1, true, (done ++ [x]) ++ [o], rfl, by omega, by go_num, rfl, Hb7.out, n7, q4, Hst.out⟩
      · have Hst := Lib.hid (show insH x os = (done ++ [o]) ++ (if true = true then os.drop (k + 1) else insH x (os.drop (k + 1))) by
          rw [Hins.out, Hdrop.out]; simp)
        go_wp2_with fail
        refine wp_region_held_drew (S := (fun w' => (w'.cell? ⟨g, 0, none⟩ = some (.string ⟨x.snap.toArray⟩) ∧ w'.cell? ⟨g, 1, none⟩ = some (.string ⟨x.tag.toArray⟩)) ∧ w'.cell? ⟨b, off + k * 2, none⟩ = some (.string ⟨o.snap.toArray⟩) ∧ w'.cell? ⟨b, off + k * 2 + 1, none⟩ = some (.string ⟨o.tag.toArray⟩))) (by kernel_rfl) ?_ (fun hHeld => ?_)
        · exact ⟨⟨k0, k1⟩, k2, k3⟩
        refine wpAnyH_take (i := 0) (v := ?_) (oi := ?_) ?hi_21 ?hs_21 ?hf_21 ?hr_21 ?hQ_21 ?hy_21 ?hS_21 ?h_21
        case hi_21 => (simp only [List.getElem?_toArray, List.getElem?_cons_zero] <;> rfl)
        case hs_21 => kernel_rfl
        case hf_21 => kernel_rfl
        case hr_21 => kernel_rfl
        case hQ_21 => exact fun _ _ _ h => h
        case hy_21 => (refine Or.inl ⟨by rfl, ?_⟩; intro w hSw; (try dsimp only at hSw); go_simp; try with_reducible rfl)
        case hS_21 => assumption
        try go_frame
        refine wpAnyH_take (i := 1) (v := ?_) (oi := ?_) ?hi_22 ?hs_22 ?hf_22 ?hr_22 ?hQ_22 ?hy_22 ?hS_22 ?h_22
        case hi_22 => (simp only [List.getElem?_toArray, List.getElem?_cons_zero, List.getElem?_cons_succ] <;> rfl)
        case hs_22 => kernel_rfl
        case hf_22 => kernel_rfl
        case hr_22 => kernel_rfl
        case hQ_22 => exact fun _ _ _ h => h
        case hy_22 => (refine Or.inl ⟨by rfl, ?_⟩; intro w hSw; (try dsimp only at hSw); go_simp; try with_reducible rfl)
        case hS_22 => assumption
        try go_frame
        refine wpAnyH_take (i := 2) (v := ?_) (oi := ?_) ?hi_23 ?hs_23 ?hf_23 ?hr_23 ?hQ_23 ?hy_23 ?hS_23 ?h_23
        case hi_23 => (simp only [List.getElem?_toArray, List.getElem?_cons_zero, List.getElem?_cons_succ] <;> rfl)
        case hs_23 => kernel_rfl
        case hf_23 => kernel_rfl
        case hr_23 => kernel_rfl
        case hQ_23 => exact fun _ _ _ h => h
        case hy_23 => (refine Or.inl ⟨by rfl, ?_⟩; intro w hSw; (try dsimp only at hSw); go_simp; try with_reducible rfl)
        case hS_23 => assumption
        try go_frame
        refine wpAnyH_take (i := 3) (v := undef) (oi := ?_) ?hi_24 ?hs_24 ?hf_24 ?hr_24 ?hQ_24 ?hy_24 ?hS_24 ?h_24
        case hi_24 => (simp only [List.getElem?_toArray, List.getElem?_cons_zero, List.getElem?_cons_succ] <;> rfl)
        case hs_24 => kernel_rfl
        case hf_24 => kernel_rfl
        case hr_24 => kernel_rfl
        case hQ_24 => exact fun _ _ _ h => h
        case hy_24 => exact Or.inr ⟨by rfl, rfl⟩
        case hS_24 => assumption
        try go_frame
        refine wpAnyH_take (i := 4) (v := undef) (oi := ?_) ?hi_25 ?hs_25 ?hf_25 ?hr_25 ?hQ_25 ?hy_25 ?hS_25 ?h_25
        case hi_25 => (simp only [List.getElem?_toArray, List.getElem?_cons_zero, List.getElem?_cons_succ] <;> rfl)
        case hs_25 => kernel_rfl
        case hf_25 => kernel_rfl
        case hr_25 => kernel_rfl
        case hQ_25 => exact fun _ _ _ h => h
        case hy_25 => exact Or.inr ⟨by rfl, rfl⟩
        case hS_25 => assumption
        try go_frame
        refine wpAnyH_take (i := 5) (v := undef) (oi := ?_) ?hi_26 ?hs_26 ?hf_26 ?hr_26 ?hQ_26 ?hy_26 ?hS_26 ?h_26
        case hi_26 => (simp only [List.getElem?_toArray, List.getElem?_cons_zero, List.getElem?_cons_succ] <;> rfl)
        case hs_26 => kernel_rfl
        case hf_26 => kernel_rfl
        case hr_26 => kernel_rfl
        case hQ_26 => exact fun _ _ _ h => h
        case hy_26 => exact Or.inr ⟨by rfl, rfl⟩
        case hS_26 => assumption
        try go_frame
        refine wpAnyH_take (i := 6) (v := undef) (oi := ?_) ?hi_27 ?hs_27 ?hf_27 ?hr_27 ?hQ_27 ?hy_27 ?hS_27 ?h_27
        case hi_27 => (simp only [List.getElem?_toArray, List.getElem?_cons_zero, List.getElem?_cons_succ] <;> rfl)
        case hs_27 => kernel_rfl
        case hf_27 => kernel_rfl
        case hr_27 => kernel_rfl
        case hQ_27 => exact fun _ _ _ h => h
        case hy_27 => exact Or.inr ⟨by rfl, rfl⟩
        case hS_27 => assumption
        try go_frame
        refine wpAnyH_take (i := 7) (v := undef) (oi := ?_) ?hi_28 ?hs_28 ?hf_28 ?hr_28 ?hQ_28 ?hy_28 ?hS_28 ?h_28
        case hi_28 => (simp only [List.getElem?_toArray, List.getElem?_cons_zero, List.getElem?_cons_succ] <;> rfl)
        case hs_28 => kernel_rfl
        case hf_28 => kernel_rfl
        case hr_28 => kernel_rfl
        case hQ_28 => exact fun _ _ _ h => h
        case hy_28 => exact Or.inr ⟨by rfl, rfl⟩
        case hS_28 => assumption
        try go_frame
        refine wpAnyH_ready (rs := [8]) (by kernel_rfl) (by simp) ?_
        refine AllReadyH.cons (o := ?_) ?hi_29 (fun K hK => ?h_29) AllReadyH.nil
        case hi_29 => (simp only [List.getElem?_toArray, List.getElem?_cons_zero, List.getElem?_cons_succ] <;> rfl)
        go_simp
        refine hK.out _ _ ?_ (fun hHeld => ?_)
        · exact ⟨⟨k0, k1⟩, k2, k3⟩
        clear hK K
        try go_frame
        refine wpAnyH_take (i := 9) (v := ?_) (oi := ?_) ?hi_30 ?hs_30 ?hf_30 ?hr_30 ?hQ_30 ?hy_30 ?hS_30 ?h_30
        case hi_30 => (simp only [List.getElem?_toArray, List.getElem?_cons_zero, List.getElem?_cons_succ] <;> rfl)
        case hs_30 => kernel_rfl
        case hf_30 => kernel_rfl
        case hr_30 => kernel_rfl
        case hQ_30 => exact fun _ _ _ h => h
        case hy_30 => (refine Or.inl ⟨by rfl, ?_⟩; intro w hSw; (try dsimp only at hSw); go_simp; try with_reducible rfl)
        case hS_30 => assumption
        try go_frame
        refine wpAnyH_done (by kernel_rfl) ?_ _
        go_wp2_with (at_builtin; refine wpRow_appendRec slHold _ _ rfl rfl (.slice at3 done.length cs) done.length (holdCells done) [.string ⟨o.snap.toArray⟩, .string ⟨o.tag.toArray⟩] 25 rfl hrd rfl (by intro u hu; simp at hu; rcases hu with rfl | rfl <;> rfl) rfl (by omega) (by decide) ?_; intro v' w6 q1 ch1)
        obtain ⟨q2, n6, hold6⟩ := app_hold (wr := wr.drew) (g + 1) Hg.out hgr hnd Hos.out q1 ch1
        have Hb6 := Lib.hid (hold6 g _ (by omega) (show wr.drew.heap[g]? = _ from Hbxr.out))
        clear q1 ch1 hold6
        go_roundg (os.length - (k + 1))
        case measure => rw [Hgk.out]; omega
        case rel => exact ⟨k + 1, true, done ++ [o], rfl, by omega, by go_num, rfl, Hb6.out, n6, q2, Hst.out⟩
    · have hfitall : ∀ y ∈ insH x os, HFit y := fun y hy => by
        rcases insH_mem.1 hy with rfl | hy
        · exact hx.fit
        · exact (Hs.out y hy).fit
      have Hfit := Lib.hid hfitall
      rcases d with _ | _
      · have Hst := Lib.hid (show insH x os = done ++ [x] by rw [Hins.out, drop_end hlt]; rfl)
        clear hfitall
        go_wp2_with (at_builtin; refine wpRow_appendRec slHold _ _ rfl rfl (.slice at3 done.length cs) done.length (holdCells done) [.string ⟨x.snap.toArray⟩, .string ⟨x.tag.toArray⟩] 25 rfl hrow rfl (by intro u hu; simp at hu; rcases hu with rfl | rfl <;> rfl) rfl (by omega) (by decide) ?_; intro v' w6 q1 ch1)
        obtain ⟨q2, n6, -⟩ := app_hold (wr := wr) (g + 1) Hg.out hgr hn Hos.out q1 ch1
        clear q1 ch1
        go_wp2_with fail
        go_ret2
        rw [Hr.out]
        refine ⟨_, rfl, ?_, n6⟩
        rw [Hst.out]
        exact (OwnHolds.of_row q2 (fun y hy => Hfit.out y (by rw [Hst.out]; exact hy))).mono (fun j _ hj => by have := Hg.out; omega)
      · have Hst := Lib.hid (show insH x os = done by rw [Hins.out, drop_end hlt]; simp)
        clear hfitall
        go_wp2_with fail
        go_ret2
        rw [Hr.out]
        refine ⟨_, rfl, ?_, hn⟩
        rw [Hst.out]
        exact (OwnHolds.of_row hrow (fun y hy => Hfit.out y (by rw [Hst.out]; exact hy))).mono (fun j _ hj => by have := Hg.out; omega)
end Go.Proofs.Ytapobonfnjgnoaa
