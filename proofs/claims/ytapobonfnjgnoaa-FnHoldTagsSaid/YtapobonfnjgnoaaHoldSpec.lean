/- HoldPut, HoldDrop, HoldTags: the reference's. -/
import Derived.Test.YtapobonfnjgnoaaHoldTags
import Derived.Test.YtapobonfnjgnoaaAppend1
namespace Go.Proofs.Ytapobonfnjgnoaa
open Go.RowKit

theorem app_hold {wb wr w5 : World} {v v' : Value} {done : List HoldR} {o : HoldR} (B : Nat) (hB : wb.heap.size ≤ B) (hBr : B ≤ wr.heap.size) (nb : New wb wr) (hos : ∀ j, v.ownBlock = some j → B ≤ j)
    (q1 : Row 25 2 (fun k => v.ownBlock = some k ∨ wr.heap.size < k) w5 v' (done.length + 1) (holdCells done ++ [.string ⟨o.snap.toArray⟩, .string ⟨o.tag.toArray⟩])) (c5 : Chg (fun k => v.ownBlock = some k) wr w5) :
    Row 25 2 (fun j => B ≤ j) w5 v' (done ++ [o]).length (holdCells (done ++ [o])) ∧ New wb w5 ∧ ∀ (g : Nat) (ob : Obj), g < B → wr.heap[g]? = some ob → w5.heap[g]? = some ob := by
  refine ⟨?_, nb.trans_chg c5 (fun j hj e => by have := hos j e; omega), fun g ob hg hob => c5.heap hob (fun e => by have := hos g e; omega)⟩
  have e1 : holdCells (done ++ [o]) = holdCells done ++ [.string ⟨o.snap.toArray⟩, .string ⟨o.tag.toArray⟩] := by simp [holdCells]
  rw [e1, show (done ++ [o]).length = done.length + 1 by simp]
  exact q1.mono (fun j _ hj => by
    rcases hj with hj | hj
    · exact hos j hj
    · omega)
theorem app_str {wb wr w5 : World} {v v' : Value} {done : List (List UInt8)} {o : List UInt8} (nb : New wb wr) (hos : ∀ j, v.ownBlock = some j → wb.heap.size ≤ j)
    (q1 : Row 9 1 (fun k => v.ownBlock = some k ∨ wr.heap.size < k) w5 v' (done.length + 1) (done.map txt ++ [.string ⟨o.toArray⟩])) (c5 : Chg (fun k => v.ownBlock = some k) wr w5) :
    Row 9 1 (fun j => wb.heap.size ≤ j) w5 v' (done ++ [o]).length ((done ++ [o]).map txt) ∧ New wb w5 := by
  refine ⟨?_, nb.trans_chg c5 (fun j hj e => by have := hos j e; omega)⟩
  rw [List.map_append, show (done ++ [o]).length = done.length + 1 by simp]
  exact q1.mono (fun j _ hj => by
    rcases hj with hj | hj
    · exact hos j hj
    · have := nb.size
      omega)
theorem OwnHolds.of_row {S : Nat → Prop} {w : World} {v : Value} {ss : List HoldR} (h : Row 25 2 S w v ss.length (holdCells ss)) (hf : ∀ x ∈ ss, HFit x) : OwnHolds S w v ss := ⟨_, h, fields_hold w ss _ hf⟩

theorem filter_take {p : HoldR → Bool} {os : List HoldR} {k : Nat} {o : HoldR} (h : os[k]? = some o) : (os.take (k + 1)).filter p = (os.take k).filter p ++ (if p o = true then [o] else []) := by
  obtain ⟨hk, e⟩ := List.getElem?_eq_some_iff.1 h
  rw [List.take_succ_eq_append_getElem hk, e, List.filter_append]
  congr 1
  by_cases hs : p o = true <;> simp [hs]

set_option maxRecDepth 4000 in
set_option maxHeartbeats 2000000 in
theorem specTags {S : Nat → Prop} (v : Value) (os : List HoldR) (s : List UInt8) (w : World) (h : Holds S w v os) (hs : ∀ o ∈ os, HSm o) (hbig : os.length ≤ 1048576) :
    Calls Try.prog 18 #[v, .string ⟨s.toArray⟩] w (TagsPost (tagsR os s) w) := by
  have h0 := h
  have hsp := fun (W : World) (n : New w W) => specHolds v os W (h.new n) hs
  obtain ⟨-, a, c, rfl, h1, h2, -⟩ := h
  unfold maxLen at h2
  have hat := fun (W : World) (n : New w W) (k : Nat) (o : HoldR) (hk : os[k]? = some o) => Holds.at (Recs.new h0 n) hk
  have Hat := Lib.hid hat
  have Hsp := Lib.hid hsp
  have Hs := Lib.hid hs
  have hemp := Row.empty 9 1 w
  clear hat hs hsp
  go_enter Try.func18, Try.ntmps18
  go_wp2_with fail
  go_loopg [5, 6] os.length (fun gk s5 i wr => ∃ (k : Nat), gk = os.length - k ∧ k ≤ os.length ∧ i = .int .i64 k ∧ New w wr ∧ Row 9 1 (fun j => w.heap.size ≤ j) wr s5 (tagsOf s (os.take k)).length ((tagsOf s (os.take k)).map txt) ∧ (k = 0 ∨ holdsOk os = true))
  case atStart => exact ⟨0, by omega, by omega, rfl, (New.refl _).alloc _, hemp.mono (fun j _ hj => by omega), .inl rfl⟩
  case round =>
    obtain ⟨k, hgk, hk, rfl, hn, hrow, hko⟩ := hrel
    have Hgk := Lib.hid hgk
    have Hko := Lib.hid hko
    clear hgk hko
    by_cases hlt : k < os.length
    · obtain ⟨o, hx⟩ := get_of hlt
      have hsp := Hsp.out wr hn
      rcases hok : holdsOk os with _ | _
      · rw [hok] at hsp
        have Hsp2 := Lib.hid hsp
        have hr : tagsR os s = [] := by unfold tagsR; rw [hok]; simp
        have Hr := Lib.hid hr
        have ek : k = 0 := by
          rcases Hko.out with h | h
          · exact h
          · rw [hok] at h; cases h
        have e0 : tagsOf s (os.take k) = [] := by rw [ek]; rfl
        rw [e0] at hrow
        have Hek := Lib.hid ek
        clear hsp hok hr ek e0 hx
        go_wp2_with fail
        refine Hsp2.out.mono ?_
        rintro e w3 ⟨rfl, n3⟩
        go_wp2_with fail
        go_ret
        rw [Hr.out]
        exact ⟨_, rfl, OwnStrs.of_row (ts := []) (hrow.new n3) (by simp), hn.trans n3⟩
      · rw [hok] at hsp
        have Hsp2 := Lib.hid hsp
        have Hok := Lib.hid hok
        have Htk := Lib.hid (tagsOf_take (s := s) hx)
        have htl := tagsOf_len s (os.take k)
        rw [List.length_take] at htl
        obtain ⟨b, off, c', e1, hb, c0, c1, -, -⟩ := Hat.out wr hn k o hx
        simp only [Value.slice.injEq] at e1
        obtain ⟨rfl, -, rfl⟩ := e1
        unfold txt at c0 c1
        have C0 := Lib.hid c0
        have C1 := Lib.hid c1
        by_cases hsn : o.snap = s
        · have Htk2 := Lib.hid (show tagsOf s (os.take (k + 1)) = tagsOf s (os.take k) ++ [o.tag] by rw [Htk.out, if_pos hsn])
          have hsn2 : (o.snap == s) = true := by simp [hsn]
          generalize hd : tagsOf s (os.take k) = done at *
          clear hsp hx hd hsn hok c0 c1
          go_wp2_with fail
          refine Hsp2.out.mono ?_
          rintro e w3 ⟨rfl, n3⟩
          have d0 := n3.cell C0.out
          have d1 := n3.cell C1.out
          have hrow2 := hrow.new n3
          have nb := hn.trans n3
          have hos := hrow.2
          obtain ⟨at3, cs, rfl, -⟩ := hrow.shape
          have Hos := Lib.hid hos
          clear hrow hos
          go_wp2_with (at_builtin; refine wpRow_append1 slStr _ _ rfl rfl _ done.length (done.map txt) _ _ rfl hrow2 rfl rfl (by omega) (by decide) ?_; intro v' w5 q1 c5)
          obtain ⟨q2, n5⟩ := app_str nb Hos.out q1 c5
          clear q1 c5 hrow2
          go_roundg (os.length - (k + 1))
          case measure => rw [Hgk.out]; omega
          case rel => exact ⟨k + 1, rfl, by omega, by go_num, n5, by rw [Htk2.out]; exact q2, .inr Hok.out⟩
        · have Htk2 := Lib.hid (show tagsOf s (os.take (k + 1)) = tagsOf s (os.take k) by rw [Htk.out, if_neg hsn]; simp)
          have hsn2 : (o.snap == s) = false := by simp [hsn]
          generalize hd : tagsOf s (os.take k) = done at *
          clear hsp hx hd hsn hok c0 c1
          go_wp2_with fail
          refine Hsp2.out.mono ?_
          rintro e w3 ⟨rfl, n3⟩
          have d0 := n3.cell C0.out
          have hrow2 := hrow.new n3
          have nb := hn.trans n3
          clear hrow
          go_wp2_with fail
          go_roundg (os.length - (k + 1))
          case measure => rw [Hgk.out]; omega
          case rel => exact ⟨k + 1, rfl, by omega, by go_num, nb, by rw [Htk2.out]; exact hrow2, .inr Hok.out⟩
    · have ek : os.take k = os := List.take_of_length_le (by omega)
      rw [ek] at hrow
      have hr : tagsR os s = tagsOf s os := by
        unfold tagsR
        rcases Hko.out with h | h
        · have : os = [] := List.eq_nil_of_length_eq_zero (by omega)
          subst this
          rfl
        · rw [if_pos h]; rfl
      have Hr := Lib.hid hr
      clear ek hr
      go_wp2_with fail
      go_ret
      rw [Hr.out]
      refine ⟨_, rfl, OwnStrs.of_row hrow (fun x hx => ?_), hn⟩
      obtain ⟨o, ho, rfl⟩ := tagsOf_mem hx
      exact (Hs.out o ho).fit.2

set_option maxRecDepth 4000 in
set_option maxHeartbeats 2000000 in
theorem specDrop {S : Nat → Prop} (v : Value) (os : List HoldR) (x : HoldR) (w : World) (h : Holds S w v os) (hs : ∀ o ∈ os, HSm o) (hbig : os.length ≤ 1048576) :
    Calls Try.prog 22 #[v, .agg #[.string ⟨x.snap.toArray⟩, .string ⟨x.tag.toArray⟩]] w (HoldPost (dropR os x) w) := by
  have h0 := h
  have hsp := fun (W : World) (n : New w W) => specHolds v os W (h.new n) hs
  have hhas := fun (W : World) (n : New w W) => specHas v os x W (h.new n)
  have nbx := (New.refl w).alloc (.cells #[.string ⟨x.snap.toArray⟩, .string ⟨x.tag.toArray⟩] 25)
  have nw2 := nbx.alloc (.cells #[] 25)
  have hbx : ((w.alloc (.cells #[.string ⟨x.snap.toArray⟩, .string ⟨x.tag.toArray⟩] 25)).alloc (.cells #[] 25)).heap[w.heap.size]? = some (.cells #[.string ⟨x.snap.toArray⟩, .string ⟨x.tag.toArray⟩] 25) := ((New.refl _).alloc _).heap (heap_alloc_new w _)
  obtain ⟨-, a, c, rfl, h1, h2, -⟩ := h
  unfold maxLen at h2
  have hat := fun (W : World) (n : New w W) (k : Nat) (o : HoldR) (hk : os[k]? = some o) => Holds.at (Recs.new h0 n) hk
  have Hat := Lib.hid hat
  have Hsp := Lib.hid hsp
  have Hhas := Lib.hid hhas
  have Hs := Lib.hid hs
  have Hbx := Lib.hid hbx
  have hemp := Row.empty 25 2 (w.alloc (.cells #[.string ⟨x.snap.toArray⟩, .string ⟨x.tag.toArray⟩] 25))
  rw [World.size_alloc] at hemp
  clear hat hs hsp hhas hbx
  go_enter Try.func22, Try.ntmps22
  go_wp2_with fail
  generalize (w.alloc (.cells #[.string ⟨x.snap.toArray⟩, .string ⟨x.tag.toArray⟩] 25)).alloc (.cells #[] 25) = w2 at *
  have hd2 : os.length ≤ 9223372036854775807 := by omega
  rcases hok : holdsOk os with _ | _
  · have hr : dropR os x = ([], false) := by unfold dropR; rw [if_neg (by simp [hok])]
    have Hr := Lib.hid hr
    have hv := Hsp.out w2 nw2
    rw [hok] at hv
    have Hv := Lib.hid hv
    clear hr hv hok
    refine Hv.out.mono ?_
    rintro e w3 ⟨rfl, n3⟩
    go_wp2_with fail
    go_ret2
    rw [Hr.out]
    exact ⟨_, rfl, (OwnHolds.of_row (ss := []) (hemp.new n3) (by simp)).mono (fun j _ hj => by omega), nw2.trans n3⟩
  · have hv := Hsp.out w2 nw2
    rw [hok] at hv
    have Hv := Lib.hid hv
    have Hok := Lib.hid hok
    clear hv hok
    refine Hv.out.mono ?_
    rintro e w3 ⟨rfl, n3⟩
    have hb3 := n3.heap Hbx.out
    have c0 : w3.cell? ⟨w.heap.size, 0, none⟩ = some (.string ⟨x.snap.toArray⟩) := by unfold World.cell?; rw [hb3]; rfl
    have c1 : w3.cell? ⟨w.heap.size, 1, none⟩ = some (.string ⟨x.tag.toArray⟩) := by unfold World.cell?; rw [hb3]; rfl
    have nw3 := nw2.trans n3
    have hrow3 := hemp.new n3
    have hh := Hhas.out w3 nw3
    clear hb3
    by_cases hin : x ∈ os
    · have hr : dropR os x = (os.filter (fun y => decide (y ≠ x)), true) := by unfold dropR; rw [if_pos ⟨Hok.out, hin⟩]
      have Hr := Lib.hid hr
      rw [decide_eq_true hin] at hh
      have Hh := Lib.hid hh
      clear hr hin hh
      go_wp2_with fail
      refine Hh.out.mono ?_
      rintro e w4 ⟨rfl, n4⟩
      have nw4 := nw3.trans n4
      have hrow4 := hrow3.new n4
      have HB4 := Lib.hid ((n3.trans n4).heap Hbx.out)
      generalize hbs : w.heap.size = g at *
      have Hbs := Lib.hid hbs
      clear c0 c1 hrow3 hemp hbs
      go_wp2_with fail
      go_loopg [6, 7] os.length (fun gk s6 i wr => ∃ (k : Nat), gk = os.length - k ∧ k ≤ os.length ∧ i = .int .i64 k ∧ wr.heap[g]? = some (.cells #[.string ⟨x.snap.toArray⟩, .string ⟨x.tag.toArray⟩] 25) ∧ New w wr ∧ Row 25 2 (fun j => g + 1 ≤ j) wr s6 ((os.take k).filter (fun y => decide (y ≠ x))).length (holdCells ((os.take k).filter (fun y => decide (y ≠ x)))))
      case atStart => exact ⟨0, by omega, by omega, rfl, HB4.out, nw4, hrow4.mono (fun j _ hj => by omega)⟩
      case round =>
        obtain ⟨k, hgk, hk, rfl, hbxr, hn, hrow⟩ := hrel
        have Hgk := Lib.hid hgk
        have Hbxr := Lib.hid hbxr
        clear hgk
        by_cases hlt : k < os.length
        · obtain ⟨o, ho⟩ := get_of hlt
          obtain ⟨b, off, c', e1, hb, c0, c1, -, -⟩ := Hat.out wr hn k o ho
          simp only [Value.slice.injEq] at e1
          obtain ⟨rfl, -, rfl⟩ := e1
          unfold txt at c0 c1
          have r0 : wr.cell? ⟨g, 0, none⟩ = some (.string ⟨x.snap.toArray⟩) := by unfold World.cell?; rw [hbxr]; rfl
          have r1 : wr.cell? ⟨g, 1, none⟩ = some (.string ⟨x.tag.toArray⟩) := by unfold World.cell?; rw [hbxr]; rfl
          have hgr : g + 1 ≤ wr.heap.size := (Array.getElem?_eq_some_iff.1 hbxr).1
          have Hgr := Lib.hid hgr
          clear hbxr hgr
          have Htk := Lib.hid (filter_take (p := fun y => decide (y ≠ x)) ho)
          have htl : ((os.take k).filter (fun y => decide (y ≠ x))).length ≤ k := by
            refine Nat.le_trans (List.length_filter_le _ _) ?_
            rw [List.length_take]; omega
          generalize hd : (os.take k).filter (fun y => decide (y ≠ x)) = done at *
          have hos := hrow.2
          have Hos := Lib.hid hos
          obtain ⟨at3, cs, rfl, -⟩ := hrow.shape
          clear ho hd hos
          by_cases hx : o = x
          · have Htk2 := Lib.hid (show (os.take (k + 1)).filter (fun y => decide (y ≠ x)) = done by rw [Htk.out]; simp [hx])
            subst hx
            go_wp2
            go_quiet (fail)
            go_wp2
            go_roundg (os.length - (k + 1))
            case measure => rw [Hgk.out]; omega
            case rel => exact ⟨k + 1, rfl, by omega, by go_num, Hbxr.out, by first | exact hn.drewN _ | exact hn.drew | exact hn, by rw [Htk2.out]; first | exact hrow.new ((New.refl _).drewN _) | exact hrow.new (New.refl _).drew | exact hrow⟩
          · have Htk2 := Lib.hid (show (os.take (k + 1)).filter (fun y => decide (y ≠ x)) = done ++ [o] by rw [Htk.out]; simp [hx])
            have hne : ¬ (o.snap = x.snap ∧ o.tag = x.tag) := by
              rintro ⟨e1, e2⟩
              apply hx
              obtain ⟨a1, a2⟩ := o
              obtain ⟨b1, b2⟩ := x
              simp only at e1 e2
              rw [e1, e2]
            have hrd := hrow.new (New.refl wr).drew
            have hnd := hn.drew
            have k0 : wr.drew.cell? ⟨b, off + k * 2, none⟩ = some (.string ⟨o.snap.toArray⟩) := c0
            have k1 : wr.drew.cell? ⟨b, off + k * 2 + 1, none⟩ = some (.string ⟨o.tag.toArray⟩) := c1
            clear hx
            by_cases hs : o.snap = x.snap
            · have ht : ¬ o.tag = x.tag := fun e => hne ⟨hs, e⟩
              have ht2 : (o.tag == x.tag) = false := by simp [ht]
              have ht3 : (o.tag != x.tag) = true := by simp [ht]
              have hs2 : (o.snap == x.snap) = true := by simp [hs]
              have hs3 : (o.snap != x.snap) = false := by simp [hs]
              clear hne hs ht
              go_wp2
              go_quiet (fail)
              go_wp2_with (at_builtin; refine wpRow_appendRec slHold _ _ rfl rfl (.slice at3 done.length cs) done.length (holdCells done) [.string ⟨o.snap.toArray⟩, .string ⟨o.tag.toArray⟩] 25 rfl (hrow.new (by first | exact (New.refl wr).drewN _ | exact (New.refl wr).drew | exact New.refl wr)) rfl (by intro u hu; simp at hu; rcases hu with rfl | rfl <;> rfl) rfl (by omega) (by decide) ?_; intro v' w5 q1 c5)
              obtain ⟨q2, n5, hold5⟩ := app_hold (wr := wr.drewN nq) (g + 1) (by rw [Hbs.out]; omega) Hgr.out (hn.drewN nq) Hos.out q1 c5
              have hb5 := hold5 g _ (by omega) Hbxr.out
              have Hb5 := Lib.hid hb5
              clear q1 c5 hold5 hb5
              go_roundg (os.length - (k + 1))
              case measure => rw [Hgk.out]; omega
              case rel => exact ⟨k + 1, rfl, by omega, by go_num, Hb5.out, n5, by rw [Htk2.out]; exact q2⟩
            · have ht2 : (o.snap == x.snap) = false := by simp [hs]
              have ht3 : (o.snap != x.snap) = true := by simp [hs]
              clear hne
              go_wp2
              go_quiet (fail)
              go_wp2_with (at_builtin; refine wpRow_appendRec slHold _ _ rfl rfl (.slice at3 done.length cs) done.length (holdCells done) [.string ⟨o.snap.toArray⟩, .string ⟨o.tag.toArray⟩] 25 rfl (hrow.new (by first | exact (New.refl wr).drewN _ | exact (New.refl wr).drew | exact New.refl wr)) rfl (by intro u hu; simp at hu; rcases hu with rfl | rfl <;> rfl) rfl (by omega) (by decide) ?_; intro v' w5 q1 c5)
              obtain ⟨q2, n5, hold5⟩ := app_hold (wr := wr.drewN nq) (g + 1) (by rw [Hbs.out]; omega) Hgr.out (hn.drewN nq) Hos.out q1 c5
              have hb5 := hold5 g _ (by omega) Hbxr.out
              have Hb5 := Lib.hid hb5
              clear q1 c5 hold5 hb5
              go_roundg (os.length - (k + 1))
              case measure => rw [Hgk.out]; omega
              case rel => exact ⟨k + 1, rfl, by omega, by go_num, Hb5.out, n5, by rw [Htk2.out]; exact q2⟩
        · have ek : os.take k = os := List.take_of_length_le (by omega)
          rw [ek] at hrow
          clear ek
          go_wp2_with fail
          go_ret2
          rw [Hr.out]
          refine ⟨_, rfl, (OwnHolds.of_row hrow (fun y hy => ?_)).mono (fun j _ hj => by rw [Hbs.out]; omega), hn⟩
          exact (Hs.out y (List.mem_filter.1 hy).1).fit
    · have hr : dropR os x = ([], false) := by unfold dropR; rw [if_neg (by simp [hin])]
      have Hr := Lib.hid hr
      rw [decide_eq_false hin] at hh
      have Hh := Lib.hid hh
      clear hr hin hh
      go_wp2_with fail
      refine Hh.out.mono ?_
      rintro e w4 ⟨rfl, n4⟩
      go_wp2_with fail
      go_ret2
      rw [Hr.out]
      exact ⟨_, rfl, (OwnHolds.of_row (ss := []) (hrow3.new n4) (by simp)).mono (fun j _ hj => by omega), nw3.trans n4⟩
end Go.Proofs.Ytapobonfnjgnoaa
