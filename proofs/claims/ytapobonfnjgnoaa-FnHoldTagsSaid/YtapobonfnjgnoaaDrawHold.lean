/- The draws of holds: l92Holds. -/
import Derived.Test.YtapobonfnjgnoaaHoldSpec2
import Derived.Test.YtapobonfnjgnoaaDrawPath
namespace Go.Proofs.Ytapobonfnjgnoaa
open Go.RowKit

def Hund (o : HoldR) : Prop := o.snap.length ≤ 100 ∧ o.tag.length ≤ 100
theorem Hund.sm {o : HoldR} (h : Hund o) : HSm o := ⟨by have := h.1; omega, by have := h.2; omega⟩
def DrawHPost (g m : Nat) (w : World) (e : Ending) (w' : World) : Prop :=
  ∃ v os, e = .returned v ∧ os.length ≤ 8 ∧ (∀ o ∈ os, Hund o) ∧ OwnHolds (fun j => w.heap.size ≤ j) w' v os ∧ Rd g w' (m + 100) ∧ Chg (fun k => k = g) w w'
theorem putR_small {os : List HoldR} {x : HoldR} (h : ∀ o ∈ os, Hund o) (hx : Hund x) (hl : os.length ≤ 8) : (∀ o ∈ (putR os x).1, Hund o) ∧ (putR os x).1.length ≤ 8 := by
  unfold putR
  split
  · rename_i hc
    refine ⟨fun o ho => ?_, by simp [insH_len]; omega⟩
    rcases insH_mem.1 ho with rfl | ho
    · exact hx
    · exact h o ho
  · exact ⟨by simp, by simp⟩
theorem holdFlds_tag {os : List HoldR} {j : Nat} {o : HoldR} (h : os[j]? = some o) (l : List UInt8) : (holdFlds os).set (j * 2 + 1) (.txt l) = holdFlds (os.set j ⟨o.snap, l⟩) := by
  have hj := (List.getElem?_eq_some_iff.1 h).1
  rw [holdFlds_set os j _ hj]
  have g0 := (holdFlds_get h).1
  obtain ⟨hi, e⟩ := List.getElem?_eq_some_iff.1 g0
  congr 1
  simp only
  rw [← e]
  exact (List.set_getElem_self hi).symm

def snaps1 : List (List UInt8) := [[115], [116], [117], [118]]
def tags1 : List (List UInt8) := [[106, 111, 98], [108, 97, 119], [116, 101, 115, 116]]
def tags2 : List (List UInt8) := [[], [122, 122, 122], [66, 97, 100]]

set_option maxRecDepth 4000 in
set_option maxHeartbeats 4000000 in
theorem l92Holds (g m : Nat) (w : World) (h : Rd g w m) (hm : m ≤ 1000) :
    Calls Try.prog 34 #[.pointer (some ⟨g, 0, none⟩)] w (DrawHPost g m w) := by
  have hgw := h.lt
  have hb0 := (New.refl w).alloc (.cells #[] 25)
  have hemp := Row.empty 25 2 w
  have h' := h.new hb0
  have Hof := Lib.hid drawOf
  have Hput := Lib.hid (fun (S : Nat → Prop) => @specPut S)
  go_enter Try.func34, Try.ntmps34
  go_wp2_with fail
  refine (pick g m 5 _ h' (by omega) (by omega) (by omega)).mono ?_
  rintro e w1 ⟨n0, rfl, hn00, hn01, h1, c1⟩
  go_wp2_with fail
  refine (pick g (m + 1) 16 _ h1 (by omega) (by omega) (by omega)).mono ?_
  rintro e w2 ⟨r2, rfl, hr20, hr21, h2, c2⟩
  have z1 := c1.size
  have z2 := c2.size
  have c02 : Chg (fun k => k = g) w w2 := ((hb0.chg _).trans c1).trans c2
  have o0 : OwnHolds (fun j => w.heap.size ≤ j) w2 (.slice (some ⟨w.heap.size, 0, none⟩) 0 0) [] :=
    ((OwnHolds.of_row (ss := []) hemp (by simp)).mono (T := fun j => w.heap.size ≤ j) (fun j _ hj => by omega)) |> fun o => OwnRecs.chg (OwnRecs.chg o c1 (fun j _ hj e => by omega)) c2 (fun j _ hj e => by omega)
  have O0 := Lib.hid o0
  obtain ⟨n, hn, hr⟩ : ∃ n : Nat, n ≤ 30 ∧ ((r2 = 0 ∧ n = 30) ∨ (r2 ≠ 0 ∧ n0 = n)) := by
    by_cases hq : r2 = 0
    · exact ⟨30, by omega, .inl ⟨hq, rfl⟩⟩
    · exact ⟨n0.toNat, by omega, .inr ⟨hq, by omega⟩⟩
  clear o0 hemp h h' hb0 h1 c1 c2
  rcases hr with ⟨rfl, hn30⟩ | ⟨hq, hnn⟩
  · go_wp2_with fail
    have hN0 : (0 : Int) ≤ 30 := by omega
    have hN1 : (30 : Int) < 31 := by omega
    generalize (30 : Int) = N at hN0 hN1 ⊢
    clear hn30
    have hNn : ∃ Nn : Nat, N = (Nn : Int) ∧ Nn ≤ 30 := ⟨N.toNat, by omega, by omega⟩
    obtain ⟨Nn, rfl, hNn⟩ := hNn
    clear hN0 hN1
    go_loopg [3, 5] Nn (fun gk s3 i wr => ∃ (k : Nat) (os : List HoldR), gk = Nn - k ∧ k ≤ Nn ∧ i = .int .i64 k ∧ os.length ≤ 8 ∧ (∀ o ∈ os, Hund o) ∧ OwnHolds (fun j => w.heap.size ≤ j) wr s3 os ∧ Rd g wr (m + 2 + 2 * k) ∧ Chg (fun j => j = g) w wr)
    case atStart => exact ⟨0, [], by omega, by omega, rfl, by simp, by simp, O0.out, h2, c02⟩
    case round =>
      obtain ⟨k, os, hgk, hk, rfl, hol, hund, ho, hrd, hch⟩ := hrel
      have Hgk := Lib.hid hgk
      have Hund := Lib.hid hund
      have Hch := Lib.hid hch
      have zr := hch.size
      clear hgk hund hch
      obtain ⟨a3, c3, rfl, -⟩ := ho.shape
      by_cases hlt : k < Nn
      · go_wp2_with fail
        refine (Hof.out g (m + 2 + 2 * k) 4 wr.heap.size (wr.alloc (.cells (snaps1.map txt).toArray 9)) (hrd.new ((New.refl _).alloc _)) (by omega) (by omega) (by omega) (by omega) (lit_cells wr snaps1 _ (by decide))).mono ?_
        rintro e wa ⟨la, rfl, hla, hrda, ca⟩
        have na : Chg (fun j => j = g) wr wa := (((New.refl wr).alloc (.cells (snaps1.map txt).toArray 9)).chg _).trans ca
        have za := na.size
        unfold txt
        go_wp2_with fail
        refine (Hof.out g (m + 2 + 2 * k + 1) 3 wa.heap.size (wa.alloc (.cells (tags1.map txt).toArray 9)) (hrda.new ((New.refl _).alloc _)) (by omega) (by omega) (by omega) (by omega) (lit_cells wa tags1 _ (by decide))).mono ?_
        rintro e wb ⟨lb, rfl, hlb, hrdb, cb⟩
        have nb : Chg (fun j => j = g) wr wb := na.trans ((((New.refl wa).alloc (.cells (tags1.map txt).toArray 9)).chg _).trans cb)
        have zb := nb.size
        have hob := OwnRecs.chg ho nb (fun j _ hj e => by omega)
        have hcall := Hput.out _ _ os ⟨la, lb⟩ wb (OwnRecs.recs hob) (fun o ho => (Hund.out o ho).sm) ⟨by simp only; omega, by simp only; omega⟩
        have hps := putR_small Hund.out (x := ⟨la, lb⟩) ⟨hla, hlb⟩ hol
        have Hcall := Lib.hid hcall
        have Hps := Lib.hid hps
        have Nb := Lib.hid nb
        clear na ca cb nb hcall hps hrda ho hrd
        unfold txt
        go_wp2_with fail
        refine Hcall.out.mono ?_
        intro e wc hpost
        unfold HoldPost at hpost
        have hps := Hps.out
        generalize putR os ⟨la, lb⟩ = rr at hpost hps
        obtain ⟨r, ok⟩ := rr
        obtain ⟨vr, rfl, hor, nc⟩ := hpost
        simp only at hor hps
        have zc := nc.size
        have hrdc := hrdb.new nc
        have hcc : Chg (fun j => j = g) w wc := (Hch.out.trans Nb.out).trans (nc.chg _)
        rcases ok with _ | _
        · have hoc := OwnRecs.new hob nc
          clear hor hps
          go_wp2_with fail
          go_roundg (Nn - (k + 1))
          case measure => rw [Hgk.out]; omega
          case rel => exact ⟨k + 1, os, rfl, by omega, by go_num, hol, Hund.out, hoc, hrdc.mono (by omega), hcc⟩
        · obtain ⟨av, cv, rfl, -⟩ := hor.shape
          have Hps2 := Lib.hid hps
          clear hps
          go_wp2_with fail
          go_roundg (Nn - (k + 1))
          case measure => rw [Hgk.out]; omega
          case rel => exact ⟨k + 1, r, rfl, by omega, by go_num, Hps2.out.2, Hps2.out.1, hor.mono (fun j _ hj => by omega), hrdc.mono (by omega), hcc⟩
      · by_cases h0 : os.length = 0
        · have hnil : os = [] := List.eq_nil_of_length_eq_zero h0
          subst hnil
          clear h0
          go_wp2_with fail
          go_ret
          exact ⟨_, [], rfl, hol, Hund.out, ho, hrd.mono (by omega), Hch.out⟩
        · have h0' : (0 : Int) < (os.length : Int) := by omega
          have h0d : decide ((0 : Int) < (os.length : Int)) = true := by simp; omega
          have hne : ¬ (os = []) := fun e => h0 (by rw [e]; rfl)
          have H0 := Lib.hid h0
          clear h0
          have h1L : (1 : Int) ≤ (os.length : Int) := by omega
          have H1L := Lib.hid h1L
          clear h1L
          go_wp2_with fail
          refine (pick g (m + 2 + 2 * k) 24 wr hrd (by omega) (by omega) (by omega)).mono ?_
          rintro e wa ⟨r4, rfl, hr40, hr41, hrda, ca⟩
          have hoa := OwnRecs.chg ho ca (fun j _ hj e => by omega)
          have za := ca.size
          by_cases hq4 : r4 = 0
          · subst hq4
            go_wp2_with fail
            refine (pick g (m + 2 + 2 * k + 1) os.length wa hrda (by omega) H1L.out (by omega)).mono ?_
            rintro e wb ⟨r5, rfl, hr50, hr51, hrdb, cb⟩
            obtain ⟨t, rfl⟩ : ∃ t : Nat, r5 = t := ⟨r5.toNat, by omega⟩
            have hob := OwnRecs.chg hoa cb (fun j _ hj e => by omega)
            have zb := cb.size
            go_wp2_with fail
            refine (Hof.out g (m + 2 + 2 * k + 1 + 1) 3 wb.heap.size (wb.alloc (.cells (tags2.map txt).toArray 9)) (hrdb.new ((New.refl _).alloc _)) (by omega) (by omega) (by omega) (by omega) (lit_cells wb tags2 _ (by decide))).mono ?_
            rintro e wc ⟨lc, rfl, hlc, hrdc, cc⟩
            have nc : Chg (fun j => j = g) wb wc := (((New.refl wb).alloc (.cells (tags2.map txt).toArray 9)).chg _).trans cc
            have zc := nc.size
            have hoc := OwnRecs.chg hob nc (fun j _ hj e => by omega)
            obtain ⟨o, hto⟩ := get_of (xs := os) (k := t) (by omega)
            obtain ⟨g0, g1⟩ := holdFlds_get hto
            obtain ⟨b, c', u0, e1, hSb, hlb, hc1, hf1, ho1⟩ := OwnRecs.at hoc g1
            simp only [Value.slice.injEq] at e1
            obtain ⟨rfl, -, rfl⟩ := e1
            have hput := OwnRecs.putTxt hoc g1 (y := lc) (by unfold maxLen; omega)
            rw [holdFlds_tag hto lc] at hput
            have cs := chg_set1 wc b (t * 2 + 1) (txt lc)
            have hrde := hrdc.chg cs (fun j e => by omega)
            have Hto := Lib.hid hto
            have call : Chg (fun j => j = g) w wc := ((Hch.out.trans ca).trans cb).trans nc
            have call2 : Chg (fun j => j = g) w (wc.setCell ⟨b, t * 2 + 1, none⟩ (txt lc)) := call.step cs (fun j hj e => by omega)
            clear hto g0 g1 hoa hob hoc ho1 cc nc ca cb cs hrda hrdb hrdc
            unfold txt at hput hrde call2 ⊢
            go_wp2_with fail
            go_ret
            refine ⟨_, os.set t ⟨o.snap, lc⟩, rfl, by simpa using hol, fun y hy => ?_, ?_, hrde.mono (by omega), call2⟩
            · rcases List.mem_or_eq_of_mem_set hy with hy | rfl
              · exact Hund.out y hy
              · exact ⟨(Hund.out o (List.mem_of_getElem? Hto.out)).1, hlc⟩
            · unfold OwnHolds
              rw [List.length_set]
              exact hput
          · have hq4' : (r4 == 0) = false := by simp [hq4]
            go_wp2_with fail
            go_ret
            exact ⟨_, os, rfl, hol, Hund.out, hoa, hrda.mono (by omega), Hch.out.trans ca⟩
  · have hq' : (r2 == 0) = false := by simp [hq]
    have hN0 : (0 : Int) ≤ n0 := hn00
    have hN1 : n0 < 31 := by omega
    clear hnn hn00 hn01
    go_wp2_with fail
    generalize n0 = N at hN0 hN1 ⊢
    have hNn : ∃ Nn : Nat, N = (Nn : Int) ∧ Nn ≤ 30 := ⟨N.toNat, by omega, by omega⟩
    obtain ⟨Nn, rfl, hNn⟩ := hNn
    clear hN0 hN1
    go_loopg [3, 5] Nn (fun gk s3 i wr => ∃ (k : Nat) (os : List HoldR), gk = Nn - k ∧ k ≤ Nn ∧ i = .int .i64 k ∧ os.length ≤ 8 ∧ (∀ o ∈ os, Hund o) ∧ OwnHolds (fun j => w.heap.size ≤ j) wr s3 os ∧ Rd g wr (m + 2 + 2 * k) ∧ Chg (fun j => j = g) w wr)
    case atStart => exact ⟨0, [], by omega, by omega, rfl, by simp, by simp, O0.out, h2, c02⟩
    case round =>
      obtain ⟨k, os, hgk, hk, rfl, hol, hund, ho, hrd, hch⟩ := hrel
      have Hgk := Lib.hid hgk
      have Hund := Lib.hid hund
      have Hch := Lib.hid hch
      have zr := hch.size
      clear hgk hund hch
      obtain ⟨a3, c3, rfl, -⟩ := ho.shape
      by_cases hlt : k < Nn
      · go_wp2_with fail
        refine (Hof.out g (m + 2 + 2 * k) 4 wr.heap.size (wr.alloc (.cells (snaps1.map txt).toArray 9)) (hrd.new ((New.refl _).alloc _)) (by omega) (by omega) (by omega) (by omega) (lit_cells wr snaps1 _ (by decide))).mono ?_
        rintro e wa ⟨la, rfl, hla, hrda, ca⟩
        have na : Chg (fun j => j = g) wr wa := (((New.refl wr).alloc (.cells (snaps1.map txt).toArray 9)).chg _).trans ca
        have za := na.size
        unfold txt
        go_wp2_with fail
        refine (Hof.out g (m + 2 + 2 * k + 1) 3 wa.heap.size (wa.alloc (.cells (tags1.map txt).toArray 9)) (hrda.new ((New.refl _).alloc _)) (by omega) (by omega) (by omega) (by omega) (lit_cells wa tags1 _ (by decide))).mono ?_
        rintro e wb ⟨lb, rfl, hlb, hrdb, cb⟩
        have nb : Chg (fun j => j = g) wr wb := na.trans ((((New.refl wa).alloc (.cells (tags1.map txt).toArray 9)).chg _).trans cb)
        have zb := nb.size
        have hob := OwnRecs.chg ho nb (fun j _ hj e => by omega)
        have hcall := Hput.out _ _ os ⟨la, lb⟩ wb (OwnRecs.recs hob) (fun o ho => (Hund.out o ho).sm) ⟨by simp only; omega, by simp only; omega⟩
        have hps := putR_small Hund.out (x := ⟨la, lb⟩) ⟨hla, hlb⟩ hol
        have Hcall := Lib.hid hcall
        have Hps := Lib.hid hps
        have Nb := Lib.hid nb
        clear na ca cb nb hcall hps hrda ho hrd
        unfold txt
        go_wp2_with fail
        refine Hcall.out.mono ?_
        intro e wc hpost
        unfold HoldPost at hpost
        have hps := Hps.out
        generalize putR os ⟨la, lb⟩ = rr at hpost hps
        obtain ⟨r, ok⟩ := rr
        obtain ⟨vr, rfl, hor, nc⟩ := hpost
        simp only at hor hps
        have zc := nc.size
        have hrdc := hrdb.new nc
        have hcc : Chg (fun j => j = g) w wc := (Hch.out.trans Nb.out).trans (nc.chg _)
        rcases ok with _ | _
        · have hoc := OwnRecs.new hob nc
          clear hor hps
          go_wp2_with fail
          go_roundg (Nn - (k + 1))
          case measure => rw [Hgk.out]; omega
          case rel => exact ⟨k + 1, os, rfl, by omega, by go_num, hol, Hund.out, hoc, hrdc.mono (by omega), hcc⟩
        · obtain ⟨av, cv, rfl, -⟩ := hor.shape
          have Hps2 := Lib.hid hps
          clear hps
          go_wp2_with fail
          go_roundg (Nn - (k + 1))
          case measure => rw [Hgk.out]; omega
          case rel => exact ⟨k + 1, r, rfl, by omega, by go_num, Hps2.out.2, Hps2.out.1, hor.mono (fun j _ hj => by omega), hrdc.mono (by omega), hcc⟩
      · by_cases h0 : os.length = 0
        · have hnil : os = [] := List.eq_nil_of_length_eq_zero h0
          subst hnil
          clear h0
          go_wp2_with fail
          go_ret
          exact ⟨_, [], rfl, hol, Hund.out, ho, hrd.mono (by omega), Hch.out⟩
        · have h0' : (0 : Int) < (os.length : Int) := by omega
          have h0d : decide ((0 : Int) < (os.length : Int)) = true := by simp; omega
          have hne : ¬ (os = []) := fun e => h0 (by rw [e]; rfl)
          have H0 := Lib.hid h0
          clear h0
          have h1L : (1 : Int) ≤ (os.length : Int) := by omega
          have H1L := Lib.hid h1L
          clear h1L
          go_wp2_with fail
          refine (pick g (m + 2 + 2 * k) 24 wr hrd (by omega) (by omega) (by omega)).mono ?_
          rintro e wa ⟨r4, rfl, hr40, hr41, hrda, ca⟩
          have hoa := OwnRecs.chg ho ca (fun j _ hj e => by omega)
          have za := ca.size
          by_cases hq4 : r4 = 0
          · subst hq4
            go_wp2_with fail
            refine (pick g (m + 2 + 2 * k + 1) os.length wa hrda (by omega) H1L.out (by omega)).mono ?_
            rintro e wb ⟨r5, rfl, hr50, hr51, hrdb, cb⟩
            obtain ⟨t, rfl⟩ : ∃ t : Nat, r5 = t := ⟨r5.toNat, by omega⟩
            have hob := OwnRecs.chg hoa cb (fun j _ hj e => by omega)
            have zb := cb.size
            go_wp2_with fail
            refine (Hof.out g (m + 2 + 2 * k + 1 + 1) 3 wb.heap.size (wb.alloc (.cells (tags2.map txt).toArray 9)) (hrdb.new ((New.refl _).alloc _)) (by omega) (by omega) (by omega) (by omega) (lit_cells wb tags2 _ (by decide))).mono ?_
            rintro e wc ⟨lc, rfl, hlc, hrdc, cc⟩
            have nc : Chg (fun j => j = g) wb wc := (((New.refl wb).alloc (.cells (tags2.map txt).toArray 9)).chg _).trans cc
            have zc := nc.size
            have hoc := OwnRecs.chg hob nc (fun j _ hj e => by omega)
            obtain ⟨o, hto⟩ := get_of (xs := os) (k := t) (by omega)
            obtain ⟨g0, g1⟩ := holdFlds_get hto
            obtain ⟨b, c', u0, e1, hSb, hlb, hc1, hf1, ho1⟩ := OwnRecs.at hoc g1
            simp only [Value.slice.injEq] at e1
            obtain ⟨rfl, -, rfl⟩ := e1
            have hput := OwnRecs.putTxt hoc g1 (y := lc) (by unfold maxLen; omega)
            rw [holdFlds_tag hto lc] at hput
            have cs := chg_set1 wc b (t * 2 + 1) (txt lc)
            have hrde := hrdc.chg cs (fun j e => by omega)
            have Hto := Lib.hid hto
            have call : Chg (fun j => j = g) w wc := ((Hch.out.trans ca).trans cb).trans nc
            have call2 : Chg (fun j => j = g) w (wc.setCell ⟨b, t * 2 + 1, none⟩ (txt lc)) := call.step cs (fun j hj e => by omega)
            clear hto g0 g1 hoa hob hoc ho1 cc nc ca cb cs hrda hrdb hrdc
            unfold txt at hput hrde call2 ⊢
            go_wp2_with fail
            go_ret
            refine ⟨_, os.set t ⟨o.snap, lc⟩, rfl, by simpa using hol, fun y hy => ?_, ?_, hrde.mono (by omega), call2⟩
            · rcases List.mem_or_eq_of_mem_set hy with hy | rfl
              · exact Hund.out y hy
              · exact ⟨(Hund.out o (List.mem_of_getElem? Hto.out)).1, hlc⟩
            · unfold OwnHolds
              rw [List.length_set]
              exact hput
          · have hq4' : (r4 == 0) = false := by simp [hq4]
            go_wp2_with fail
            go_ret
            exact ⟨_, os, rfl, hol, Hund.out, hoa, hrda.mono (by omega), Hch.out.trans ca⟩
end Go.Proofs.Ytapobonfnjgnoaa
