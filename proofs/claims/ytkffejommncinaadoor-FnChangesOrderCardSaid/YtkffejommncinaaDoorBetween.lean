/- changesBetween. Printed by gen_between.py. -/
import Derived.Test.YtkffejommncinaaDoorChangeRow
import Derived.Test.YtkffejommncinaaDoorItemSame
import Derived.Test.YtkffejommncinaaDoorKindOf
import Derived.Test.YtkffejommncinaaDoorItemsTail
namespace Go.Proofs.YtkffejommncinaaDoor
open Go.RowKit

theorem slChg : SliceOf Tryd.prog 87 90 .nilIface 1 16 := by refine ⟨by kernel_rfl, by kernel_rfl, rfl, by decide⟩

/-- cells that hold changes whose numbers lie in w0 -/
def ChVf (w0 : World) (us : List Value) (D : List ChR) : Prop :=
  us.length = D.length ∧ ∀ (i : Nat) c, D[i]? = some c → ∃ t, us[i]? = some (chV c t) ∧ kindOk c ∧ c.item.path.length ≤ maxLen ∧ Ints Any w0 t c.item.ids
theorem ChVf.append {w0 : World} {us ts : List Value} {D E : List ChR} (h : ChVf w0 us D) (g : ChVf w0 ts E) : ChVf w0 (us ++ ts) (D ++ E) := by
  refine ⟨by simp [h.1, g.1], fun i c hc => ?_⟩
  rw [List.getElem?_append] at hc
  rw [List.getElem?_append, h.1]
  split at hc
  · rename_i hi
    rw [if_pos hi]
    exact h.2 i c hc
  · rename_i hi
    rw [if_neg hi]
    exact g.2 _ c hc
theorem ChVf.one {w0 : World} {c : ChR} {t : Value} (hk : kindOk c) (hl : c.item.path.length ≤ maxLen) (hu : Ints Any w0 t c.item.ids) : ChVf w0 [chV c t] [c] := by
  refine ⟨rfl, fun i d hd => ?_⟩
  match i, hd with
  | 0, hd => cases hd; exact ⟨t, rfl, hk, hl, hu⟩
  | _ + 1, hd => simp at hd
def ChVs (lo : Nat) (w0 w : World) (v : Value) (D : List ChR) : Prop := ∃ us, Row 90 1 (fun j => lo ≤ j) w v D.length us ∧ ChVf w0 us D
theorem ChVs.push {lo : Nat} {w0 w8 w9 : World} {v v' : Value} {D E : List ChR} {us ts : List Value} (r1 : Row 90 1 (fun j => lo ≤ j) w8 v D.length us) (f1 : ChVf w0 us D) (g : ChVf w0 ts E)
    (q9 : Row 90 1 (fun j => v.ownBlock = some j ∨ w8.heap.size < j) w9 v' (D.length + E.length) (us ++ ts)) (hB : lo ≤ w8.heap.size) : ChVs lo w0 w9 v' (D ++ E) := by
  refine ⟨us ++ ts, ?_, f1.append g⟩
  rw [List.length_append]
  exact q9.mono fun j _ hj => by
    rcases hj with hj | hj
    · exact r1.2 j hj
    · omega
theorem ChVs.new {lo : Nat} {w0 w w' : World} {v : Value} {D : List ChR} (h : ChVs lo w0 w v D) (n : New w w') : ChVs lo w0 w' v D := by
  obtain ⟨us, r, f⟩ := h
  exact ⟨us, r.new n, f⟩
theorem chV_gone (o : ItemR) (u : Value) : chV ⟨2, o⟩ u = .iface 109 (.agg #[.string ⟨o.path.toArray⟩, .bool o.dir, u]) := rfl
theorem chV_new (o : ItemR) (u : Value) : chV ⟨1, o⟩ u = .iface 110 (.agg #[.string ⟨o.path.toArray⟩, .bool o.dir, u]) := rfl
theorem chV_other (o : ItemR) (u : Value) : chV ⟨3, o⟩ u = .iface 111 (.agg #[.string ⟨o.path.toArray⟩, .bool o.dir, u]) := rfl
theorem Items.first {S : Nat → Prop} {w : World} {v : Value} {o : ItemR} {r : List ItemR} (h : Items S w v (o :: r)) :
    ∃ b off c u, v = .slice (some ⟨b, off, none⟩) (r.length + 1) c ∧ b < w.heap.size ∧ w.cell? ⟨b, off, none⟩ = some (.string ⟨o.path.toArray⟩) ∧ w.cell? ⟨b, off + 1, none⟩ = some (.bool o.dir) ∧ w.cell? ⟨b, off + 2, none⟩ = some u ∧
      o.path.length ≤ maxLen ∧ Ints Any w u o.ids ∧ Items S w (.slice (if c = 1 then some ⟨b, off, none⟩ else some ⟨b, off + 3, none⟩) r.length (c - 1)) r ∧ r.length + 1 ≤ c ∧ c ≤ maxLen := by
  obtain ⟨b, off, c, u, e, hb, c0, c1, c2, lp, r2⟩ := Items.at h (i := 0) (o := o) rfl
  subst e
  rw [show off + 0 * 3 = off by omega] at c0 c1 c2
  obtain ⟨-, a', c', e, h1, h2, -⟩ := id h
  simp only [Value.slice.injEq] at e
  obtain ⟨-, -, rfl⟩ := e
  exact ⟨b, off, c, u, rfl, hb, c0, c1, c2, lp, r2.mono (fun _ _ _ => trivial), Items.tail h, by simpa using h1, h2⟩

def BetweenPost (r : List ChR) (w : World) (e : Ending) (w' : World) : Prop :=
  ∃ v, e = .returned v ∧ ChVs w.heap.size w w' v r ∧ New w w'

set_option maxRecDepth 4000 in
set_option maxHeartbeats 8000000 in
theorem between {S T : Nat → Prop} (v u : Value) (os ps : List ItemR) (w : World) (h : Items S w v os) (g : Items T w u ps) (hl : os.length ≤ 12) (gl : ps.length ≤ 12) :
    Calls Tryd.prog 63 #[v, u] w (BetweenPost (chgs os ps) w) := by
  have h0 := Lib.hid h
  have g0 := Lib.hid g
  obtain ⟨-, a, c, rfl, h1, h2, -⟩ := h
  obtain ⟨-, a', c', rfl, g1, g2, -⟩ := g
  unfold maxLen at h2 g2
  have D0 : ChVs w.heap.size w w (.slice none 0 0) [] := ⟨[], Row.nil _ _ _ _, rfl, fun i c hc => by simp at hc⟩
  have DD0 := Lib.hid D0
  clear D0
  go_enter Tryd.func63, Tryd.ntmps63
  go_wp2_with fail
  go_loopg [0, 1, 5] (os.length + ps.length) (fun gk s0 s1 s5 wr => ∃ (zs bs : List ItemR) (D : List ChR) (a b : Option Addr) (n m ca cb : Nat), gk = n + m ∧ s0 = .slice a n ca ∧ s1 = .slice b m cb ∧ n ≤ 12 ∧ m ≤ 12 ∧ D.length + n + m ≤ 24 ∧ New w wr ∧
    Hid (zs.length = n) ∧ Hid (bs.length = m) ∧ Hid (Items S w (.slice a n ca) zs) ∧ Hid (Items T w (.slice b m cb) bs) ∧ Hid (ChVs w.heap.size w wr s5 D) ∧ Hid (D ++ chgs zs bs = chgs os ps))
  case atStart => exact ⟨os, ps, [], a, a', os.length, ps.length, c, c', rfl, rfl, rfl, by omega, by omega, by simp; omega, New.refl _, Lib.hid rfl, Lib.hid rfl, h0, g0, DD0, Lib.hid rfl⟩
  case round =>
    clear h0 g0 DD0 h1 h2 g1 g2
    obtain ⟨zs, bs, D, a, b, n, m, ca, cb, hgk, rfl, rfl, hn12, hm12, hDl, hn, La, Lb, IA, IB, ho, He⟩ := hrel
    have Hgk := Lib.hid hgk
    have z0 := hn.size
    clear hgk
    by_cases hbm : 0 < m
    · obtain ⟨p, ys, rfl⟩ : ∃ p ys, bs = p :: ys := by
        have := Lb.out
        cases bs with
        | nil => simp at this; omega
        | cons p ys => exact ⟨p, ys, rfl⟩
      obtain ⟨bp, offp, cp, up, e1, hbp, p0, p1, p2, lpp, rp, tp, kp, mp⟩ := Items.first IB.out
      simp only [Value.slice.injEq] at e1
      obtain ⟨rfl, rfl, rfl⟩ := e1
      unfold maxLen at mp
      have Tp := Lib.hid tp
      have Lpp := Lib.hid lpp
      have Rp := Lib.hid rp
      obtain ⟨ap, qp, rfl, -⟩ := id rp
      have Zp := Lib.hid (And.intro p0 (And.intro p1 p2))
      clear lpp rp tp p0 p1 p2 Lb
      have hmb : ((ys.length : Int) + 1 == 0) = false := by simp; omega
      by_cases han : 0 < n
      · obtain ⟨o, xs, rfl⟩ : ∃ o xs, zs = o :: xs := by
          have := La.out
          cases zs with
          | nil => simp at this; omega
          | cons o xs => exact ⟨o, xs, rfl⟩
        obtain ⟨bo, offo, co, uo, e1, hbo, o0, o1, o2, lpo, ro, to, ko, mo⟩ := Items.first IA.out
        simp only [Value.slice.injEq] at e1
        obtain ⟨rfl, rfl, rfl⟩ := e1
        unfold maxLen at mo
        have To := Lib.hid to
        have Lpo := Lib.hid lpo
        have Ro := Lib.hid ro
        obtain ⟨ao, qo, rfl, -⟩ := id ro
        have Zo := Lib.hid (And.intro o0 (And.intro o1 o2))
        clear lpo ro to o0 o1 o2 La
        have hmn : ((xs.length : Int) + 1 == 0) = false := by simp; omega
        have hl1 := less_is o.path p.path
        have hl2 := less_is p.path o.path
        rcases hs1 : sLt o.path p.path with _ | _
        · rw [hs1] at hl1
          rcases hs2 : sLt p.path o.path with _ | _
          · rw [hs2] at hl2
            have hst : chgs (o :: xs) (p :: ys) = diffs o p ++ chgs xs ys := by rw [chgs, if_neg (by rw [hs1]; simp), if_neg (by rw [hs2]; simp)]
            have Hst := Lib.hid hst
            clear hs1 hs2 hst
            obtain ⟨us, r1, f1⟩ := ho.out
            obtain ⟨av, cv, rfl, x1, x2, -, -⟩ := r1.shape
            unfold maxLen at x2
            have R1 := Lib.hid r1
            have F1 := Lib.hid f1
            clear r1 f1 ho
            obtain ⟨o0, o1, o2⟩ := Zo.out
            replace o0 := (hn).cell o0
            replace o1 := (hn).cell o1
            replace o2 := (hn).cell o2
            obtain ⟨p0, p1, p2⟩ := Zp.out
            replace p0 := (hn).cell p0
            replace p1 := (hn).cell p1
            replace p2 := (hn).cell p2
            go_wp2_with fail
            go_quiet (fail)
            have nq1 : New wr (wr.drewN nq) := (New.refl wr).drewN nq
            generalize wr.drewN nq = wq1 at *
            have hq1 : New w wq1 := (hn).trans nq1
            have zq1 := nq1.size
            clear o0 o1 o2 p0 p1 p2
            obtain ⟨o0, o1, o2⟩ := Zo.out
            replace o0 := (hq1).cell o0
            replace o1 := (hq1).cell o1
            replace o2 := (hq1).cell o2
            obtain ⟨p0, p1, p2⟩ := Zp.out
            replace p0 := (hq1).cell p0
            replace p1 := (hq1).cell p1
            replace p2 := (hq1).cell p2
            go_wp2_with fail
            go_quiet (fail)
            have nq2 : New wq1 (wq1.drewN nq) := (New.refl wq1).drewN nq
            generalize wq1.drewN nq = wq2 at *
            have hq2 : New w wq2 := (hq1).trans nq2
            have zq2 := nq2.size
            clear o0 o1 o2 p0 p1 p2
            obtain ⟨o0, o1, o2⟩ := Zo.out
            replace o0 := (hq2).cell o0
            replace o1 := (hq2).cell o1
            replace o2 := (hq2).cell o2
            obtain ⟨p0, p1, p2⟩ := Zp.out
            replace p0 := (hq2).cell p0
            replace p1 := (hq2).cell p1
            replace p2 := (hq2).cell p2
            by_cases hd : p.dir = o.dir
            · have hdf : diffs o p = if o = p then [] else [⟨3, p⟩] := by unfold diffs; rw [if_neg (by simp [hd])]
              have Hdf := Lib.hid hdf
              rw [hd] at p1
              clear hdf hd
              go_wp2_with fail
              go_quiet (fail)
              have nq3 : New wq2 (wq2.drewN nq) := (New.refl wq2).drewN nq
              generalize wq2.drewN nq = wq3 at *
              have hq3 : New w wq3 := (hq2).trans nq3
              have zq3 := nq3.size
              clear o0 o1 o2 p0 p1 p2
              have n4 : New wq3 (wq3.drewN 1) := (New.refl wq3).drewN 1
              have hq4 := hq3.trans n4
              obtain ⟨o0, o1, o2⟩ := Zo.out
              replace o0 := (hq4).cell o0
              replace o1 := (hq4).cell o1
              replace o2 := (hq4).cell o2
              obtain ⟨p0, p1, p2⟩ := Zp.out
              replace p0 := (hq4).cell p0
              replace p1 := (hq4).cell p1
              replace p2 := (hq4).cell p2
              have hcall := itemEqual o p _ _ (wq3.drewN 1) (Ro.out.new hq4) (Rp.out.new hq4)
              have zq4 := n4.size
              unfold txt at hcall
              have Hcall := Lib.hid hcall
              clear hcall
              by_cases hop : o = p
              · have hdc : decide (o = p) = true := by simp [hop]
                rw [hdc] at Hcall
                have hdf := Hdf.out
                rw [if_pos hop] at hdf
                have Hdf2 := Lib.hid hdf
                clear hdc hdf Hdf hop
                go_wp2
                refine wp_region_still_tail 6 (by kernel_rfl) (by kernel_rfl) ?_
                simp only [List.take_succ_cons, List.take_zero, List.drop_succ_cons, List.drop_zero]
                change wpStill _ _ (wq3.drewN 1) (fun a' => wpList _ _ _ _ a' (wq3.drewN 1)) _ _
                generalize wq3.drewN 1 = w4 at *
                iterate 6 still_step
                refine wpStill_nil ?_
                go_wp2_with fail
                refine Hcall.out.mono ?_
                rintro e w5 ⟨rfl, n5⟩
                have hq5 := hq4.trans n5
                have zq5 := n5.size
                have o5 : ChVs w.heap.size w w5 (.slice av D.length cv) D := ⟨us, ((((R1.out.new nq1).new nq2).new nq3).new n4).new n5, F1.out⟩
                have O5 := Lib.hid o5
                clear o5 o0 o1 o2 p0 p1 p2
                go_wp2_with fail
                go_quiet (fail)
                have nq6 : New w5 (w5.drewN nq) := (New.refl w5).drewN nq
                have hq6 : New w (w5.drewN nq) := (hq5).trans nq6
                have O6 := Lib.hid (O5.out.new nq6)
                generalize w5.drewN nq = wq6 at *
                generalize (if ca = 1 then some (⟨bo, offo, none⟩ : Addr) else some ⟨bo, offo + 3, none⟩) = A0 at To ⊢
                generalize (if cb = 1 then some (⟨bp, offp, none⟩ : Addr) else some ⟨bp, offp + 3, none⟩) = B0 at Tp ⊢
                go_wp2_with fail
                go_roundg (xs.length + ys.length)
                case measure => rw [Hgk.out]; omega
                case rel => exact ⟨xs, ys, D, _, _, xs.length, ys.length, _, _, rfl, rfl, rfl, by omega, by omega, by omega, hq6, Lib.hid rfl, Lib.hid rfl, To, Tp, O6, Lib.hid (by rw [← He.out, Hst.out, Hdf2.out]; simp)⟩
              · have hdc : decide (o = p) = false := by simp [hop]
                rw [hdc] at Hcall
                have hdf := Hdf.out
                rw [if_neg hop] at hdf
                have Hdf2 := Lib.hid hdf
                clear hdc hdf Hdf hop
                go_wp2
                refine wp_region_still_tail 6 (by kernel_rfl) (by kernel_rfl) ?_
                simp only [List.take_succ_cons, List.take_zero, List.drop_succ_cons, List.drop_zero]
                change wpStill _ _ (wq3.drewN 1) (fun a' => wpList _ _ _ _ a' (wq3.drewN 1)) _ _
                generalize wq3.drewN 1 = w4 at *
                iterate 6 still_step
                refine wpStill_nil ?_
                go_wp2_with fail
                refine Hcall.out.mono ?_
                rintro e w5 ⟨rfl, n5⟩
                have hq5 := hq4.trans n5
                have zq5 := n5.size
                clear o0 o1 o2 p0 p1 p2
                obtain ⟨p0, p1, p2⟩ := Zp.out
                replace p0 := (hq5).cell p0
                replace p1 := (hq5).cell p1
                replace p2 := (hq5).cell p2
                have S1 := Lib.hid (((((R1.out.new nq1).new nq2).new nq3).new n4).new n5)
                go_wp2_with first
                  | (at_builtin; refine wpRow_append1 slChg _ _ rfl rfl (.slice av D.length cv) D.length us (.iface 111 (.agg #[.string ⟨p.path.toArray⟩, .bool p.dir, .slice ap p.ids.length qp])) 90 rfl S1.out rfl rfl (by omega) (by decide) ?_; intro va wa qa cq)
                  | fail
                have oa := ChVs.push (E := [⟨3, p⟩]) S1.out F1.out (ChVf.one (c := ⟨3, p⟩) (.inr (.inr rfl)) Lpp.out Rp.out) qa (by omega)
                have na : New w wa := (hq5).trans_chg cq (fun j hj e => by have := S1.out.2 j e; omega)
                have Oa := Lib.hid oa
                obtain ⟨au, cu, rfl, -⟩ := qa.shape
                clear oa qa cq
                go_wp2_with fail
                go_quiet (fail)
                have nq6 : New wa (wa.drewN nq) := (New.refl wa).drewN nq
                have hq6 : New w (wa.drewN nq) := (na).trans nq6
                have O6 := Lib.hid (Oa.out.new nq6)
                generalize wa.drewN nq = wq6 at *
                generalize (if ca = 1 then some (⟨bo, offo, none⟩ : Addr) else some ⟨bo, offo + 3, none⟩) = A0 at To ⊢
                generalize (if cb = 1 then some (⟨bp, offp, none⟩ : Addr) else some ⟨bp, offp + 3, none⟩) = B0 at Tp ⊢
                go_wp2_with fail
                go_roundg (xs.length + ys.length)
                case measure => rw [Hgk.out]; omega
                case rel => exact ⟨xs, ys, D ++ [⟨3, p⟩], _, _, xs.length, ys.length, _, _, rfl, rfl, rfl, by omega, by omega, by simp; omega, hq6, Lib.hid rfl, Lib.hid rfl, To, Tp, O6, Lib.hid (by rw [← He.out, Hst.out, Hdf2.out]; simp)⟩
            · have hdn : p.dir = !o.dir := by revert hd; cases o.dir <;> cases p.dir <;> simp
              have hdf : diffs o p = [⟨2, o⟩, ⟨1, p⟩] := by unfold diffs; rw [if_pos (by rw [hdn]; simp)]
              have Hdf := Lib.hid hdf
              rw [hdn] at p1
              clear hdf hd hdn
              go_wp2_with fail
              go_quiet (fail)
              have nq3 : New wq2 (wq2.drewN nq) := (New.refl wq2).drewN nq
              generalize wq2.drewN nq = wq3 at *
              have hq3 : New w wq3 := (hq2).trans nq3
              have zq3 := nq3.size
              clear o0 o1 o2 p0 p1 p2
              have n4 : New wq3 wq3.drew := (New.refl wq3).drew
              have zq4 : wq3.drew.heap.size = wq3.heap.size := rfl
              have hq4 := hq3.trans n4
              have R3 := Lib.hid ((((R1.out.new nq1).new nq2).new nq3).new n4)
              have hno : ¬ ((Value.slice av D.length cv).ownBlock = some bo) := fun e => by have := R3.out.2 bo e; omega
              have hnp : ¬ ((Value.slice av D.length cv).ownBlock = some bp) := fun e => by have := R3.out.2 bp e; omega
              have Hno := Lib.hid hno
              have Hnp := Lib.hid hnp
              clear hno hnp R1
              obtain ⟨o0, o1, o2⟩ := Zo.out
              replace o0 := (hq4).cell o0
              replace o1 := (hq4).cell o1
              replace o2 := (hq4).cell o2
              obtain ⟨p0, p1, p2⟩ := Zp.out
              replace p0 := (hq4).cell p0
              replace p1 := (hq4).cell p1
              replace p2 := (hq4).cell p2
              go_wp2_with fail
              go_region_held3 (fun w' => w'.cell? ⟨bo, offo, none⟩ = some (.string ⟨o.path.toArray⟩) ∧ w'.cell? ⟨bo, offo + 1, none⟩ = some (.bool o.dir) ∧ w'.cell? ⟨bo, offo + 2, none⟩ = some (.slice ao o.ids.length qo) ∧
                  w'.cell? ⟨bp, offp, none⟩ = some (.string ⟨p.path.toArray⟩) ∧ w'.cell? ⟨bp, offp + 1, none⟩ = some (.bool p.dir) ∧ w'.cell? ⟨bp, offp + 2, none⟩ = some (.slice ap p.ids.length qp))
                (first | exact ⟨o0, o1, o2, p0, p1, p2⟩ | exact ⟨((New.refl wq3.drew).alloc _).cell o0, ((New.refl wq3.drew).alloc _).cell o1, ((New.refl wq3.drew).alloc _).cell o2, ((New.refl wq3.drew).alloc _).cell p0, ((New.refl wq3.drew).alloc _).cell p1, ((New.refl wq3.drew).alloc _).cell p2⟩ | exact ⟨cq.cell o0 Hno.out, cq.cell o1 Hno.out, cq.cell o2 Hno.out, cq.cell p0 Hnp.out, cq.cell p1 Hnp.out, cq.cell p2 Hnp.out⟩)
                (first
                  | (refine stepRow_appendMany (S := fun j => w.heap.size ≤ j) slChg _ _ rfl rfl (.slice av D.length cv) D.length 2 us [.iface 109 (.agg #[.string ⟨o.path.toArray⟩, .bool o.dir, .slice ao o.ids.length qo]), .iface 110 (.agg #[.string ⟨p.path.toArray⟩, .bool p.dir, .slice ap p.ids.length qp])] 90 rfl R3.out rfl (by intro u hu; simp at hu; rcases hu with rfl | rfl <;> rfl) rfl (by omega) (by decide) ?_; intro va wa qa cq))
              have oa := ChVs.push (E := [⟨2, o⟩, ⟨1, p⟩]) R3.out F1.out ((ChVf.one (c := ⟨2, o⟩) (.inr (.inl rfl)) Lpo.out Ro.out).append (ChVf.one (c := ⟨1, p⟩) (.inl rfl) Lpp.out Rp.out)) qa (by omega)
              have na : New w wa := (hq4).trans_chg cq (fun j hj e => by have := R3.out.2 j e; omega)
              have Oa := Lib.hid oa
              obtain ⟨au, cu, rfl, -⟩ := qa.shape
              clear oa qa cq o0 o1 o2 p0 p1 p2
              go_wp2_with fail
              go_quiet (fail)
              have nq6 : New wa (wa.drewN nq) := (New.refl wa).drewN nq
              have hq6 : New w (wa.drewN nq) := (na).trans nq6
              have O6 := Lib.hid (Oa.out.new nq6)
              generalize wa.drewN nq = wq6 at *
              generalize (if ca = 1 then some (⟨bo, offo, none⟩ : Addr) else some ⟨bo, offo + 3, none⟩) = A0 at To ⊢
              generalize (if cb = 1 then some (⟨bp, offp, none⟩ : Addr) else some ⟨bp, offp + 3, none⟩) = B0 at Tp ⊢
              go_wp2_with fail
              go_roundg (xs.length + ys.length)
              case measure => rw [Hgk.out]; omega
              case rel => exact ⟨xs, ys, D ++ [⟨2, o⟩, ⟨1, p⟩], _, _, xs.length, ys.length, _, _, rfl, rfl, rfl, by omega, by omega, by simp; omega, hq6, Lib.hid rfl, Lib.hid rfl, To, Tp, O6, Lib.hid (by rw [← He.out, Hst.out, Hdf.out]; simp)⟩
          · rw [hs2] at hl2
            have hst : chgs (o :: xs) (p :: ys) = ⟨1, p⟩ :: chgs (o :: xs) ys := by rw [chgs, if_neg (by rw [hs1]; simp), if_pos hs2]
            have Hst := Lib.hid hst
            clear hs1 hs2 hst
            obtain ⟨us, r1, f1⟩ := ho.out
            obtain ⟨av, cv, rfl, x1, x2, -, -⟩ := r1.shape
            unfold maxLen at x2
            have R1 := Lib.hid r1
            have F1 := Lib.hid f1
            clear r1 f1 ho
            obtain ⟨o0, o1, o2⟩ := Zo.out
            replace o0 := (hn).cell o0
            replace o1 := (hn).cell o1
            replace o2 := (hn).cell o2
            obtain ⟨p0, p1, p2⟩ := Zp.out
            replace p0 := (hn).cell p0
            replace p1 := (hn).cell p1
            replace p2 := (hn).cell p2
            go_wp2_with fail
            go_quiet (fail)
            have nq1 : New wr (wr.drewN nq) := (New.refl wr).drewN nq
            generalize wr.drewN nq = wq1 at *
            have hq1 : New w wq1 := (hn).trans nq1
            have zq1 := nq1.size
            clear o0 o1 o2 p0 p1 p2
            obtain ⟨o0, o1, o2⟩ := Zo.out
            replace o0 := (hq1).cell o0
            replace o1 := (hq1).cell o1
            replace o2 := (hq1).cell o2
            obtain ⟨p0, p1, p2⟩ := Zp.out
            replace p0 := (hq1).cell p0
            replace p1 := (hq1).cell p1
            replace p2 := (hq1).cell p2
            go_wp2_with fail
            go_quiet (fail)
            have nq2 : New wq1 (wq1.drewN nq) := (New.refl wq1).drewN nq
            generalize wq1.drewN nq = wq2 at *
            have hq2 : New w wq2 := (hq1).trans nq2
            have zq2 := nq2.size
            clear o0 o1 o2 p0 p1 p2
            obtain ⟨p0, p1, p2⟩ := Zp.out
            replace p0 := (hq2).cell p0
            replace p1 := (hq2).cell p1
            replace p2 := (hq2).cell p2
            have S1 := Lib.hid ((R1.out.new nq1).new nq2)
            go_wp2_with first
              | (at_builtin; refine wpRow_append1 slChg _ _ rfl rfl (.slice av D.length cv) D.length us (.iface 110 (.agg #[.string ⟨p.path.toArray⟩, .bool p.dir, .slice ap p.ids.length qp])) 90 rfl S1.out rfl rfl (by omega) (by decide) ?_; intro va wa qa cq)
              | fail
            all_goals
              have oa := ChVs.push (E := [⟨1, p⟩]) S1.out F1.out (ChVf.one (c := ⟨1, p⟩) (.inl rfl) Lpp.out Rp.out) qa (by omega)
              have na : New w wa := (hq2).trans_chg cq (fun j hj e => by have := S1.out.2 j e; omega)
              have Oa := Lib.hid oa
              clear oa qa cq
              go_roundg (xs.length + 1 + (ys.length))
              case measure => rw [Hgk.out]; omega
              case rel => exact ⟨o :: xs, ys, D ++ [⟨1, p⟩], _, _, xs.length + 1, ys.length, _, _, rfl, rfl, rfl, by omega, by omega, by simp; omega, na, Lib.hid (by simp), Lib.hid (by simp), IA, Lib.hid (by have t := Tp.out; first | (rw [if_pos h, h] at t; exact t) | (rw [if_pos h] at t; exact t) | (rw [if_neg h] at t; exact t) | exact t), Oa, Lib.hid (by rw [← He.out, Hst.out]; simp)⟩
        · rw [hs1] at hl1
          have hst : chgs (o :: xs) (p :: ys) = ⟨2, o⟩ :: chgs xs (p :: ys) := by rw [chgs, if_pos hs1]
          have Hst := Lib.hid hst
          clear hs1 hst hl2
          obtain ⟨us, r1, f1⟩ := ho.out
          obtain ⟨av, cv, rfl, x1, x2, -, -⟩ := r1.shape
          unfold maxLen at x2
          have R1 := Lib.hid r1
          have F1 := Lib.hid f1
          clear r1 f1 ho
          obtain ⟨o0, o1, o2⟩ := Zo.out
          replace o0 := (hn).cell o0
          replace o1 := (hn).cell o1
          replace o2 := (hn).cell o2
          obtain ⟨p0, p1, p2⟩ := Zp.out
          replace p0 := (hn).cell p0
          replace p1 := (hn).cell p1
          replace p2 := (hn).cell p2
          go_wp2_with fail
          go_quiet (fail)
          have nq1 : New wr (wr.drewN nq) := (New.refl wr).drewN nq
          generalize wr.drewN nq = wq1 at *
          have hq1 : New w wq1 := (hn).trans nq1
          have zq1 := nq1.size
          clear o0 o1 o2 p0 p1 p2
          obtain ⟨o0, o1, o2⟩ := Zo.out
          replace o0 := (hq1).cell o0
          replace o1 := (hq1).cell o1
          replace o2 := (hq1).cell o2
          have S1 := Lib.hid (R1.out.new nq1)
          go_wp2_with first
            | (at_builtin; refine wpRow_append1 slChg _ _ rfl rfl (.slice av D.length cv) D.length us (.iface 109 (.agg #[.string ⟨o.path.toArray⟩, .bool o.dir, .slice ao o.ids.length qo])) 90 rfl S1.out rfl rfl (by omega) (by decide) ?_; intro va wa qa cq)
            | fail
          all_goals
            have oa := ChVs.push (E := [⟨2, o⟩]) S1.out F1.out (ChVf.one (c := ⟨2, o⟩) (.inr (.inl rfl)) Lpo.out Ro.out) qa (by omega)
            have na : New w wa := (hq1).trans_chg cq (fun j hj e => by have := S1.out.2 j e; omega)
            have Oa := Lib.hid oa
            clear oa qa cq
            go_roundg (xs.length + (ys.length + 1))
            case measure => rw [Hgk.out]; omega
            case rel => exact ⟨xs, p :: ys, D ++ [⟨2, o⟩], _, _, xs.length, ys.length + 1, _, _, rfl, rfl, rfl, by omega, by omega, by simp; omega, na, Lib.hid (by simp), Lib.hid (by simp), Lib.hid (by have t := To.out; first | (rw [if_pos h, h] at t; exact t) | (rw [if_pos h] at t; exact t) | (rw [if_neg h] at t; exact t) | exact t), IB, Oa, Lib.hid (by rw [← He.out, Hst.out]; simp)⟩
      · obtain rfl : zs = [] := by
          have := La.out
          exact List.eq_nil_of_length_eq_zero (by omega)
        obtain rfl : n = 0 := by omega
        have hst : chgs [] (p :: ys) = ⟨1, p⟩ :: chgs [] ys := by rw [chgs]
        have Hst := Lib.hid hst
        clear hst
        obtain ⟨us, r1, f1⟩ := ho.out
        obtain ⟨av, cv, rfl, x1, x2, -, -⟩ := r1.shape
        unfold maxLen at x2
        have R1 := Lib.hid r1
        have F1 := Lib.hid f1
        clear r1 f1 ho
        obtain ⟨p0, p1, p2⟩ := Zp.out
        replace p0 := (hn).cell p0
        replace p1 := (hn).cell p1
        replace p2 := (hn).cell p2
        go_wp2_with fail
        go_quiet (fail)
        have nq1 : New wr (wr.drewN nq) := (New.refl wr).drewN nq
        generalize wr.drewN nq = wq1 at *
        have hq1 : New w wq1 := (hn).trans nq1
        have zq1 := nq1.size
        go_wp2_with fail
        go_quiet (fail)
        have nq2 : New wq1 (wq1.drewN nq) := (New.refl wq1).drewN nq
        generalize wq1.drewN nq = wq2 at *
        have hq2 : New w wq2 := (hq1).trans nq2
        have zq2 := nq2.size
        clear p0 p1 p2
        obtain ⟨p0, p1, p2⟩ := Zp.out
        replace p0 := (hq2).cell p0
        replace p1 := (hq2).cell p1
        replace p2 := (hq2).cell p2
        have S1 := Lib.hid ((R1.out.new nq1).new nq2)
        go_wp2_with first
          | (at_builtin; refine wpRow_append1 slChg _ _ rfl rfl (.slice av D.length cv) D.length us (.iface 110 (.agg #[.string ⟨p.path.toArray⟩, .bool p.dir, .slice ap p.ids.length qp])) 90 rfl S1.out rfl rfl (by omega) (by decide) ?_; intro va wa qa cq)
          | fail
        all_goals
          have oa := ChVs.push (E := [⟨1, p⟩]) S1.out F1.out (ChVf.one (c := ⟨1, p⟩) (.inl rfl) Lpp.out Rp.out) qa (by omega)
          have na : New w wa := (hq2).trans_chg cq (fun j hj e => by have := S1.out.2 j e; omega)
          have Oa := Lib.hid oa
          clear oa qa cq
          go_roundg (0 + (ys.length))
          case measure => rw [Hgk.out]; omega
          case rel => exact ⟨[], ys, D ++ [⟨1, p⟩], _, _, 0, ys.length, _, _, rfl, rfl, rfl, by omega, by omega, by simp; omega, na, Lib.hid (by simp), Lib.hid (by simp), IA, Lib.hid (by have t := Tp.out; first | (rw [if_pos h, h] at t; exact t) | (rw [if_pos h] at t; exact t) | (rw [if_neg h] at t; exact t) | exact t), Oa, Lib.hid (by rw [← He.out, Hst.out]; simp)⟩
    · obtain rfl : bs = [] := by
        have := Lb.out
        exact List.eq_nil_of_length_eq_zero (by omega)
      obtain rfl : m = 0 := by omega
      by_cases han : 0 < n
      · obtain ⟨o, xs, rfl⟩ : ∃ o xs, zs = o :: xs := by
          have := La.out
          cases zs with
          | nil => simp at this; omega
          | cons o xs => exact ⟨o, xs, rfl⟩
        have hst : chgs (o :: xs) [] = ⟨2, o⟩ :: chgs xs [] := by rw [chgs]
        have Hst := Lib.hid hst
        clear hst
        obtain ⟨bo, offo, co, uo, e1, hbo, o0, o1, o2, lpo, ro, to, ko, mo⟩ := Items.first IA.out
        simp only [Value.slice.injEq] at e1
        obtain ⟨rfl, rfl, rfl⟩ := e1
        unfold maxLen at mo
        have To := Lib.hid to
        have Lpo := Lib.hid lpo
        have Ro := Lib.hid ro
        obtain ⟨ao, qo, rfl, -⟩ := id ro
        have Zo := Lib.hid (And.intro o0 (And.intro o1 o2))
        clear lpo ro to o0 o1 o2 La
        obtain ⟨us, r1, f1⟩ := ho.out
        obtain ⟨av, cv, rfl, x1, x2, -, -⟩ := r1.shape
        unfold maxLen at x2
        have R1 := Lib.hid r1
        have F1 := Lib.hid f1
        clear r1 f1 ho
        obtain ⟨o0, o1, o2⟩ := Zo.out
        replace o0 := (hn).cell o0
        replace o1 := (hn).cell o1
        replace o2 := (hn).cell o2
        go_wp2_with fail
        go_quiet (fail)
        have nq1 : New wr (wr.drewN nq) := (New.refl wr).drewN nq
        generalize wr.drewN nq = wq1 at *
        have hq1 : New w wq1 := (hn).trans nq1
        have zq1 := nq1.size
        clear o0 o1 o2
        obtain ⟨o0, o1, o2⟩ := Zo.out
        replace o0 := (hq1).cell o0
        replace o1 := (hq1).cell o1
        replace o2 := (hq1).cell o2
        have S1 := Lib.hid (R1.out.new nq1)
        go_wp2_with first
          | (at_builtin; refine wpRow_append1 slChg _ _ rfl rfl (.slice av D.length cv) D.length us (.iface 109 (.agg #[.string ⟨o.path.toArray⟩, .bool o.dir, .slice ao o.ids.length qo])) 90 rfl S1.out rfl rfl (by omega) (by decide) ?_; intro va wa qa cq)
          | fail
        all_goals
          have oa := ChVs.push (E := [⟨2, o⟩]) S1.out F1.out (ChVf.one (c := ⟨2, o⟩) (.inr (.inl rfl)) Lpo.out Ro.out) qa (by omega)
          have na : New w wa := (hq1).trans_chg cq (fun j hj e => by have := S1.out.2 j e; omega)
          have Oa := Lib.hid oa
          clear oa qa cq
          go_roundg (xs.length + (0))
          case measure => rw [Hgk.out]; omega
          case rel => exact ⟨xs, [], D ++ [⟨2, o⟩], _, _, xs.length, 0, _, _, rfl, rfl, rfl, by omega, by omega, by simp; omega, na, Lib.hid (by simp), Lib.hid (by simp), Lib.hid (by have t := To.out; first | (rw [if_pos h, h] at t; exact t) | (rw [if_pos h] at t; exact t) | (rw [if_neg h] at t; exact t) | exact t), IB, Oa, Lib.hid (by rw [← He.out, Hst.out]; simp)⟩
      · obtain rfl : zs = [] := by
          have := La.out
          exact List.eq_nil_of_length_eq_zero (by omega)
        obtain rfl : n = 0 := by omega
        have hfin : D = chgs os ps := by
          have e := He.out
          rw [chgs, List.append_nil] at e
          exact e
        have Hfin := Lib.hid hfin
        obtain ⟨us, r1, f1⟩ := id ho.out
        obtain ⟨av, cv, rfl, -⟩ := r1.shape
        clear hfin r1 f1
        go_wp2_with fail
        go_ret
        exact ⟨_, rfl, Hfin.out ▸ ho.out, hn⟩
end Go.Proofs.YtkffejommncinaaDoor
