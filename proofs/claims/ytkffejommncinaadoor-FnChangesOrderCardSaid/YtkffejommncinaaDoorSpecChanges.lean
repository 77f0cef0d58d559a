/- The reference's ChangesOf. Printed by gen_specchanges.py. -/
import Derived.Test.YtkffejommncinaaDoorChangeRow
import Derived.Test.YtkffejommncinaaDoorSpecFind
import Derived.Test.YtkffejommncinaaDoorItemSame
namespace Go.Proofs.YtkffejommncinaaDoor
open Go.RowKit

def ChgPost (r : List ChR) (ok : Bool) (w : World) (e : Ending) (w' : World) : Prop :=
  ∃ v, e = .returned (.tuple #[v, .bool ok]) ∧ Chs Any w' v r ∧ New w w'
theorem ch_empty (w : World) : ChList w.heap.size (w.alloc (.cells #[] 58)) (.slice (some ⟨w.heap.size, 0, none⟩) 0 0) [] :=
  ⟨[], (Row.empty _ _ _).mono (fun _ _ h => by omega) |> fun h => ⟨⟨by simp, h.1.2⟩, h.2⟩, rfl, fun i u f h _ => by simp at h⟩

set_option maxRecDepth 4000 in
set_option maxHeartbeats 4000000 in
theorem specChangesNot {S T : Nat → Prop} (v u : Value) (os ps : List ItemR) (w : World) (h : Items S w v os) (g : Items T w u ps) (hall : ∀ o ∈ os, o.size ≤ 1048576) (gall : ∀ o ∈ ps, o.size ≤ 1048576)
    (hk : treeOk os = false ∨ treeOk ps = false) :
    Calls Tryd.prog 35 #[v, u] w (ChgPost [] false w) := by
  have n0 : New w (w.alloc (.cells #[] 58)) := (New.refl w).alloc _
  have c0 := ch_empty w
  have hsv := fun (W : World) (n : New w W) => specValid v os W (Recs.new h n) hall
  have gsv := fun (W : World) (n : New w W) => specValid u ps W (Recs.new g n) gall
  obtain ⟨-, a, c, rfl, -⟩ := h
  obtain ⟨-, a', c', rfl, -⟩ := g
  have N0 := Lib.hid n0
  have C0 := Lib.hid c0
  rcases hk1 : treeOk os with _ | _
  · rw [hk1] at hsv
    have Hsv := Lib.hid hsv
    clear hsv gsv n0 c0 hk hk1
    go_enter Tryd.func35, Tryd.ntmps35
    go_wp2_with fail
    refine (Hsv.out _ N0.out).mono ?_
    rintro e w1 ⟨rfl, n1⟩
    go_wp2_with fail
    go_ret2
    exact ⟨_, rfl, (C0.out.new n1).chs, N0.out.trans n1⟩
  · have hk2 : treeOk ps = false := by
      rcases hk with hk | hk
      · rw [hk1] at hk; cases hk
      · exact hk
    rw [hk1] at hsv
    rw [hk2] at gsv
    have Hsv := Lib.hid hsv
    have Gsv := Lib.hid gsv
    clear hsv gsv n0 c0 hk hk1 hk2
    go_enter Tryd.func35, Tryd.ntmps35
    go_wp2_with fail
    refine (Hsv.out _ N0.out).mono ?_
    rintro e w1 ⟨rfl, n1⟩
    go_wp2_with fail
    refine (Gsv.out _ (N0.out.trans n1)).mono ?_
    rintro e w2 ⟨rfl, n2⟩
    go_wp2_with fail
    go_ret2
    exact ⟨_, rfl, ((C0.out.new n1).new n2).chs, (N0.out.trans n1).trans n2⟩

set_option maxRecDepth 4000 in
set_option maxHeartbeats 8000000 in
theorem specChangesOf {S T : Nat → Prop} (v u : Value) (os ps : List ItemR) (w : World) (h : Items S w v os) (g : Items T w u ps) (hall : ∀ o ∈ os, o.size ≤ 1048576) (gall : ∀ o ∈ ps, o.size ≤ 1048576)
    (hk1 : treeOk os = true) (hk2 : treeOk ps = true) :
    Calls Tryd.prog 35 #[v, u] w (ChgPost (chgs os ps) true w) := by
  have n0 : New w (w.alloc (.cells #[] 58)) := (New.refl w).alloc _
  have c0 := ch_empty w
  have h0 := h
  have g0 := g
  have hsv := fun (W : World) (n : New w W) => specValid v os W (Recs.new h n) hall
  have gsv := fun (W : World) (n : New w W) => specValid u ps W (Recs.new g n) gall
  rw [hk1] at hsv
  rw [hk2] at gsv
  have h12 := (treeOk_p hk1).2
  have g12 := (treeOk_p hk2).2
  have hat := fun (W : World) (n : New w W) (k : Nat) (o : ItemR) (ho : os[k]? = some o) => Items.at (Recs.new h0 n) ho
  have gat := fun (W : World) (n : New w W) (k : Nat) (o : ItemR) (ho : ps[k]? = some o) => Items.at (Recs.new g0 n) ho
  obtain ⟨-, a, c, rfl, h1, h2, -⟩ := h
  obtain ⟨-, a', c', rfl, g1, g2, -⟩ := g
  unfold maxLen at h2 g2
  have N0 := Lib.hid n0
  have C0 := Lib.hid c0
  have Hsv := Lib.hid hsv
  have Gsv := Lib.hid gsv
  have Hat := Lib.hid hat
  have Gat := Lib.hid gat
  have Hall := Lib.hid hall
  have Gall := Lib.hid gall
  have e0 : [] ++ chgs (os.drop 0) (ps.drop 0) = chgs os ps := by simp
  have E0 := Lib.hid e0
  clear hsv gsv n0 c0 hk1 hk2 hat gat h0 g0 hall gall e0
  go_enter Tryd.func35, Tryd.ntmps35
  go_wp2_with fail
  refine (Hsv.out _ N0.out).mono ?_
  rintro e w1 ⟨rfl, n1⟩
  go_wp2_with fail
  refine (Gsv.out _ (N0.out.trans n1)).mono ?_
  rintro e w2 ⟨rfl, n2⟩
  have N2 := Lib.hid ((N0.out.trans n1).trans n2)
  have C2 := Lib.hid ((C0.out.new n1).new n2)
  clear n1 n2 N0 C0
  go_wp2_with fail
  go_loopg [6, 7, 8] (os.length + ps.length) (fun gk s6 s7 s8 wr => ∃ (i k : Nat) (D : List ChR), gk = (os.length - i) + (ps.length - k) ∧ i ≤ os.length ∧ k ≤ ps.length ∧ s7 = .int .i64 i ∧ s8 = .int .i64 k ∧ D.length ≤ i + k ∧ New w wr ∧
    Hid (ChList w.heap.size wr s6 D) ∧ Hid (D ++ chgs (os.drop i) (ps.drop k) = chgs os ps))
  case atStart => exact ⟨0, 0, [], by omega, by omega, by omega, rfl, rfl, by simp, N2.out, C2, E0⟩
  case round =>
    obtain ⟨i, k, D, hgk, hi, hk, rfl, rfl, hD, hn, ho, He⟩ := hrel
    have Hgk := Lib.hid hgk
    have z0 := hn.size
    clear hgk N2 C2 E0
    by_cases hkl : k < ps.length
    · obtain ⟨p, hp⟩ := get_of hkl
      have hkb : ((k : Int) == (ps.length : Int)) = false := by simp; omega
      have Hp := Lib.hid hp
      clear hp
      by_cases hil : i < os.length
      · obtain ⟨o, hx⟩ := get_of hil
        have hib : ((i : Int) == (os.length : Int)) = false := by simp; omega
        have Ho := Lib.hid hx
        clear hx
        obtain ⟨bo, offo, co, uo, e1, hbo, o0, o1, o2, lpo, ro⟩ := Hat.out wr hn i o Ho.out
        simp only [Value.slice.injEq] at e1
        obtain ⟨rfl, -, rfl⟩ := e1
        obtain ⟨_, _, _, _, e2, hwo, -⟩ := Hat.out w (New.refl w) i o Ho.out
        simp only [Value.slice.injEq, Option.some.injEq, Addr.mk.injEq] at e2
        obtain ⟨⟨rfl, -, -⟩, -, -⟩ := e2
        unfold txt at o0
        clear lpo ro
        obtain ⟨bp, offp, cp, up, e1, hbp, p0, p1, p2, lpp, rp⟩ := Gat.out wr hn k p Hp.out
        simp only [Value.slice.injEq] at e1
        obtain ⟨rfl, -, rfl⟩ := e1
        obtain ⟨_, _, _, _, e2, hwp, -⟩ := Gat.out w (New.refl w) k p Hp.out
        simp only [Value.slice.injEq, Option.some.injEq, Addr.mk.injEq] at e2
        obtain ⟨⟨rfl, -, -⟩, -, -⟩ := e2
        unfold txt at p0
        clear lpp rp
        have hl1 := less_is o.path p.path
        have hl2 := less_is p.path o.path
        rcases hs1 : sLt o.path p.path with _ | _
        · rw [hs1] at hl1
          rcases hs2 : sLt p.path o.path with _ | _
          · rw [hs2] at hl2
            have hst := chgs_both Ho.out Hp.out hs1 hs2
            have Hst := Lib.hid hst
            clear hs1 hs2 hst
            obtain ⟨us, r1, f1⟩ := ho.out
            obtain ⟨av, cv, rfl, x1, x2, -, -⟩ := r1.shape
            unfold maxLen at x2
            have R1 := Lib.hid r1
            have F1 := Lib.hid f1
            clear r1 f1 ho
            go_wp2_with fail
            go_quiet (fail)
            have nq1 : New wr (wr.drewN nq) := (New.refl wr).drewN nq
            generalize wr.drewN nq = wq1 at *
            have hq1 : New w wq1 := (hn).trans nq1
            have zq1 := nq1.size
            obtain ⟨bb, offb, cb, uoa, e3, -, o0a, o1a, o2a, lpo, ro⟩ := Hat.out wq1 hq1 i o Ho.out
            simp only [Value.slice.injEq] at e3
            obtain ⟨e3, -, e4⟩ := e3
            simp only [Option.some.injEq, Addr.mk.injEq] at e3
            obtain ⟨rfl, rfl, -⟩ := e3
            subst e4
            unfold txt at o0a
            obtain ⟨bb, offb, cb, upa, e3, -, p0a, p1a, p2a, lpp, rp⟩ := Gat.out wq1 hq1 k p Hp.out
            simp only [Value.slice.injEq] at e3
            obtain ⟨e3, -, e4⟩ := e3
            simp only [Option.some.injEq, Addr.mk.injEq] at e3
            obtain ⟨rfl, rfl, -⟩ := e3
            subst e4
            unfold txt at p0a
            clear lpo ro lpp rp
            go_wp2_with fail
            go_quiet (fail)
            have nq2 : New wq1 (wq1.drewN nq) := (New.refl wq1).drewN nq
            generalize wq1.drewN nq = wq2 at *
            have hq2 : New w wq2 := (hq1).trans nq2
            have zq2 := nq2.size
            obtain ⟨bb, offb, cb, uob, e3, -, o0b, o1b, o2b, lpo, ro⟩ := Hat.out wq2 hq2 i o Ho.out
            simp only [Value.slice.injEq] at e3
            obtain ⟨e3, -, e4⟩ := e3
            simp only [Option.some.injEq, Addr.mk.injEq] at e3
            obtain ⟨rfl, rfl, -⟩ := e3
            subst e4
            unfold txt at o0b
            obtain ⟨bb, offb, cb, upb, e3, -, p0b, p1b, p2b, lpp, rp⟩ := Gat.out wq2 hq2 k p Hp.out
            simp only [Value.slice.injEq] at e3
            obtain ⟨e3, -, e4⟩ := e3
            simp only [Option.some.injEq, Addr.mk.injEq] at e3
            obtain ⟨rfl, rfl, -⟩ := e3
            subst e4
            unfold txt at p0b
            clear lpo ro lpp rp
            have hoo : o.ids.length ≤ 1048576 := by have := Hall.out o (List.mem_of_getElem? Ho.out); unfold ItemR.size at this; omega
            have hpp : p.ids.length ≤ 1048576 := by have := Gall.out p (List.mem_of_getElem? Hp.out); unfold ItemR.size at this; omega
            by_cases hd : p.dir = o.dir
            · rw [hd] at p1b
              have hdf : diffs o p = if o = p then [] else [⟨3, p⟩] := by unfold diffs; rw [if_neg (by simp [hd])]
              have Hdf := Lib.hid hdf
              clear hdf hd
              go_wp2_with fail
              go_quiet (fail)
              have nq3 : New wq2 (wq2.drewN nq) := (New.refl wq2).drewN nq
              generalize wq2.drewN nq = wq3 at *
              have hq3 : New w wq3 := (hq2).trans nq3
              have zq3 := nq3.size
              have n4 : New wq3 (wq3.drewN 1) := (New.refl wq3).drewN 1
              have hq4 := hq3.trans n4
              obtain ⟨bb, offb, cb, uod, e3, -, o0d, o1d, o2d, lpo, ro⟩ := Hat.out (wq3.drewN 1) hq4 i o Ho.out
              simp only [Value.slice.injEq] at e3
              obtain ⟨e3, -, e4⟩ := e3
              simp only [Option.some.injEq, Addr.mk.injEq] at e3
              obtain ⟨rfl, rfl, -⟩ := e3
              subst e4
              unfold txt at o0d
              obtain ⟨bb, offb, cb, upd, e3, -, p0d, p1d, p2d, lpp, rp⟩ := Gat.out (wq3.drewN 1) hq4 k p Hp.out
              simp only [Value.slice.injEq] at e3
              obtain ⟨e3, -, e4⟩ := e3
              simp only [Option.some.injEq, Addr.mk.injEq] at e3
              obtain ⟨rfl, rfl, -⟩ := e3
              subst e4
              unfold txt at p0d
              have hcall := l13Same o p uod upd (wq3.drewN 1) ro rp
              obtain ⟨ao, co, rfl, -⟩ := id ro
              obtain ⟨ap, cp, rfl, -⟩ := id rp
              have zq4 := n4.size
              unfold txt at hcall
              have Hcall := Lib.hid hcall
              clear hcall ro rp lpo lpp
              by_cases hop : o = p
              · have hdc : decide (o = p) = true := by simp [hop]
                rw [hdc] at Hcall
                have hdf := Hdf.out
                rw [if_pos hop] at hdf
                have Hdf2 := Lib.hid hdf
                clear hdc hdf Hdf hop
                go_wp2
                refine wp_region_still_tail 8 (by kernel_rfl) (by kernel_rfl) ?_
                simp only [List.take_succ_cons, List.take_zero, List.drop_succ_cons, List.drop_zero]
                change wpStill _ _ (wq3.drewN 1) (fun a' => wpList _ _ _ _ a' (wq3.drewN 1)) _ _
                generalize wq3.drewN 1 = w4 at *
                iterate 8 still_step
                refine wpStill_nil ?_
                go_wp2_with fail
                refine Hcall.out.mono ?_
                rintro e w5 ⟨rfl, n5⟩
                have hq5 := hq4.trans n5
                have zq5 := n5.size
                have o5 : ChList w.heap.size w5 (.slice av D.length cv) D := ⟨us, ((((R1.out.new nq1).new nq2).new nq3).new n4).new n5, ((((F1.out.new nq1).new nq2).new nq3).new n4).new n5⟩
                have O5 := Lib.hid o5
                clear o5
                go_wp2_with fail
                go_roundg ((os.length - (i + 1)) + (ps.length - (k + 1)))
                case measure => rw [Hgk.out]; omega
                case rel => exact ⟨i + 1, k + 1, D, rfl, by omega, by omega, by go_num, by go_num, by omega, hq5, O5, Lib.hid (by rw [← He.out, Hst.out, Hdf2.out]; simp)⟩
              · have hdc : decide (o = p) = false := by simp [hop]
                rw [hdc] at Hcall
                have hdf := Hdf.out
                rw [if_neg hop] at hdf
                have Hdf2 := Lib.hid hdf
                clear hdc hdf Hdf hop
                go_wp2
                refine wp_region_still_tail 8 (by kernel_rfl) (by kernel_rfl) ?_
                simp only [List.take_succ_cons, List.take_zero, List.drop_succ_cons, List.drop_zero]
                change wpStill _ _ (wq3.drewN 1) (fun a' => wpList _ _ _ _ a' (wq3.drewN 1)) _ _
                generalize wq3.drewN 1 = w4 at *
                iterate 8 still_step
                refine wpStill_nil ?_
                go_wp2_with fail
                refine Hcall.out.mono ?_
                rintro e w5 ⟨rfl, n5⟩
                have hq5 := hq4.trans n5
                have zq5 := n5.size
                have hoi : p.ids.length ≤ 1048576 := by have := Gall.out p (List.mem_of_getElem? Hp.out); unfold ItemR.size at this; omega
                obtain ⟨bb, offb, cb, upx, e3, -, p0x, p1x, p2x, lpp, rp⟩ := Gat.out w5 hq5 k p Hp.out
                simp only [Value.slice.injEq] at e3
                obtain ⟨e3, -, e4⟩ := e3
                simp only [Option.some.injEq, Addr.mk.injEq] at e3
                obtain ⟨rfl, rfl, -⟩ := e3
                subst e4
                unfold txt at p0x
                have hco := specCopy p upx _ rp hoi
                obtain ⟨ax, cx, rfl, -⟩ := id rp
                unfold txt at hco
                have Hco := Lib.hid hco
                have Lp := Lib.hid lpp
                clear hco rp lpp
                go_wp2_with fail
                refine Hco.out.mono ?_
                rintro e wc ⟨uc, rfl, oc, nc⟩
                unfold txt
                obtain ⟨ac, dc, rfl, -⟩ := oc.shape
                have zc := nc.size
                have S1 := Lib.hid ((((((R1.out.new nq1).new nq2).new nq3).new n4).new n5).new nc)
                have G1 := Lib.hid ((((((F1.out.new nq1).new nq2).new nq3).new n4).new n5).new nc)
                have O1 := Lib.hid oc
                have Lv := Lib.hid ((((((R1.out.new nq1).new nq2).new nq3).new n4).new n5).lt)
                clear oc
                go_wp2_with first
                  | (at_builtin; refine wpRow_appendRec slChange _ _ rfl rfl (.slice av D.length cv) D.length us [.int .i64 3, .string ⟨p.path.toArray⟩, .bool p.dir, .slice ac p.ids.length dc] 58 rfl S1.out rfl (by intro u hu; simp at hu; rcases hu with rfl | rfl | rfl | rfl <;> rfl) rfl (by omega) (by decide) ?_; intro va wa qa ca)
                  | fail
                have oa := ch_one (c := ⟨3, p⟩) S1.out G1.out (I64.mk (x := 3) (by decide) (by decide)) Lp.out (O1.out.nums.mono (fun j _ hj e => by have := Lv.out j e; omega)) qa ca (by omega)
                have na : New w wa := ((hq5).trans nc).trans_chg ca (fun j hj e => by have := S1.out.2 j e; omega)
                have Oa := Lib.hid oa
                clear oa qa ca
                go_wp2_with fail
                go_roundg ((os.length - (i + 1)) + (ps.length - (k + 1)))
                case measure => rw [Hgk.out]; omega
                case rel => exact ⟨i + 1, k + 1, D ++ [⟨3, p⟩], rfl, by omega, by omega, by go_num, by go_num, by simp; omega, na, Oa, Lib.hid (by rw [← He.out, Hst.out, Hdf2.out]; simp)⟩
            · have hdn : p.dir = !o.dir := by revert hd; cases o.dir <;> cases p.dir <;> simp
              rw [hdn] at p1b
              have hdf : diffs o p = [⟨2, o⟩, ⟨1, p⟩] := by unfold diffs; rw [if_pos (by rw [hdn]; simp)]
              have Hdf := Lib.hid hdf
              clear hdf hd hdn
              go_wp2_with fail
              go_quiet (fail)
              have nq3 : New wq2 (wq2.drewN nq) := (New.refl wq2).drewN nq
              generalize wq2.drewN nq = wq3 at *
              have hq3 : New w wq3 := (hq2).trans nq3
              have zq3 := nq3.size
              have n4 : New wq3 wq3.drew := (New.refl wq3).drew
              have zq4 : wq3.drew.heap.size = wq3.heap.size := rfl
              have hq4 := hq3.trans n4
              obtain ⟨bb, offb, cb, uod, e3, -, o0d, o1d, o2d, lpo, ro⟩ := Hat.out wq3.drew hq4 i o Ho.out
              simp only [Value.slice.injEq] at e3
              obtain ⟨e3, -, e4⟩ := e3
              simp only [Option.some.injEq, Addr.mk.injEq] at e3
              obtain ⟨rfl, rfl, -⟩ := e3
              subst e4
              unfold txt at o0d
              obtain ⟨bb, offb, cb, upd, e3, -, p0d, p1d, p2d, lpp, rp⟩ := Gat.out wq3.drew hq4 k p Hp.out
              simp only [Value.slice.injEq] at e3
              obtain ⟨e3, -, e4⟩ := e3
              simp only [Option.some.injEq, Addr.mk.injEq] at e3
              obtain ⟨rfl, rfl, -⟩ := e3
              subst e4
              unfold txt at p0d
              have hco := fun (W : World) (n : New wq3.drew W) => specCopy o uod W (ro.new n) hoo
              have hcq := fun (W : World) (n : New wq3.drew W) => specCopy p upd W (rp.new n) hpp
              obtain ⟨ao, co, rfl, -⟩ := id ro
              obtain ⟨ap, cp, rfl, -⟩ := id rp
              unfold ToItemPost txt at hco hcq
              have Hco := Lib.hid hco
              have Hcq := Lib.hid hcq
              have Lpo := Lib.hid lpo
              have Lpp := Lib.hid lpp
              have R3 := Lib.hid ((((R1.out.new nq1).new nq2).new nq3).new n4)
              have F3 := Lib.hid ((((F1.out.new nq1).new nq2).new nq3).new n4)
              have Lv := Lib.hid R3.out.lt
              clear hco hcq ro rp lpo lpp R1 F1
              have hno : ¬ ((Value.slice av D.length cv).ownBlock = some bo) := fun e => by have := R3.out.2 bo e; omega
              have hnp : ¬ ((Value.slice av D.length cv).ownBlock = some bp) := fun e => by have := R3.out.2 bp e; omega
              have Hno := Lib.hid hno
              have Hnp := Lib.hid hnp
              clear hno hnp
              go_wp2_with fail
              go_region_held3 (fun w' => w'.cell? ⟨bo, offo + i * 3, none⟩ = some (.string ⟨o.path.toArray⟩) ∧ w'.cell? ⟨bo, offo + i * 3 + 1, none⟩ = some (.bool o.dir) ∧ w'.cell? ⟨bo, offo + i * 3 + 2, none⟩ = some (.slice ao o.ids.length co) ∧
                  w'.cell? ⟨bp, offp + k * 3, none⟩ = some (.string ⟨p.path.toArray⟩) ∧ w'.cell? ⟨bp, offp + k * 3 + 1, none⟩ = some (.bool p.dir) ∧ w'.cell? ⟨bp, offp + k * 3 + 2, none⟩ = some (.slice ap p.ids.length cp))
                (first | exact ⟨o0d, o1d, o2d, p0d, p1d, p2d⟩ | exact ⟨nc.cell o0d, nc.cell o1d, nc.cell o2d, nc.cell p0d, nc.cell p1d, nc.cell p2d⟩ | exact ⟨nd.cell o0d, nd.cell o1d, nd.cell o2d, nd.cell p0d, nd.cell p1d, nd.cell p2d⟩ | exact ⟨nd.cell (nc.cell o0d), nd.cell (nc.cell o1d), nd.cell (nc.cell o2d), nd.cell (nc.cell p0d), nd.cell (nc.cell p1d), nd.cell (nc.cell p2d)⟩ | exact ⟨nc.cell (nd.cell o0d), nc.cell (nd.cell o1d), nc.cell (nd.cell o2d), nc.cell (nd.cell p0d), nc.cell (nd.cell p1d), nc.cell (nd.cell p2d)⟩ | exact ⟨(nd.alloc _).cell (nc.cell o0d), (nd.alloc _).cell (nc.cell o1d), (nd.alloc _).cell (nc.cell o2d), (nd.alloc _).cell (nc.cell p0d), (nd.alloc _).cell (nc.cell p1d), (nd.alloc _).cell (nc.cell p2d)⟩ | exact ⟨(nc.alloc _).cell (nd.cell o0d), (nc.alloc _).cell (nd.cell o1d), (nc.alloc _).cell (nd.cell o2d), (nc.alloc _).cell (nd.cell p0d), (nc.alloc _).cell (nd.cell p1d), (nc.alloc _).cell (nd.cell p2d)⟩ | exact ⟨ca.cell (nd.cell (nc.cell o0d)) Hno.out, ca.cell (nd.cell (nc.cell o1d)) Hno.out, ca.cell (nd.cell (nc.cell o2d)) Hno.out, ca.cell (nd.cell (nc.cell p0d)) Hnp.out, ca.cell (nd.cell (nc.cell p1d)) Hnp.out, ca.cell (nd.cell (nc.cell p2d)) Hnp.out⟩ | exact ⟨ca.cell (nc.cell (nd.cell o0d)) Hno.out, ca.cell (nc.cell (nd.cell o1d)) Hno.out, ca.cell (nc.cell (nd.cell o2d)) Hno.out, ca.cell (nc.cell (nd.cell p0d)) Hnp.out, ca.cell (nc.cell (nd.cell p1d)) Hnp.out, ca.cell (nc.cell (nd.cell p2d)) Hnp.out⟩)
                (first
                  | (go_at_call 44; refine (Hco.out _ ?_).mono ?_; (first | exact New.refl _ | exact nd); rintro e wc ⟨uc, rfl, oc, nc⟩; obtain ⟨ac, dc, rfl, -⟩ := oc.shape; have qc : Ints (fun j => wq3.drew.heap.size ≤ j) wc _ o.ids := oc.nums.mono (fun j _ hj => by first | exact hj | (have := nd.size; omega)))
                  | (go_at_call 44; refine (Hcq.out _ ?_).mono ?_; (first | exact New.refl _ | exact nc); rintro e wd ⟨ud, rfl, od, nd⟩; obtain ⟨ad, dd, rfl, -⟩ := od.shape; have qd : Ints (fun j => wq3.drew.heap.size ≤ j) wd _ p.ids := od.nums.mono (fun j _ hj => by first | exact hj | (have := nc.size; omega)))
                  | (refine stepRow_appendMany (S := fun j => w.heap.size ≤ j) slChange _ _ rfl rfl (.slice av D.length cv) D.length 2 us [.int .i64 2, .string ⟨o.path.toArray⟩, .bool o.dir, .slice ac o.ids.length dc, .int .i64 1, .string ⟨p.path.toArray⟩, .bool p.dir, .slice ad p.ids.length dd] 58 rfl ?_ rfl (by intro u hu; simp at hu; rcases hu with rfl | rfl | rfl | rfl | rfl | rfl | rfl | rfl <;> rfl) rfl (by omega) (by decide) ?_; (first | exact (R3.out.new nc).new nd | exact (R3.out.new nd).new nc); intro va wa qa ca))
              all_goals
                have oa : ChList w.heap.size wa va (D ++ [⟨2, o⟩, ⟨1, p⟩]) := by
                  first
                    | exact two_done (nc.trans nd) (by omega) R3.out F3.out Lpo.out Lpp.out (qc.new nd) qd qa ca
                    | exact two_done (nd.trans nc) (by omega) R3.out F3.out Lpo.out Lpp.out qc (qd.new nc) qa ca
                have na : New w wa := by
                  first
                    | exact ((hq4.trans nc).trans nd).trans_chg ca (fun j hj e => by have := R3.out.2 j e; omega)
                    | exact ((hq4.trans nd).trans nc).trans_chg ca (fun j hj e => by have := R3.out.2 j e; omega)
                have Oa := Lib.hid oa
                clear oa qa ca qc qd oc od nc nd
                go_wp2_with fail
                go_roundg ((os.length - (i + 1)) + (ps.length - (k + 1)))
                case measure => rw [Hgk.out]; omega
                case rel => exact ⟨i + 1, k + 1, D ++ [⟨2, o⟩, ⟨1, p⟩], rfl, by omega, by omega, by go_num, by go_num, by simp; omega, na, Oa, Lib.hid (by rw [← He.out, Hst.out, Hdf.out]; simp)⟩
          · rw [hs2] at hl2
            have hst := chgs_new Hp.out (.inr ⟨o, Ho.out, hs1, hs2⟩)
            have Hst := Lib.hid hst
            clear hs1 hs2 hst
            obtain ⟨us, r1, f1⟩ := ho.out
            obtain ⟨av, cv, rfl, x1, x2, -, -⟩ := r1.shape
            unfold maxLen at x2
            have R1 := Lib.hid r1
            have F1 := Lib.hid f1
            clear r1 f1 ho
            go_wp2_with fail
            go_quiet (fail)
            have nq1 : New wr (wr.drewN nq) := (New.refl wr).drewN nq
            generalize wr.drewN nq = wq1 at *
            have hq1 : New w wq1 := (hn).trans nq1
            have zq1 := nq1.size
            obtain ⟨bb, offb, cb, uoa, e3, -, o0a, o1a, o2a, lpo, ro⟩ := Hat.out wq1 hq1 i o Ho.out
            simp only [Value.slice.injEq] at e3
            obtain ⟨e3, -, e4⟩ := e3
            simp only [Option.some.injEq, Addr.mk.injEq] at e3
            obtain ⟨rfl, rfl, -⟩ := e3
            subst e4
            unfold txt at o0a
            obtain ⟨bb, offb, cb, upa, e3, -, p0a, p1a, p2a, lpp, rp⟩ := Gat.out wq1 hq1 k p Hp.out
            simp only [Value.slice.injEq] at e3
            obtain ⟨e3, -, e4⟩ := e3
            simp only [Option.some.injEq, Addr.mk.injEq] at e3
            obtain ⟨rfl, rfl, -⟩ := e3
            subst e4
            unfold txt at p0a
            clear lpo ro lpp rp
            go_wp2_with fail
            go_quiet (fail)
            have nq2 : New wq1 (wq1.drewN nq) := (New.refl wq1).drewN nq
            generalize wq1.drewN nq = wq2 at *
            have hq2 : New w wq2 := (hq1).trans nq2
            have zq2 := nq2.size
            have hoi : p.ids.length ≤ 1048576 := by have := Gall.out p (List.mem_of_getElem? Hp.out); unfold ItemR.size at this; omega
            obtain ⟨bb, offb, cb, upx, e3, -, p0x, p1x, p2x, lpp, rp⟩ := Gat.out wq2 hq2 k p Hp.out
            simp only [Value.slice.injEq] at e3
            obtain ⟨e3, -, e4⟩ := e3
            simp only [Option.some.injEq, Addr.mk.injEq] at e3
            obtain ⟨rfl, rfl, -⟩ := e3
            subst e4
            unfold txt at p0x
            have hco := specCopy p upx _ rp hoi
            obtain ⟨ax, cx, rfl, -⟩ := id rp
            unfold txt at hco
            have Hco := Lib.hid hco
            have Lp := Lib.hid lpp
            clear hco rp lpp
            go_wp2_with fail
            refine Hco.out.mono ?_
            rintro e wc ⟨uc, rfl, oc, nc⟩
            unfold txt
            obtain ⟨ac, dc, rfl, -⟩ := oc.shape
            have zc := nc.size
            have S1 := Lib.hid (((R1.out.new nq1).new nq2).new nc)
            have G1 := Lib.hid (((F1.out.new nq1).new nq2).new nc)
            have O1 := Lib.hid oc
            have Lv := Lib.hid (((R1.out.new nq1).new nq2).lt)
            clear oc
            go_wp2_with first
              | (at_builtin; refine wpRow_appendRec slChange _ _ rfl rfl (.slice av D.length cv) D.length us [.int .i64 1, .string ⟨p.path.toArray⟩, .bool p.dir, .slice ac p.ids.length dc] 58 rfl S1.out rfl (by intro u hu; simp at hu; rcases hu with rfl | rfl | rfl | rfl <;> rfl) rfl (by omega) (by decide) ?_; intro va wa qa ca)
              | fail
            have oa := ch_one (c := ⟨1, p⟩) S1.out G1.out (I64.mk (x := 1) (by decide) (by decide)) Lp.out (O1.out.nums.mono (fun j _ hj e => by have := Lv.out j e; omega)) qa ca (by omega)
            have na : New w wa := ((hq2).trans nc).trans_chg ca (fun j hj e => by have := S1.out.2 j e; omega)
            have Oa := Lib.hid oa
            clear oa qa ca
            go_roundg ((os.length - (i)) + (ps.length - (k + 1)))
            case measure => rw [Hgk.out]; omega
            case rel => exact ⟨i, k + 1, D ++ [⟨1, p⟩], rfl, by omega, by omega, by go_num, by go_num, by simp; omega, na, Oa, Lib.hid (by rw [← He.out, Hst.out]; simp)⟩
        · rw [hs1] at hl1
          have hst := chgs_gone Ho.out (.inr ⟨p, Hp.out, hs1⟩)
          have Hst := Lib.hid hst
          clear hs1 hst hl2
          obtain ⟨us, r1, f1⟩ := ho.out
          obtain ⟨av, cv, rfl, x1, x2, -, -⟩ := r1.shape
          unfold maxLen at x2
          have R1 := Lib.hid r1
          have F1 := Lib.hid f1
          clear r1 f1 ho
          go_wp2_with fail
          go_quiet (fail)
          have nq1 : New wr (wr.drewN nq) := (New.refl wr).drewN nq
          generalize wr.drewN nq = wq1 at *
          have hq1 : New w wq1 := (hn).trans nq1
          have zq1 := nq1.size
          have hoi : o.ids.length ≤ 1048576 := by have := Hall.out o (List.mem_of_getElem? Ho.out); unfold ItemR.size at this; omega
          obtain ⟨bb, offb, cb, uox, e3, -, o0x, o1x, o2x, lpo, ro⟩ := Hat.out wq1 hq1 i o Ho.out
          simp only [Value.slice.injEq] at e3
          obtain ⟨e3, -, e4⟩ := e3
          simp only [Option.some.injEq, Addr.mk.injEq] at e3
          obtain ⟨rfl, rfl, -⟩ := e3
          subst e4
          unfold txt at o0x
          have hco := specCopy o uox _ ro hoi
          obtain ⟨ax, cx, rfl, -⟩ := id ro
          unfold txt at hco
          have Hco := Lib.hid hco
          have Lp := Lib.hid lpo
          clear hco ro lpo
          go_wp2_with fail
          refine Hco.out.mono ?_
          rintro e wc ⟨uc, rfl, oc, nc⟩
          unfold txt
          obtain ⟨ac, dc, rfl, -⟩ := oc.shape
          have zc := nc.size
          have S1 := Lib.hid ((R1.out.new nq1).new nc)
          have G1 := Lib.hid ((F1.out.new nq1).new nc)
          have O1 := Lib.hid oc
          have Lv := Lib.hid ((R1.out.new nq1).lt)
          clear oc
          go_wp2_with first
            | (at_builtin; refine wpRow_appendRec slChange _ _ rfl rfl (.slice av D.length cv) D.length us [.int .i64 2, .string ⟨o.path.toArray⟩, .bool o.dir, .slice ac o.ids.length dc] 58 rfl S1.out rfl (by intro u hu; simp at hu; rcases hu with rfl | rfl | rfl | rfl <;> rfl) rfl (by omega) (by decide) ?_; intro va wa qa ca)
            | fail
          have oa := ch_one (c := ⟨2, o⟩) S1.out G1.out (I64.mk (x := 2) (by decide) (by decide)) Lp.out (O1.out.nums.mono (fun j _ hj e => by have := Lv.out j e; omega)) qa ca (by omega)
          have na : New w wa := ((hq1).trans nc).trans_chg ca (fun j hj e => by have := S1.out.2 j e; omega)
          have Oa := Lib.hid oa
          clear oa qa ca
          go_roundg ((os.length - (i + 1)) + (ps.length - (k)))
          case measure => rw [Hgk.out]; omega
          case rel => exact ⟨i + 1, k, D ++ [⟨2, o⟩], rfl, by omega, by omega, by go_num, by go_num, by simp; omega, na, Oa, Lib.hid (by rw [← He.out, Hst.out]; simp)⟩
      · have hib : ((i : Int) == (os.length : Int)) = true := by simp; omega
        have hst := chgs_new Hp.out (os := os) (.inl (by omega : os.length ≤ i))
        have Hst := Lib.hid hst
        clear hst
        obtain ⟨bp, offp, cp, up, e1, hbp, p0, p1, p2, lpp, rp⟩ := Gat.out wr hn k p Hp.out
        simp only [Value.slice.injEq] at e1
        obtain ⟨rfl, -, rfl⟩ := e1
        obtain ⟨_, _, _, _, e2, hwp, -⟩ := Gat.out w (New.refl w) k p Hp.out
        simp only [Value.slice.injEq, Option.some.injEq, Addr.mk.injEq] at e2
        obtain ⟨⟨rfl, -, -⟩, -, -⟩ := e2
        unfold txt at p0
        clear lpp rp
        obtain ⟨us, r1, f1⟩ := ho.out
        obtain ⟨av, cv, rfl, x1, x2, -, -⟩ := r1.shape
        unfold maxLen at x2
        have R1 := Lib.hid r1
        have F1 := Lib.hid f1
        clear r1 f1 ho
        go_wp2_with fail
        go_quiet (fail)
        have nq1 : New wr (wr.drewN nq) := (New.refl wr).drewN nq
        generalize wr.drewN nq = wq1 at *
        have hq1 : New w wq1 := (hn).trans nq1
        have zq1 := nq1.size
        go_wp2_with fail
        go_quiet (fail)
        have nq2 : New wq1 (wq1.drewN nq) := (New.refl wq1).drewN nq
        generalize wq1.drewN nq = wq2 at *
        have hq2 : New w wq2 := (hq1).trans nq2
        have zq2 := nq2.size
        have hoi : p.ids.length ≤ 1048576 := by have := Gall.out p (List.mem_of_getElem? Hp.out); unfold ItemR.size at this; omega
        obtain ⟨bb, offb, cb, upx, e3, -, p0x, p1x, p2x, lpp, rp⟩ := Gat.out wq2 hq2 k p Hp.out
        simp only [Value.slice.injEq] at e3
        obtain ⟨e3, -, e4⟩ := e3
        simp only [Option.some.injEq, Addr.mk.injEq] at e3
        obtain ⟨rfl, rfl, -⟩ := e3
        subst e4
        unfold txt at p0x
        have hco := specCopy p upx _ rp hoi
        obtain ⟨ax, cx, rfl, -⟩ := id rp
        unfold txt at hco
        have Hco := Lib.hid hco
        have Lp := Lib.hid lpp
        clear hco rp lpp
        go_wp2_with fail
        refine Hco.out.mono ?_
        rintro e wc ⟨uc, rfl, oc, nc⟩
        unfold txt
        obtain ⟨ac, dc, rfl, -⟩ := oc.shape
        have zc := nc.size
        have S1 := Lib.hid (((R1.out.new nq1).new nq2).new nc)
        have G1 := Lib.hid (((F1.out.new nq1).new nq2).new nc)
        have O1 := Lib.hid oc
        have Lv := Lib.hid (((R1.out.new nq1).new nq2).lt)
        clear oc
        go_wp2_with first
          | (at_builtin; refine wpRow_appendRec slChange _ _ rfl rfl (.slice av D.length cv) D.length us [.int .i64 1, .string ⟨p.path.toArray⟩, .bool p.dir, .slice ac p.ids.length dc] 58 rfl S1.out rfl (by intro u hu; simp at hu; rcases hu with rfl | rfl | rfl | rfl <;> rfl) rfl (by omega) (by decide) ?_; intro va wa qa ca)
          | fail
        have oa := ch_one (c := ⟨1, p⟩) S1.out G1.out (I64.mk (x := 1) (by decide) (by decide)) Lp.out (O1.out.nums.mono (fun j _ hj e => by have := Lv.out j e; omega)) qa ca (by omega)
        have na : New w wa := ((hq2).trans nc).trans_chg ca (fun j hj e => by have := S1.out.2 j e; omega)
        have Oa := Lib.hid oa
        clear oa qa ca
        go_roundg ((os.length - (i)) + (ps.length - (k + 1)))
        case measure => rw [Hgk.out]; omega
        case rel => exact ⟨i, k + 1, D ++ [⟨1, p⟩], rfl, by omega, by omega, by go_num, by go_num, by simp; omega, na, Oa, Lib.hid (by rw [← He.out, Hst.out]; simp)⟩
    · have hkb : ((k : Int) == (ps.length : Int)) = true := by simp; omega
      by_cases hil : i < os.length
      · obtain ⟨o, hx⟩ := get_of hil
        have Ho := Lib.hid hx
        have hst := chgs_gone Ho.out (ps := ps) (.inl (by omega : ps.length ≤ k))
        have Hst := Lib.hid hst
        clear hst hx
        obtain ⟨bo, offo, co, uo, e1, hbo, o0, o1, o2, lpo, ro⟩ := Hat.out wr hn i o Ho.out
        simp only [Value.slice.injEq] at e1
        obtain ⟨rfl, -, rfl⟩ := e1
        obtain ⟨_, _, _, _, e2, hwo, -⟩ := Hat.out w (New.refl w) i o Ho.out
        simp only [Value.slice.injEq, Option.some.injEq, Addr.mk.injEq] at e2
        obtain ⟨⟨rfl, -, -⟩, -, -⟩ := e2
        unfold txt at o0
        clear lpo ro
        obtain ⟨us, r1, f1⟩ := ho.out
        obtain ⟨av, cv, rfl, x1, x2, -, -⟩ := r1.shape
        unfold maxLen at x2
        have R1 := Lib.hid r1
        have F1 := Lib.hid f1
        clear r1 f1 ho
        go_wp2_with fail
        go_quiet (fail)
        have nq1 : New wr (wr.drewN nq) := (New.refl wr).drewN nq
        generalize wr.drewN nq = wq1 at *
        have hq1 : New w wq1 := (hn).trans nq1
        have zq1 := nq1.size
        have hoi : o.ids.length ≤ 1048576 := by have := Hall.out o (List.mem_of_getElem? Ho.out); unfold ItemR.size at this; omega
        obtain ⟨bb, offb, cb, uox, e3, -, o0x, o1x, o2x, lpo, ro⟩ := Hat.out wq1 hq1 i o Ho.out
        simp only [Value.slice.injEq] at e3
        obtain ⟨e3, -, e4⟩ := e3
        simp only [Option.some.injEq, Addr.mk.injEq] at e3
        obtain ⟨rfl, rfl, -⟩ := e3
        subst e4
        unfold txt at o0x
        have hco := specCopy o uox _ ro hoi
        obtain ⟨ax, cx, rfl, -⟩ := id ro
        unfold txt at hco
        have Hco := Lib.hid hco
        have Lp := Lib.hid lpo
        clear hco ro lpo
        go_wp2_with fail
        refine Hco.out.mono ?_
        rintro e wc ⟨uc, rfl, oc, nc⟩
        unfold txt
        obtain ⟨ac, dc, rfl, -⟩ := oc.shape
        have zc := nc.size
        have S1 := Lib.hid ((R1.out.new nq1).new nc)
        have G1 := Lib.hid ((F1.out.new nq1).new nc)
        have O1 := Lib.hid oc
        have Lv := Lib.hid ((R1.out.new nq1).lt)
        clear oc
        go_wp2_with first
          | (at_builtin; refine wpRow_appendRec slChange _ _ rfl rfl (.slice av D.length cv) D.length us [.int .i64 2, .string ⟨o.path.toArray⟩, .bool o.dir, .slice ac o.ids.length dc] 58 rfl S1.out rfl (by intro u hu; simp at hu; rcases hu with rfl | rfl | rfl | rfl <;> rfl) rfl (by omega) (by decide) ?_; intro va wa qa ca)
          | fail
        have oa := ch_one (c := ⟨2, o⟩) S1.out G1.out (I64.mk (x := 2) (by decide) (by decide)) Lp.out (O1.out.nums.mono (fun j _ hj e => by have := Lv.out j e; omega)) qa ca (by omega)
        have na : New w wa := ((hq1).trans nc).trans_chg ca (fun j hj e => by have := S1.out.2 j e; omega)
        have Oa := Lib.hid oa
        clear oa qa ca
        go_roundg ((os.length - (i + 1)) + (ps.length - (k)))
        case measure => rw [Hgk.out]; omega
        case rel => exact ⟨i + 1, k, D ++ [⟨2, o⟩], rfl, by omega, by omega, by go_num, by go_num, by simp; omega, na, Oa, Lib.hid (by rw [← He.out, Hst.out]; simp)⟩
      · have hfin : D = chgs os ps := by
          have e := He.out
          rw [List.drop_eq_nil_of_le (by omega), List.drop_eq_nil_of_le (by omega), chgs, List.append_nil] at e
          exact e
        have Hfin := Lib.hid hfin
        obtain ⟨av, cv, rfl⟩ := ho.out.shape
        clear hfin
        go_wp2_with fail
        go_ret2
        exact ⟨_, rfl, Hfin.out ▸ ho.out.chs, hn⟩
end Go.Proofs.YtkffejommncinaaDoor
