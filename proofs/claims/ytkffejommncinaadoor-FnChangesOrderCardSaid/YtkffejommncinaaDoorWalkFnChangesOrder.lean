/- The walk of FnChangesOrder. -/
import Derived.Test.YtkffejommncinaaDoorDrawTwo
import Derived.Test.YtkffejommncinaaDoorImplChanges
import Derived.Test.YtkffejommncinaaDoorSameChanges
namespace Go.Proofs.YtkffejommncinaaDoor
open Go.RowKit

set_option maxRecDepth 4000 in
set_option maxHeartbeats 8000000 in
theorem walkFnChangesOrder (v : Value) (bs : List Int) (w : World) (h : Nums .u8 Any w v bs) :
    Calls Tryd.prog 10 #[v] w fun e w' => e = .returned (.bool true) ∧ New w w' := by
  have hdr := drawChangesOf v bs w h
  have Hdr := Lib.hid hdr
  clear hdr
  obtain ⟨a, c, rfl, h1, ⟨h2, -⟩, -, -⟩ := h
  unfold maxLen at h2
  by_cases hbig : 1048576 < bs.length
  · have hd : (1048576 : Int) < (bs.length : Int) := by omega
    go_enter Tryd.func10, Tryd.ntmps10
    go_wp2_with fail
    go_ret
    exact ⟨rfl, New.refl _⟩
  have hd : ¬ ((1048576 : Int) < (bs.length : Int)) := by omega
  go_enter Tryd.func10, Tryd.ntmps10
  go_wp2_with fail
  refine Hdr.out.mono ?_
  rintro e w1 ⟨v1, os, u1, ps, rfl, ⟨hl, hsm⟩, ⟨gl, gsm⟩, o1, p1, n1⟩
  obtain ⟨a1, c1, rfl, s1, s2, -⟩ := o1.shape
  obtain ⟨a2, c2, rfl, s3, s4, -⟩ := p1.shape
  have hall := small_all hsm
  have gall := small_all gsm
  have hI := o1.recs
  have gI := p1.recs
  have N1 := Lib.hid n1
  clear o1 p1 hsm gsm n1 Hdr
  by_cases hk : treeOk os = true ∧ treeOk ps = true
  · obtain ⟨hk1, hk2⟩ := hk
    have him := fun (W : World) (n : New w1 W) => implChangesOf _ _ os ps W (Recs.new hI n) (Recs.new gI n) hall gall hk1 hk2
    have hsp := fun (W : World) (n : New w1 W) => specChangesOf _ _ os ps W (Recs.new hI n) (Recs.new gI n) hall gall hk1 hk2
    have hadj := adj_chgs os ps (treeOk_p hk1).1.asc (treeOk_p hk2).1.asc
    unfold ChgPost at him hsp
    have hcl := chgs_len os ps
    generalize chgs os ps = cs at *
    have HIm := Lib.hid him
    have HSp := Lib.hid hsp
    have Hadj := Lib.hid hadj
    have hc24 : cs.length ≤ 24 := by have := (treeOk_p hk1).2; have := (treeOk_p hk2).2; omega
    clear him hsp hadj hk1 hk2 hI gI hall gall hcl
    go_wp2_with fail
    refine (HIm.out _ (New.refl _)).mono ?_
    rintro e w2 ⟨v2, rfl, o2, n2⟩
    obtain ⟨-, a3, c3, rfl, x1, x2, -⟩ := id o2
    go_wp2_with fail
    refine (HSp.out _ n2).mono ?_
    rintro e w3 ⟨v3, rfl, o3, n3⟩
    obtain ⟨-, a4, c4, rfl, y1, y2, -⟩ := id o3
    have nn := n2.trans n3
    have hsc := sameChanges _ _ cs cs w3 (Recs.new o2 n3) o3
    rw [decide_eq_true (rfl : cs = cs)] at hsc
    have Hsc := Lib.hid hsc
    have O2 := Lib.hid (Recs.new o2 n3)
    unfold maxLen at x2 y2
    clear hsc o2 o3 n2 n3 HIm HSp
    go_wp2_with fail
    refine Hsc.out.mono ?_
    rintro e w4 ⟨rfl, n4⟩
    have O4 := Lib.hid (Recs.new O2.out n4)
    have N4 := Lib.hid (N1.out.trans (nn.trans n4))
    clear Hsc O2 n4 nn N1
    have hat := fun (W : World) (n : New w4 W) (k : Nat) (o : ChR) (ho : cs[k]? = some o) => Chs.at (Recs.new O4.out n) ho
    have Hat := Lib.hid hat
    clear hat
    go_wp2_with fail
    go_loopg [9] cs.length (fun gk s9 wr => ∃ (k : Nat), gk = cs.length - k ∧ s9 = .int .i64 ((k : Int) + 1) ∧ k ≤ cs.length ∧ New w4 wr)
    case atStart => exact ⟨0, rfl, rfl, Nat.zero_le _, New.refl _⟩
    case round =>
      obtain ⟨k, hgk, rfl, hk, hn⟩ := hrel
      have Hgk := Lib.hid hgk
      clear hgk
      by_cases hlt : k + 1 < cs.length
      · obtain ⟨x, hx⟩ := get_of (show k < cs.length by omega)
        obtain ⟨y, hy⟩ := get_of hlt
        obtain ⟨b, off, cb, r, e1, -, c0, c1', -⟩ := Hat.out wr hn k x hx
        obtain ⟨b', off', cb', r', e2, -, d0, d1', -⟩ := Hat.out wr hn (k + 1) y hy
        simp only [Value.slice.injEq] at e1 e2
        obtain ⟨rfl, -, rfl⟩ := e1
        obtain ⟨e2, -, e3⟩ := e2
        simp only [Option.some.injEq, Addr.mk.injEq] at e2
        obtain ⟨rfl, rfl, -⟩ := e2
        subst e3
        unfold txt at c1' d1'
        have hok := adj_at Hadj.out hx hy
        clear hx hy
        have hl1 := less_is y.item.path x.item.path
        rcases hok with hlt' | ⟨he, hk2, hk1⟩
        · have hne : (x.item.path == y.item.path) = false := by
            simp only [beq_eq_false_iff_ne]
            intro e
            rw [e, sLt_irrefl] at hlt'
            cases hlt'
          have hgt : sLt y.item.path x.item.path = false := by
            rcases h : sLt y.item.path x.item.path with _ | _
            · rfl
            · have := sLt_trans h hlt'
              rw [sLt_irrefl] at this; cases this
          have hl2 := less_is x.item.path y.item.path
          rw [hgt] at hl1
          rw [hlt'] at hl2
          clear hgt hlt'
          go_wp2_with fail
          go_quiet (fail)
          have nq1 : New wr (wr.drewN nq) := (New.refl wr).drewN nq
          generalize wr.drewN nq = wq1 at *
          go_wp2_with fail
          go_roundg (cs.length - (k + 1))
          case measure => rw [Hgk.out]; omega
          case rel => exact ⟨k + 1, rfl, by go_num, by omega, hn.trans nq1⟩
        · rw [hk2] at c0
          rw [hk1] at d0
          rw [he] at c1' hl1
          rw [sLt_irrefl] at hl1
          clear hk1 hk2 he
          go_wp2_with fail
          go_quiet (fail)
          have nq1 : New wr (wr.drewN nq) := (New.refl wr).drewN nq
          generalize wr.drewN nq = wq1 at *
          go_wp2_with fail
          go_roundg (cs.length - (k + 1))
          case measure => rw [Hgk.out]; omega
          case rel => exact ⟨k + 1, rfl, by go_num, by omega, hn.trans nq1⟩
      · go_wp2_with fail
        go_ret
        exact ⟨rfl, N4.out.trans hn⟩
  · have hk' : treeOk os = false ∨ treeOk ps = false := by
      rcases h1 : treeOk os with _ | _
      · exact .inl rfl
      · rcases h2 : treeOk ps with _ | _
        · exact .inr rfl
        · exact absurd ⟨h1, h2⟩ hk
    have him := fun (W : World) (n : New w1 W) => implChangesNot _ _ os ps W (Recs.new hI n) (Recs.new gI n) hall gall hk'
    have hsp := fun (W : World) (n : New w1 W) => specChangesNot _ _ os ps W (Recs.new hI n) (Recs.new gI n) hall gall hk'
    unfold ChgPost at him hsp
    have HIm := Lib.hid him
    have HSp := Lib.hid hsp
    clear him hsp hk hk' hI gI hall gall
    go_wp2_with fail
    refine (HIm.out _ (New.refl _)).mono ?_
    rintro e w2 ⟨v2, rfl, o2, n2⟩
    obtain ⟨-, a3, c3, rfl, x1, x2, -⟩ := id o2
    go_wp2_with fail
    refine (HSp.out _ n2).mono ?_
    rintro e w3 ⟨v3, rfl, o3, n3⟩
    obtain ⟨-, a4, c4, rfl, y1, y2, -⟩ := id o3
    have nn := n2.trans n3
    have hsc := fun (W : World) (n : New w3 W) => sameChanges _ _ ([] : List ChR) ([] : List ChR) W (Recs.new (Recs.new o2 n3) n) (Recs.new o3 n)
    rw [decide_eq_true (rfl : ([] : List ChR) = ([] : List ChR))] at hsc
    have Hsc := Lib.hid hsc
    clear hsc o2 o3 n2 n3 HIm HSp
    go_wp2_with fail
    refine (Hsc.out _ (New.refl _)).mono ?_
    rintro e w4 ⟨rfl, n4⟩
    go_wp2_with fail
    refine (Hsc.out _ n4).mono ?_
    rintro e w5 ⟨rfl, n5⟩
    go_wp2_with fail
    go_ret
    exact ⟨rfl, N1.out.trans ((nn.trans n4).trans n5)⟩
end Go.Proofs.YtkffejommncinaaDoor
