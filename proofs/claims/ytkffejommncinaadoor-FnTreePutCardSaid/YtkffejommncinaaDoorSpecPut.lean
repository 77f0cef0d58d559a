/- The reference's l5Put, TreePut. -/
import Derived.Test.YtkffejommncinaaDoorImplPut
import Derived.Test.YtkffejommncinaaDoorSpecDrop
namespace Go.Proofs.YtkffejommncinaaDoor
open Go.RowKit

def PutInv (os : List ItemR) (x : ItemR) (k : Nat) (dn : Bool) (D : List ItemR) : Prop :=
  D.length ≤ k + 1 ∧ ((dn = false ∧ D = os.take k ∧ ∀ o ∈ os.take k, sLt o.path x.path = true) ∨ (dn = true ∧ D ++ os.drop k = putS x os ∧ ∀ o ∈ os.drop k, sLt x.path o.path = true))
theorem put_front {x : ItemR} : ∀ {a b : List ItemR}, (∀ o ∈ a, sLt o.path x.path = true) → putS x (a ++ b) = a ++ putS x b
  | [], _, _ => rfl
  | y :: a, b, h => by
    rw [List.cons_append, putS, if_pos (h y List.mem_cons_self), put_front (fun o ho => h o (List.mem_cons_of_mem _ ho))]; rfl
theorem take_more {os : List ItemR} {k : Nat} {o : ItemR} (h : os[k]? = some o) : os.take (k + 1) = os.take k ++ [o] ∧ os.drop k = o :: os.drop (k + 1) := by
  obtain ⟨hk, e⟩ := List.getElem?_eq_some_iff.1 h
  exact ⟨by rw [List.take_succ_eq_append_getElem hk, e], by rw [List.drop_eq_getElem_cons hk, e]⟩
theorem inv_start (os : List ItemR) (x : ItemR) : PutInv os x 0 false [] := ⟨by simp, .inl ⟨rfl, rfl, by simp⟩⟩
theorem inv_lt {os : List ItemR} {x o : ItemR} {k : Nat} {D : List ItemR} (h : PutInv os x k false D) (ho : os[k]? = some o) (hs : sLt o.path x.path = true) : PutInv os x (k + 1) false (D ++ [o]) := by
  obtain ⟨h1, ⟨-, h2, h3⟩ | ⟨h2, -⟩⟩ := h
  · obtain ⟨e1, e2⟩ := take_more ho
    refine ⟨by simp; omega, .inl ⟨rfl, by rw [h2, e1], fun z hz => ?_⟩⟩
    rw [e1, List.mem_append, List.mem_singleton] at hz
    rcases hz with hz | rfl
    · exact h3 z hz
    · exact hs
  · cases h2
theorem put_at {os : List ItemR} {x : ItemR} {k : Nat} (h : ∀ o ∈ os.take k, sLt o.path x.path = true) : putS x os = os.take k ++ putS x (os.drop k) := by
  conv => lhs; rw [← List.take_append_drop k os]
  exact put_front h
theorem asc_later {os : List ItemR} (ha : Asc os) {k : Nat} {o : ItemR} (ho : os[k]? = some o) : ∀ z ∈ os.drop (k + 1), sLt o.path z.path = true := by
  have h1 : Asc (os.drop k) := List.Pairwise.sublist (List.drop_sublist _ _) ha
  rw [(take_more ho).2] at h1
  exact (List.pairwise_cons.1 h1).1
theorem inv_eq {os : List ItemR} {x o : ItemR} {k : Nat} {D : List ItemR} (ha : Asc os) (h : PutInv os x k false D) (ho : os[k]? = some o) (hs : o.path = x.path) : PutInv os x (k + 1) true (D ++ [x]) := by
  obtain ⟨h1, ⟨-, h2, h3⟩ | ⟨h2, -⟩⟩ := h
  · obtain ⟨e1, e2⟩ := take_more ho
    have hl := asc_later ha ho
    refine ⟨by simp; omega, .inr ⟨rfl, ?_, fun z hz => by rw [← hs]; exact hl z hz⟩⟩
    rw [put_at h3, e2, putS, if_neg (by rw [hs, sLt_irrefl]; simp), if_pos hs, h2]; simp
  · cases h2
theorem inv_gt {os : List ItemR} {x o : ItemR} {k : Nat} {D : List ItemR} (ha : Asc os) (h : PutInv os x k false D) (ho : os[k]? = some o) (hs : sLt x.path o.path = true) : PutInv os x (k + 1) true ((D ++ [x]) ++ [o]) := by
  obtain ⟨h1, ⟨-, h2, h3⟩ | ⟨h2, -⟩⟩ := h
  · obtain ⟨e1, e2⟩ := take_more ho
    have hl := asc_later ha ho
    have hlen := congrArg List.length h2
    rw [List.length_take] at hlen
    have hn1 : ¬ (sLt o.path x.path = true) := fun h => by have := sLt_trans h hs; rw [sLt_irrefl] at this; cases this
    have hn2 : ¬ (o.path = x.path) := fun e => by rw [e, sLt_irrefl] at hs; cases hs
    refine ⟨by simp; omega, .inr ⟨rfl, ?_, fun z hz => sLt_trans hs (hl z hz)⟩⟩
    rw [put_at h3, e2, putS, if_neg hn1, if_neg hn2, h2]; simp
  · cases h2
theorem inv_done {os : List ItemR} {x o : ItemR} {k : Nat} {D : List ItemR} (h : PutInv os x k true D) (ho : os[k]? = some o) : PutInv os x (k + 1) true (D ++ [o]) ∧ o.path ≠ x.path := by
  obtain ⟨h1, ⟨h2, -⟩ | ⟨-, h2, h3⟩⟩ := h
  · cases h2
  · obtain ⟨e1, e2⟩ := take_more ho
    rw [e2] at h2 h3
    exact ⟨⟨by simp; omega, .inr ⟨rfl, by rw [← h2]; simp, fun z hz => h3 z (List.mem_cons_of_mem _ hz)⟩⟩, fun e => by have := h3 o List.mem_cons_self; rw [e, sLt_irrefl] at this; cases this⟩
theorem inv_none {os : List ItemR} {x : ItemR} {k : Nat} {D : List ItemR} (h : PutInv os x k false D) (hk : os.length ≤ k) : D ++ [x] = putS x os := by
  obtain ⟨h1, ⟨-, h2, h3⟩ | ⟨h2, -⟩⟩ := h
  · rw [put_at h3, List.drop_eq_nil_of_le hk, h2]; rfl
  · cases h2
theorem inv_end {os : List ItemR} {x : ItemR} {k : Nat} {D : List ItemR} (h : PutInv os x k true D) (hk : os.length ≤ k) : D = putS x os := by
  obtain ⟨h1, ⟨h2, -⟩ | ⟨-, h2, h3⟩⟩ := h
  · cases h2
  · rw [List.drop_eq_nil_of_le hk, List.append_nil] at h2; exact h2

set_option maxRecDepth 4000 in
set_option maxHeartbeats 4000000 in
theorem spec5Put {S R : Nat → Prop} (v : Value) (os : List ItemR) (x : ItemR) (u : Value) (w : World) (h : Items S w v os) (hl : os.length ≤ 900) (hall : ∀ o ∈ os, o.size ≤ 1048576) (hu : Ints R w u x.ids) (hp : x.path.length ≤ 1048576) (hxi : x.ids.length ≤ 1048576) (ha : Asc os) :
    Calls Tryd.prog 54 #[v, .agg #[txt x.path, .bool x.dir, u]] w (ToItemsPost (putS x os) w) := by
  have h0 := h
  have hat := fun (W : World) (n : New w W) (k : Nat) (o : ItemR) (ho : os[k]? = some o) => Items.at (Recs.new h0 n) ho
  have hcx := fun (W : World) (n : New w W) => specCopy x u W (hu.new n) hxi
  have hnb := (New.refl w).alloc (.cells #[txt x.path, .bool x.dir, u] 28)
  have hpb := heap_alloc_new w (.cells #[txt x.path, .bool x.dir, u] 28)
  have hsz : (w.alloc (.cells #[txt x.path, .bool x.dir, u] 28)).heap.size = w.heap.size + 1 := World.size_alloc _ _
  have o0 := OwnRecs.empty 28 3 (w.alloc (.cells #[txt x.path, .bool x.dir, u] 28))
  have nb0 := hnb.alloc (.cells #[] 28)
  have pb0 := ((New.refl (w.alloc (.cells #[txt x.path, .bool x.dir, u] 28))).alloc (.cells #[] 28)).heap hpb
  rw [hsz] at o0
  unfold txt at hcx nb0 pb0 o0 ⊢
  obtain ⟨-, a, c, rfl, h1, h2, -⟩ := h
  obtain ⟨au, cu, rfl, -⟩ := hu
  unfold maxLen at h2
  have Hat := Lib.hid hat
  have Hcx := Lib.hid hcx
  have Hall := Lib.hid hall
  have Nb0 := Lib.hid nb0
  have Pb0 := Lib.hid pb0
  have O0 := Lib.hid o0
  have HA := Lib.hid ha
  clear hat hcx hnb hpb hsz o0 nb0 pb0 h0 hall ha
  go_enter Tryd.func54, Tryd.ntmps54
  go_wp2_with fail
  go_loopg [5, 6, 7] os.length (fun gk s5 s6 i wr => ∃ (k : Nat) (dn : Bool) (D : List ItemR), gk = os.length - k ∧ k ≤ os.length ∧ i = .int .i64 k ∧ s6 = .bool dn ∧ New w wr ∧ Hid (OwnItems (fun j => w.heap.size < j) wr s5 D) ∧ Hid (PutInv os x k dn D) ∧ Hid (wr.heap[w.heap.size]? = some (.cells #[.string ⟨x.path.toArray⟩, .bool x.dir, .slice au x.ids.length cu] 28)))
  case atStart => exact ⟨0, false, [], by omega, by omega, rfl, rfl, Nb0.out, Lib.hid (OwnRecs.mono O0.out (fun j _ hj => by omega)), Lib.hid (inv_start os x), Pb0⟩
  case round =>
    obtain ⟨k, dn, D, hgk, hk, rfl, rfl, hn, ho, I, Pb⟩ := hrel
    have Hgk := Lib.hid hgk
    have hDl := I.out.1
    have z0 := hn.size
    have hbw : w.heap.size < wr.heap.size := (Array.getElem?_eq_some_iff.1 Pb.out).1
    clear hgk Nb0 Pb0 O0
    by_cases hlt : k < os.length
    · obtain ⟨o, hx⟩ := get_of hlt
      obtain ⟨b, off, c', uo, e1, hb, c0, c1, c2, lp, r2⟩ := Hat.out wr hn k o hx
      simp only [Value.slice.injEq] at e1
      obtain ⟨rfl, -, rfl⟩ := e1
      have hos := Hall.out o (List.mem_of_getElem? hx)
      obtain ⟨ao, co, rfl, -⟩ := id r2
      have hoi : o.ids.length ≤ 1048576 := by unfold ItemR.size at hos; omega
      obtain ⟨b0, b1, b2, -, -, -⟩ := set3_cells Pb.out
      unfold txt at c0
      have Hx := Lib.hid hx
      have Lp := Lib.hid lp
      have hl1 := less_is x.path o.path
      have hl2 := less_is o.path x.path
      clear hx r2 lp
      rcases dn with _ | _
      · rcases hs : sLt o.path x.path with _ | _
        · by_cases he : o.path = x.path
          · have heb : (o.path == x.path) = true := by simp [he]
            have heb2 : (o.path != x.path) = false := by simp [he]
            have heq := inv_eq HA.out I.out Hx.out he
            have Heq := Lib.hid heq
            rw [hs] at hl2
            clear hs he heq hl1
            obtain ⟨us1, r1, f1⟩ := OwnRecs.old ho.out
            obtain ⟨av1, cv1, rfl, x11, x21, -, -⟩ := r1.shape
            unfold maxLen at x21
            have R1 := Lib.hid r1
            have F1 := Lib.hid f1
            clear r1 f1 ho
            go_wp2_with fail
            go_quiet (fail)
            have nq1 : New wr (wr.drewN nq) := (New.refl wr).drewN nq
            have zq1 : (wr.drewN nq).heap.size = wr.heap.size := rfl
            have pq1 := nq1.heap Pb.out
            generalize wr.drewN nq = wq1 at *
            obtain ⟨e0, e1, e2, -, -, -⟩ := set3_cells pq1
            go_wp2_with fail
            refine (Hcx.out wq1 (hn.trans nq1)).mono ?_
            rintro e wc1 ⟨uc1, rfl, oc1, nc1⟩
            unfold txt
            obtain ⟨ac1, dc1, rfl, -⟩ := oc1.shape
            have zc1 := nc1.size
            have S1 := Lib.hid ((R1.out.new nq1).new nc1)
            have G1 := Lib.hid ((F1.out.new nq1).new nc1)
            have O1 := Lib.hid oc1
            clear R1 F1 oc1
            go_wp2_with first
              | (at_builtin; refine wpRow_appendRec slItem _ _ rfl rfl (.slice av1 D.length cv1) D.length us1 [.string ⟨x.path.toArray⟩, .bool x.dir, .slice ac1 x.ids.length dc1] 28 rfl S1.out rfl (by intro u hu; simp at hu; rcases hu with rfl | rfl | rfl <;> rfl) rfl (by omega) (by decide) ?_; intro va1 wa1 qa1 ca1)
              | fail
            have oa1 := own_snoc (o := x) S1.out G1.out ((OwnI.of O1.out).mono (fun j _ hj => by omega)) (by unfold maxLen; omega) qa1 ca1 (by omega) (by omega)
            have na1 : New w wa1 := ((hn.trans nq1).trans nc1).trans_chg ca1 (fun j hj e => by have := (S1.out.2 j e).1; omega)
            obtain ⟨av9, cv9, rfl, -⟩ := qa1.shape
            obtain ⟨bb1, off1, c1', uo1, e3, -, d0, -⟩ := Hat.out wa1 na1 k o Hx.out
            simp only [Value.slice.injEq] at e3
            obtain ⟨e3, -, e4⟩ := e3
            simp only [Option.some.injEq, Addr.mk.injEq] at e3
            obtain ⟨rfl, rfl, -⟩ := e3
            subst e4
            unfold txt at d0
            have pb2 := ca1.heap (nc1.heap pq1) (fun e => by have := (S1.out.2 _ e).1; omega)
            obtain ⟨g0, -, -, -, -, -⟩ := set3_cells pb2
            have Oa := Lib.hid oa1
            have Pb2 := Lib.hid pb2
            clear oa1 pb2 qa1 ca1 S1 G1 O1
            go_wp2_with fail
            go_quiet (fail)
            have nq2 : New wa1 (wa1.drewN nq) := (New.refl wa1).drewN nq
            have zq2 : (wa1.drewN nq).heap.size = wa1.heap.size := rfl
            have pq2 := nq2.heap Pb2.out
            generalize wa1.drewN nq = wq2 at *
            go_wp2_with fail
            go_roundg (os.length - (k + 1))
            case measure => rw [Hgk.out]; omega
            case rel => exact ⟨k + 1, _, _, rfl, by omega, by go_num, rfl, na1.trans nq2, Lib.hid (OwnRecs.mono (OwnRecs.new Oa.out nq2) (fun j _ hj => by omega)), Heq, Lib.hid pq2⟩
          · have hs2 : sLt x.path o.path = true := by
              rcases h : sLt x.path o.path with _ | _
              · exact absurd (sLt_total hs h) he
              · rfl
            have heb : (o.path == x.path) = false := by simp [he]
            have heb2 : (o.path != x.path) = true := by simp [he]
            have heq := inv_gt HA.out I.out Hx.out hs2
            have Heq := Lib.hid heq
            rw [hs2] at hl1
            rw [hs] at hl2
            clear hs hs2 he heq
            obtain ⟨us1, r1, f1⟩ := OwnRecs.old ho.out
            obtain ⟨av1, cv1, rfl, x11, x21, -, -⟩ := r1.shape
            unfold maxLen at x21
            have R1 := Lib.hid r1
            have F1 := Lib.hid f1
            clear r1 f1 ho
            go_wp2_with fail
            go_quiet (fail)
            have nq1 : New wr (wr.drewN nq) := (New.refl wr).drewN nq
            have zq1 : (wr.drewN nq).heap.size = wr.heap.size := rfl
            have pq1 := nq1.heap Pb.out
            generalize wr.drewN nq = wq1 at *
            obtain ⟨e0, e1, e2, -, -, -⟩ := set3_cells pq1
            go_wp2_with fail
            refine (Hcx.out wq1 (hn.trans nq1)).mono ?_
            rintro e wc1 ⟨uc1, rfl, oc1, nc1⟩
            unfold txt
            obtain ⟨ac1, dc1, rfl, -⟩ := oc1.shape
            have zc1 := nc1.size
            have S1 := Lib.hid ((R1.out.new nq1).new nc1)
            have G1 := Lib.hid ((F1.out.new nq1).new nc1)
            have O1 := Lib.hid oc1
            clear R1 F1 oc1
            go_wp2_with first
              | (at_builtin; refine wpRow_appendRec slItem _ _ rfl rfl (.slice av1 D.length cv1) D.length us1 [.string ⟨x.path.toArray⟩, .bool x.dir, .slice ac1 x.ids.length dc1] 28 rfl S1.out rfl (by intro u hu; simp at hu; rcases hu with rfl | rfl | rfl <;> rfl) rfl (by omega) (by decide) ?_; intro va1 wa1 qa1 ca1)
              | fail
            have oa1 := own_snoc (o := x) S1.out G1.out ((OwnI.of O1.out).mono (fun j _ hj => by omega)) (by unfold maxLen; omega) qa1 ca1 (by omega) (by omega)
            have na1 : New w wa1 := ((hn.trans nq1).trans nc1).trans_chg ca1 (fun j hj e => by have := (S1.out.2 j e).1; omega)
            have pb2 := ca1.heap (nc1.heap pq1) (fun e => by have := (S1.out.2 _ e).1; omega)
            have oo2 : OwnItems (fun j => w.heap.size < j) wa1 va1 (D ++ [x]) := OwnRecs.mono oa1 (fun j _ hj => by omega)
            have Oo2 := Lib.hid oo2
            have hD2 : (D ++ [x]).length = D.length + 1 := by simp
            have za1 := na1.size
            have hbw2 : w.heap.size < wa1.heap.size := (Array.getElem?_eq_some_iff.1 pb2).1
            clear oa1 oo2 qa1 ca1 S1 G1 O1
            generalize hDD : D ++ [x] = D2 at *
            have HDD := Lib.hid hDD
            have hD2l : D2.length ≤ 902 := by omega
            clear hDD hD2
            obtain ⟨us2, r2, f2⟩ := OwnRecs.old Oo2.out
            obtain ⟨av2, cv2, rfl, x12, x22, -, -⟩ := r2.shape
            unfold maxLen at x22
            have R2 := Lib.hid r2
            have F2 := Lib.hid f2
            clear r2 f2 Oo2
            obtain ⟨bb0, off0, c0', uo0, e3, -, d0', -⟩ := Hat.out wa1 na1 k o Hx.out
            simp only [Value.slice.injEq] at e3
            obtain ⟨e3, -, e4⟩ := e3
            simp only [Option.some.injEq, Addr.mk.injEq] at e3
            obtain ⟨rfl, rfl, -⟩ := e3
            subst e4
            unfold txt at d0'
            obtain ⟨g0, -, -, -, -, -⟩ := set3_cells pb2
            have Pb2 := Lib.hid pb2
            clear pb2
            go_wp2_with fail
            go_quiet (fail)
            have nq2 : New wa1 (wa1.drewN nq) := (New.refl wa1).drewN nq
            have zq2 : (wa1.drewN nq).heap.size = wa1.heap.size := rfl
            have pq2 := nq2.heap Pb2.out
            generalize wa1.drewN nq = wq2 at *
            obtain ⟨bb1, off1, c1', uo1, e3, -, d0, d1, d2, -, r2⟩ := Hat.out wq2 (na1.trans nq2) k o Hx.out
            simp only [Value.slice.injEq] at e3
            obtain ⟨e3, -, e4⟩ := e3
            simp only [Option.some.injEq, Addr.mk.injEq] at e3
            obtain ⟨rfl, rfl, -⟩ := e3
            subst e4
            have hco := specCopy o uo1 _ r2 hoi
            obtain ⟨ao1, co1, rfl, -⟩ := id r2
            unfold txt at d0 hco
            have Hco := Lib.hid hco
            clear hco r2
            go_wp2_with fail
            refine Hco.out.mono ?_
            rintro e wc2 ⟨uc2, rfl, oc2, nc2⟩
            unfold txt
            obtain ⟨ac2, dc2, rfl, -⟩ := oc2.shape
            have zc2 := nc2.size
            have S2 := Lib.hid ((R2.out.new nq2).new nc2)
            have G2 := Lib.hid ((F2.out.new nq2).new nc2)
            have O2 := Lib.hid oc2
            clear R2 F2 oc2
            go_wp2_with first
              | (at_builtin; refine wpRow_appendRec slItem _ _ rfl rfl (.slice av2 D2.length cv2) D2.length us2 [.string ⟨o.path.toArray⟩, .bool o.dir, .slice ac2 o.ids.length dc2] 28 rfl S2.out rfl (by intro u hu; simp at hu; rcases hu with rfl | rfl | rfl <;> rfl) rfl (by omega) (by decide) ?_; intro va2 wa2 qa2 ca2)
              | fail
            have oa2 := own_snoc (o := o) S2.out G2.out ((OwnI.of O2.out).mono (fun j _ hj => by omega)) Lp.out qa2 ca2 (by omega) (by omega)
            have na2 : New w wa2 := ((na1.trans nq2).trans nc2).trans_chg ca2 (fun j hj e => by have := (S2.out.2 j e).1; omega)
            go_roundg (os.length - (k + 1))
            case measure => rw [Hgk.out]; omega
            case rel => exact ⟨k + 1, _, _, rfl, by omega, by go_num, rfl, na2, Lib.hid (OwnRecs.mono oa2 (fun j _ hj => by omega)), Lib.hid (Heq.out), Lib.hid (ca2.heap (nc2.heap pq2) (fun e => by have := (S2.out.2 _ e).1; omega))⟩
        · have hne := sLt_ne hs
          have heb : (o.path == x.path) = false := by simp [hne]
          have heb2 : (o.path != x.path) = true := by simp [hne]
          have hnb : sLt x.path o.path = false := by
            rcases h : sLt x.path o.path with _ | _
            · rfl
            · have := sLt_trans h hs
              rw [sLt_irrefl] at this; cases this
          have heq := inv_lt I.out Hx.out hs
          have Heq := Lib.hid heq
          rw [hnb] at hl1
          rw [hs] at hl2
          clear hs hne hnb heq
          obtain ⟨us1, r1, f1⟩ := OwnRecs.old ho.out
          obtain ⟨av1, cv1, rfl, x11, x21, -, -⟩ := r1.shape
          unfold maxLen at x21
          have R1 := Lib.hid r1
          have F1 := Lib.hid f1
          clear r1 f1 ho
          go_wp2_with fail
          go_quiet (fail)
          have nq1 : New wr (wr.drewN nq) := (New.refl wr).drewN nq
          have zq1 : (wr.drewN nq).heap.size = wr.heap.size := rfl
          have pq1 := nq1.heap Pb.out
          generalize wr.drewN nq = wq1 at *
          obtain ⟨g0, -, -, -, -, -⟩ := set3_cells pq1
          obtain ⟨bb0, off0, c0', uo0, e3, -, d0', -⟩ := Hat.out wq1 (hn.trans nq1) k o Hx.out
          simp only [Value.slice.injEq] at e3
          obtain ⟨e3, -, e4⟩ := e3
          simp only [Option.some.injEq, Addr.mk.injEq] at e3
          obtain ⟨rfl, rfl, -⟩ := e3
          subst e4
          unfold txt at d0'
          go_wp2_with fail
          go_quiet (fail)
          have nq2 : New wq1 (wq1.drewN nq) := (New.refl wq1).drewN nq
          have zq2 : (wq1.drewN nq).heap.size = wq1.heap.size := rfl
          have pq2 := nq2.heap pq1
          generalize wq1.drewN nq = wq2 at *
          obtain ⟨bb1, off1, c1', uo1, e3, -, d0, d1, d2, -, r2⟩ := Hat.out wq2 ((hn.trans nq1).trans nq2) k o Hx.out
          simp only [Value.slice.injEq] at e3
          obtain ⟨e3, -, e4⟩ := e3
          simp only [Option.some.injEq, Addr.mk.injEq] at e3
          obtain ⟨rfl, rfl, -⟩ := e3
          subst e4
          have hco := specCopy o uo1 _ r2 hoi
          obtain ⟨ao1, co1, rfl, -⟩ := id r2
          unfold txt at d0 hco
          have Hco := Lib.hid hco
          clear hco r2
          go_wp2_with fail
          refine Hco.out.mono ?_
          rintro e wc1 ⟨uc1, rfl, oc1, nc1⟩
          unfold txt
          obtain ⟨ac1, dc1, rfl, -⟩ := oc1.shape
          have zc1 := nc1.size
          have S1 := Lib.hid ((R1.out.new (nq1.trans nq2)).new nc1)
          have G1 := Lib.hid ((F1.out.new (nq1.trans nq2)).new nc1)
          have O1 := Lib.hid oc1
          clear R1 F1 oc1
          go_wp2_with first
            | (at_builtin; refine wpRow_appendRec slItem _ _ rfl rfl (.slice av1 D.length cv1) D.length us1 [.string ⟨o.path.toArray⟩, .bool o.dir, .slice ac1 o.ids.length dc1] 28 rfl S1.out rfl (by intro u hu; simp at hu; rcases hu with rfl | rfl | rfl <;> rfl) rfl (by omega) (by decide) ?_; intro va1 wa1 qa1 ca1)
            | fail
          have oa1 := own_snoc (o := o) S1.out G1.out ((OwnI.of O1.out).mono (fun j _ hj => by omega)) Lp.out qa1 ca1 (by omega) (by omega)
          have na1 : New w wa1 := (((hn.trans nq1).trans nq2).trans nc1).trans_chg ca1 (fun j hj e => by have := (S1.out.2 j e).1; omega)
          go_roundg (os.length - (k + 1))
          case measure => rw [Hgk.out]; omega
          case rel => exact ⟨k + 1, _, _, rfl, by omega, by go_num, rfl, na1, Lib.hid (OwnRecs.mono oa1 (fun j _ hj => by omega)), Lib.hid (Heq.out), Lib.hid (ca1.heap (nc1.heap pq2) (fun e => by have := (S1.out.2 _ e).1; omega))⟩
      · obtain ⟨heq, hne⟩ := inv_done I.out Hx.out
        have heb : (o.path == x.path) = false := by simp [hne]
        have heb2 : (o.path != x.path) = true := by simp [hne]
        have Heq := Lib.hid heq
        clear hne heq hl1 hl2
        obtain ⟨us1, r1, f1⟩ := OwnRecs.old ho.out
        obtain ⟨av1, cv1, rfl, x11, x21, -, -⟩ := r1.shape
        unfold maxLen at x21
        have R1 := Lib.hid r1
        have F1 := Lib.hid f1
        clear r1 f1 ho
        go_wp2_with fail
        go_quiet (fail)
        have nq1 : New wr (wr.drewN nq) := (New.refl wr).drewN nq
        have zq1 : (wr.drewN nq).heap.size = wr.heap.size := rfl
        have pq1 := nq1.heap Pb.out
        generalize wr.drewN nq = wq1 at *
        obtain ⟨g0, -, -, -, -, -⟩ := set3_cells pq1
        obtain ⟨bb0, off0, c0', uo0, e3, -, d0', -⟩ := Hat.out wq1 (hn.trans nq1) k o Hx.out
        simp only [Value.slice.injEq] at e3
        obtain ⟨e3, -, e4⟩ := e3
        simp only [Option.some.injEq, Addr.mk.injEq] at e3
        obtain ⟨rfl, rfl, -⟩ := e3
        subst e4
        unfold txt at d0'
        go_wp2_with fail
        go_quiet (fail)
        have nq2 : New wq1 (wq1.drewN nq) := (New.refl wq1).drewN nq
        have zq2 : (wq1.drewN nq).heap.size = wq1.heap.size := rfl
        have pq2 := nq2.heap pq1
        generalize wq1.drewN nq = wq2 at *
        obtain ⟨bb1, off1, c1', uo1, e3, -, d0, d1, d2, -, r2⟩ := Hat.out wq2 ((hn.trans nq1).trans nq2) k o Hx.out
        simp only [Value.slice.injEq] at e3
        obtain ⟨e3, -, e4⟩ := e3
        simp only [Option.some.injEq, Addr.mk.injEq] at e3
        obtain ⟨rfl, rfl, -⟩ := e3
        subst e4
        have hco := specCopy o uo1 _ r2 hoi
        obtain ⟨ao1, co1, rfl, -⟩ := id r2
        unfold txt at d0 hco
        have Hco := Lib.hid hco
        clear hco r2
        go_wp2_with fail
        refine Hco.out.mono ?_
        rintro e wc1 ⟨uc1, rfl, oc1, nc1⟩
        unfold txt
        obtain ⟨ac1, dc1, rfl, -⟩ := oc1.shape
        have zc1 := nc1.size
        have S1 := Lib.hid ((R1.out.new (nq1.trans nq2)).new nc1)
        have G1 := Lib.hid ((F1.out.new (nq1.trans nq2)).new nc1)
        have O1 := Lib.hid oc1
        clear R1 F1 oc1
        go_wp2_with first
          | (at_builtin; refine wpRow_appendRec slItem _ _ rfl rfl (.slice av1 D.length cv1) D.length us1 [.string ⟨o.path.toArray⟩, .bool o.dir, .slice ac1 o.ids.length dc1] 28 rfl S1.out rfl (by intro u hu; simp at hu; rcases hu with rfl | rfl | rfl <;> rfl) rfl (by omega) (by decide) ?_; intro va1 wa1 qa1 ca1)
          | fail
        have oa1 := own_snoc (o := o) S1.out G1.out ((OwnI.of O1.out).mono (fun j _ hj => by omega)) Lp.out qa1 ca1 (by omega) (by omega)
        have na1 : New w wa1 := (((hn.trans nq1).trans nq2).trans nc1).trans_chg ca1 (fun j hj e => by have := (S1.out.2 j e).1; omega)
        go_roundg (os.length - (k + 1))
        case measure => rw [Hgk.out]; omega
        case rel => exact ⟨k + 1, _, _, rfl, by omega, by go_num, rfl, na1, Lib.hid (OwnRecs.mono oa1 (fun j _ hj => by omega)), Lib.hid (Heq.out), Lib.hid (ca1.heap (nc1.heap pq2) (fun e => by have := (S1.out.2 _ e).1; omega))⟩
    · rcases dn with _ | _
      · have hfin := inv_none I.out (by omega)
        obtain ⟨b0, b1, b2, -, -, -⟩ := set3_cells Pb.out
        have Hfin := Lib.hid hfin
        clear hfin
        obtain ⟨us1, r1, f1⟩ := OwnRecs.old ho.out
        obtain ⟨av1, cv1, rfl, x11, x21, -, -⟩ := r1.shape
        unfold maxLen at x21
        have R1 := Lib.hid r1
        have F1 := Lib.hid f1
        clear r1 f1 ho
        go_wp2_with fail
        refine (Hcx.out wr hn).mono ?_
        rintro e wc1 ⟨uc1, rfl, oc1, nc1⟩
        unfold txt
        obtain ⟨ac1, dc1, rfl, -⟩ := oc1.shape
        have zc1 := nc1.size
        have S1 := Lib.hid ((R1.out.new (New.refl wr)).new nc1)
        have G1 := Lib.hid ((F1.out.new (New.refl wr)).new nc1)
        have O1 := Lib.hid oc1
        clear R1 F1 oc1
        go_wp2_with first
          | (at_builtin; refine wpRow_appendRec slItem _ _ rfl rfl (.slice av1 D.length cv1) D.length us1 [.string ⟨x.path.toArray⟩, .bool x.dir, .slice ac1 x.ids.length dc1] 28 rfl S1.out rfl (by intro u hu; simp at hu; rcases hu with rfl | rfl | rfl <;> rfl) rfl (by omega) (by decide) ?_; intro va1 wa1 qa1 ca1)
          | fail
        have oa1 := own_snoc (o := x) S1.out G1.out ((OwnI.of O1.out).mono (fun j _ hj => by omega)) (by unfold maxLen; omega) qa1 ca1 (by omega) (by omega)
        have na1 : New w wa1 := (hn.trans nc1).trans_chg ca1 (fun j hj e => by have := (S1.out.2 j e).1; omega)
        obtain ⟨av9, cv9, rfl, -⟩ := OwnRecs.shape oa1
        go_ret
        rw [← Hfin.out]
        exact ⟨_, rfl, OwnRecs.mono oa1 (fun j _ hj => by omega), na1⟩
      · have hfin := inv_end I.out (by omega)
        have ho' := ho.out
        obtain ⟨av9, cv9, rfl, -⟩ := OwnRecs.shape ho'
        have Hfin := Lib.hid hfin
        clear hfin ho'
        go_wp2_with fail
        go_ret
        rw [← Hfin.out]
        exact ⟨_, rfl, OwnRecs.mono ho.out (fun j _ hj => by omega), hn⟩
end Go.Proofs.YtkffejommncinaaDoor
