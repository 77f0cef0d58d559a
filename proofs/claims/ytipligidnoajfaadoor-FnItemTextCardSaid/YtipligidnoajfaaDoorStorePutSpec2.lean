/- The reference's StorePut and StoreGet, whole. -/
import Derived.Test.YtipligidnoajfaaDoorStorePutSpec
namespace Go.Proofs.YtipligidnoajfaaDoor
open Go.RowKit

/-- What the reference's StorePut answers: to be read. -/
def PutsRead (r : Option (List HeldR × Int)) (w : World) (e : Ending) (w' : World) : Prop :=
  ∃ v, e = .returned (.tuple #[v, .int .i64 ((r.map Prod.snd).getD 0), .bool r.isSome]) ∧ Helds (fun j => w.heap.size ≤ j) w' v ((r.map Prod.fst).getD []) ∧ New w w'
theorem puts_none {r : Option (List HeldR × Int)} (hr : r = none) {w w1 : World} (n : New w w1) : PutsRead r w (.returned (.tuple #[.slice (some ⟨w1.heap.size, 0, none⟩) 0 0, .int .i64 0, .bool false])) (w1.alloc (.cells #[] 47)) := by
  subst hr
  exact ⟨_, rfl, OwnRecs.recs ((OwnRecs.empty 47 3 w1).mono (fun _ _ hj => Nat.le_trans n.size hj)), n.alloc _⟩

set_option maxRecDepth 4000 in
set_option maxHeartbeats 2000000 in
theorem specStorePut {S T : Nat → Prop} (v u : Value) (os : List HeldR) (xs : List Int) (w : World) (h : Helds S w v os) (g : Ints T w u xs) :
    Calls Tryd.prog 49 #[v, u] w (PutsRead (putH xs os) w) := by
  have h0 := h
  have hok := specStoreValid v os w h
  have Hok := Lib.hid hok
  have hbk := fun (W : World) (n : New w W) => specBlock u xs W (g.new n)
  have Hbk := Lib.hid hbk
  have g0 := g
  obtain ⟨-, a, c, rfl, h1, h2, -⟩ := h
  obtain ⟨au, cu, rfl, g1, ⟨g2, -⟩, -, -⟩ := g
  unfold maxLen at h2 g2
  clear hok hbk
  rcases hs : storeOk os with _ | _
  · have hr : putH xs os = none := by rw [putH, if_neg (by rw [hs]; simp)]
    have Hr := Lib.hid hr
    rw [hs] at Hok
    clear hr hs
    go_enter Tryd.func49, Tryd.ntmps49
    go_wp2_with fail
    refine Hok.out.mono ?_
    rintro e w1 ⟨rfl, n1⟩
    go_wp2_with fail
    go_ret3
    exact puts_none Hr.out n1
  · rw [hs] at Hok
    rcases hx : blockOk xs with _ | _
    · have hr : putH xs os = none := by rw [putH, if_neg (by rw [hx]; simp)]
      have Hr := Lib.hid hr
      rw [hx] at Hbk
      clear hr hs hx
      go_enter Tryd.func49, Tryd.ntmps49
      go_wp2_with fail
      refine Hok.out.mono ?_
      rintro e w1 ⟨rfl, n1⟩
      go_wp2_with fail
      refine (Hbk.out _ n1).mono ?_
      rintro e w2 ⟨rfl, rfl⟩
      go_wp2_with fail
      go_ret3
      exact puts_none Hr.out n1
    · rw [hx] at Hbk
      obtain ⟨s1, s2, s3⟩ := storeOk_all hs
      have hcopy := fun (W : World) (n : New w W) => specCopy (.slice a os.length c) os W (Recs.new h0 n) s1 (fun o ho => (blockOk_len (s2 o ho).2.2.2.2).2)
      have Hcopy := Lib.hid hcopy
      have hlike := fun (W : World) (n : New w W) => specLike (.slice a os.length c) (.slice au xs.length cu) os xs W (Recs.new h0 n) (g0.new n)
      have Hlike := Lib.hid hlike
      have hfree := fun (W : World) (n : New w W) => specFree (.slice a os.length c) os W (Recs.new h0 n) hs
      have Hfree := Lib.hid hfree
      have hfr := freeH_is hs
      rcases likeH_cases xs os with ⟨e, hn⟩ | ⟨i, o, e, ho, hb⟩
      · rw [e, placeOf] at Hlike
        have hwith := fun (W : World) (n : New w W) => specWith (.slice a os.length c) (.slice au xs.length cu) os xs W (Recs.new h0 n) (g0.new n) hs (blockOk_len hx).2
        have Hwith := Lib.hid hwith
        have hout : (putH xs os = some (insH ⟨freeH os, xs, 1⟩ os, freeH os) ∧ storeOk (insH ⟨freeH os, xs, 1⟩ os) = true) ∨ (putH xs os = none ∧ storeOk (insH ⟨freeH os, xs, 1⟩ os) = false) := by
          by_cases hl : os.length < 16
          · exact .inl ⟨put_free hs hx hn hl, ins_ok hs hx hn hl⟩
          · exact .inr ⟨put_full hn hl, ins_not _ hl⟩
        clear hcopy hlike hfree hwith hfr hs hx e hn s1 s2 s3
        generalize insH ⟨freeH os, xs, 1⟩ os = hs' at *
        generalize freeH os = fk at *
        generalize putH xs os = r at *
        rcases hout with ⟨rfl, hy⟩ | ⟨rfl, hy⟩
        all_goals
          have Hy := Lib.hid hy
          clear hy
          go_enter Tryd.func49, Tryd.ntmps49
          go_wp2_with fail
          refine Hok.out.mono ?_
          rintro e w1 ⟨rfl, n1⟩
          go_wp2_with fail
          refine (Hbk.out _ n1).mono ?_
          rintro e w2 ⟨rfl, rfl⟩
          go_wp2_with fail
          refine (Hcopy.out _ n1).mono ?_
          rintro e w2 ⟨v2, rfl, o2, n2⟩
          clear o2
          go_wp2_with fail
          refine (Hlike.out _ (n1.trans n2)).mono ?_
          rintro e w3 ⟨rfl, n3⟩
          go_wp2_with fail
          refine (Hfree.out _ ((n1.trans n2).trans n3)).mono ?_
          rintro e w4 ⟨rfl, rfl⟩
          have nn := (n1.trans n2).trans n3
          clear n1 n2 n3
          go_wp2_with fail
          refine (Hwith.out _ nn).mono ?_
          rintro e w5 ⟨v5, rfl, o5, n5⟩
          have hv := specStoreValid v5 hs' w5 o5
          rw [Hy.out] at hv
          have Hv := Lib.hid hv
          clear hv
          go_wp2_with fail
          refine Hv.out.mono ?_
          rintro e w6 ⟨rfl, n6⟩
          have o6 := (Recs.new o5 n6).mono (T := fun j => w.heap.size ≤ j) (fun j _ hj => by have := nn.size; omega)
          have nn6 := (nn.trans n5).trans n6
          clear o5 n5 n6 nn
          obtain ⟨-, a6, c6, rfl, -, -, -⟩ := id o6
          go_wp2_with fail
          go_ret3
          first
            | exact ⟨_, rfl, o6, nn6⟩
            | exact puts_none rfl nn6
      · rw [e, placeOf] at Hlike
        have hil := (List.getElem?_eq_some_iff.1 ho).1
        obtain ⟨b1, b2, b3, b4, b5⟩ := s2 o (List.mem_of_getElem? ho)
        have hput := put_keep hs hx ho hb
        rw [keepH_at hs ho rfl] at hput
        have hout : (putH xs os = some (os.set i { o with uses := o.uses + 1 }, o.id) ∧ storeOk (os.set i { o with uses := o.uses + 1 }) = true) ∨ (putH xs os = none ∧ storeOk (os.set i { o with uses := o.uses + 1 }) = false) := by
          by_cases hu : o.uses = 999
          · rw [if_pos hu] at hput
            exact .inr ⟨hput, set_not ho (by omega)⟩
          · rw [if_neg hu] at hput
            exact .inl ⟨hput, set_ok hs ho (by omega) (by omega)⟩
        have hset := held_set2 (y := o.uses + 1) os ho
        have hfl := heldFlds_get ho
        have hsl : (os.set i { o with uses := o.uses + 1 }).length = os.length := by simp
        clear hcopy hlike hfree hfr hs hx e s1 s2 s3 hput
        generalize os.set i { o with uses := o.uses + 1 } = hs' at *
        generalize putH xs os = r at *
        have Hset := Lib.hid hset
        have Hfl := Lib.hid hfl
        have Hsl := Lib.hid hsl
        clear hset hfl hsl ho hb
        rcases hout with ⟨rfl, hy⟩ | ⟨rfl, hy⟩
        all_goals
          have Hy := Lib.hid hy
          clear hy
          go_enter Tryd.func49, Tryd.ntmps49
          go_wp2_with fail
          refine Hok.out.mono ?_
          rintro e w1 ⟨rfl, n1⟩
          go_wp2_with fail
          refine (Hbk.out _ n1).mono ?_
          rintro e w2 ⟨rfl, rfl⟩
          go_wp2_with fail
          refine (Hcopy.out _ n1).mono ?_
          rintro e w2 ⟨v2, rfl, o2, n2⟩
          go_wp2_with fail
          refine (Hlike.out _ (n1.trans n2)).mono ?_
          rintro e w3 ⟨rfl, n3⟩
          go_wp2_with fail
          refine (Hfree.out _ ((n1.trans n2).trans n3)).mono ?_
          rintro e w4 ⟨rfl, rfl⟩
          have o4 := OwnRecs.new o2 n3
          have z1 := n1.size
          have z2 := n2.size
          have z3 := n3.size
          have nn := (n1.trans n2).trans n3
          clear n1 n2 n3 o2
          obtain ⟨b3, c3, u3, rfl, hS, hb3, k0, k1, ow⟩ := OwnRecs.at o4 Hfl.out.2.2
          obtain rfl : u3 = .int .i64 o.uses := ow.1
          obtain ⟨b3', c3', u3', ev, -, -, k2, -, ow2⟩ := OwnRecs.at o4 Hfl.out.1
          simp only [Value.slice.injEq, Option.some.injEq, Addr.mk.injEq] at ev
          obtain ⟨⟨rfl, -, -⟩, -, rfl⟩ := ev
          obtain rfl : u3' = .int .i64 o.id := ow2.1
          have o5 := OwnRecs.putInt (y := o.uses + 1) o4 Hfl.out.2.2 (I64.mk (by omega) (by omega))
          rw [Hset.out] at o5
          have cs := chg_set1 w3 b3 (i * 3 + 2) (.int .i64 (o.uses + 1))
          obtain ⟨_, _, ev, x1, x2, -⟩ := OwnRecs.shape o4
          simp only [Value.slice.injEq] at ev
          obtain ⟨-, -, rfl⟩ := ev
          unfold maxLen at x2
          have n5 : New w (w3.setCell ⟨b3, i * 3 + 2, none⟩ (.int .i64 (o.uses + 1))) := nn.trans_chg cs (fun j hj e => by have h' : w1.heap.size ≤ b3 := hS; omega)
          have k3 : (w3.setCell ⟨b3, i * 3 + 2, none⟩ (.int .i64 (o.uses + 1))).cell? ⟨b3, i * 3, none⟩ = some (.int .i64 o.id) := by
            rw [World.cell?_setCell_other _ _ _ _ (fun e => by simp at e)]; exact k2
          have o6 : Helds (fun j => w.heap.size ≤ j) (w3.setCell ⟨b3, i * 3 + 2, none⟩ (.int .i64 (o.uses + 1))) (.slice (some ⟨b3, 0, none⟩) os.length c3) hs' := by
            unfold Helds
            rw [Hsl.out]
            exact (OwnRecs.recs o5).mono (fun j _ hj => by omega)
          clear o4 o5 cs ow ow2 k2 nn
          go_wp2_with fail
          have hv := specStoreValid _ hs' _ o6
          rw [Hy.out] at hv
          refine hv.mono ?_
          rintro e w6 ⟨rfl, n6⟩
          have o7 := Recs.new o6 n6
          have nn6 := n5.trans n6
          clear o6 n5 n6 hv k0 k1 k3
          go_wp2_with fail
          go_ret3
          first
            | exact ⟨_, rfl, o7, nn6⟩
            | exact puts_none rfl nn6

end Go.Proofs.YtipligidnoajfaaDoor
