/- The walk of FnStorePutOthers. -/
import Derived.Test.YtiakljmdongplaaStoreFil
namespace Go.Proofs.Ytiakljmdongplaa
open Go.RowKit

set_option maxRecDepth 4000 in
set_option maxHeartbeats 4000000 in
theorem walkFnStorePutOthers (v : Value) (bs : List Int) (w : World) (h : Nums .u8 Any w v bs) :
    Calls Try.prog 12 #[v] w fun e w' => e = .returned (.bool true) ∧ New w w' := by
  have h0 := h
  obtain ⟨a, c, rfl, h1, ⟨h2, -⟩, -, -⟩ := h
  unfold maxLen at h2
  by_cases hl : 1048576 < bs.length
  · have hl' : (1048576 : Int) < bs.length := by omega
    go_enter Try.func12, Try.ntmps12
    go_wp2_with fail
    go_ret
    exact ⟨rfl, New.refl _⟩
  · have hl' : ¬ ((1048576 : Int) < bs.length) := by omega
    go_enter Try.func12, Try.ntmps12
    go_wp2_with fail
    refine (drawStorePut _ bs w h0).mono ?_
    rintro e w1 ⟨v1, os, u1, xs, rfl, hos, o1, x1, nn⟩
    obtain ⟨-, a1, c1, rfl, y1, y2, -⟩ := id o1
    obtain ⟨a2, c2, rfl, y3, ⟨y4, -⟩, -, -⟩ := id x1
    unfold maxLen at y2 y4
    rcases hr : putH xs os with _ | ⟨os2, k⟩
    · have Hr := Lib.hid hr
      clear hr
      go_wp2_with fail
      refine (implStorePut (.slice a1 os.length c1) (.slice a2 xs.length c2) os xs w1 o1 x1 |>.mono fun e w2 h => putsNone Hr.out h).mono ?_
      rintro e w2 ⟨v2, rfl, o2, n2⟩
      replace o1 := Recs.new o1 n2
      replace x1 := x1.new n2
      replace nn := nn.trans n2
      clear n2
      go_wp2_with fail
      refine (specStorePut (.slice a1 os.length c1) (.slice a2 xs.length c2) os xs w2 o1 x1 |>.mono fun e w2 h => readNone Hr.out h).mono ?_
      rintro e w3 ⟨v3, rfl, o3, n3⟩
      replace o1 := Recs.new o1 n3
      replace x1 := x1.new n3
      replace o2 := OwnRecs.new o2 n3
      replace nn := nn.trans n3
      clear n3
      go_wp2_with fail
      refine (sameStore _ _ [] [] w3 (OwnRecs.recs o2) o3).mono ?_
      rintro e w4 ⟨rfl, n4⟩
      replace o1 := Recs.new o1 n4
      replace x1 := x1.new n4
      replace o2 := OwnRecs.new o2 n4
      replace o3 := Recs.new o3 n4
      replace nn := nn.trans n4
      clear n4
      go_wp2_with fail
      refine (sameStore _ _ [] [] w4 (OwnRecs.recs o2) o3).mono ?_
      rintro e w5 ⟨rfl, n5⟩
      replace o1 := Recs.new o1 n5
      replace x1 := x1.new n5
      replace o2 := OwnRecs.new o2 n5
      replace o3 := Recs.new o3 n5
      replace nn := nn.trans n5
      clear n5
      go_wp2_with fail
      go_ret
      exact ⟨rfl, nn⟩
    · have Hr := Lib.hid hr
      clear hr
      go_wp2_with fail
      refine (implStorePut (.slice a1 os.length c1) (.slice a2 xs.length c2) os xs w1 o1 x1 |>.mono fun e w2 h => putsSome Hr.out h).mono ?_
      rintro e w2 ⟨v2, rfl, o2, n2⟩
      replace o1 := Recs.new o1 n2
      replace x1 := x1.new n2
      replace nn := nn.trans n2
      clear n2
      obtain ⟨a3, c3, rfl, q1, q2, -⟩ := OwnRecs.shape o2
      unfold maxLen at q2
      go_wp2_with fail
      refine (specStorePut (.slice a1 os.length c1) (.slice a2 xs.length c2) os xs w2 o1 x1 |>.mono fun e w2 h => readSome Hr.out h).mono ?_
      rintro e w3 ⟨v3, rfl, o3, n3⟩
      replace o1 := Recs.new o1 n3
      replace x1 := x1.new n3
      replace o2 := OwnRecs.new o2 n3
      replace nn := nn.trans n3
      clear n3
      have hkk : (k != k) = false := by simp
      go_wp2_with fail
      refine (sameStore _ _ os2 os2 w3 (OwnRecs.recs o2) o3).mono ?_
      rintro e w4 ⟨he, n4⟩
      replace o1 := Recs.new o1 n4
      replace x1 := x1.new n4
      replace o2 := OwnRecs.new o2 n4
      replace nn := nn.trans n4
      clear n4
      rw [decide_eq_true rfl] at he
      subst he
      obtain ⟨hk0, hk1⟩ := putH_id Hr.out
      have ik : I64 k := I64.mk (by omega) (by omega)
      have hwl := nn.size
      have hos2 := (storeOk_all (putH_cases Hr.out).2.2.1).1
      have lf := law_putOthers Hr.out
      have LF := Lib.hid lf
      clear lf
      have o1s := (Recs.old o1).mono (T := fun j => j < w4.heap.size) (fun j _ hj => hj.2)
      have o2s := (Recs.old (OwnRecs.recs o2)).mono (T := fun j => j < w4.heap.size) (fun j _ hj => hj.2)
      clear o1 o2 x1
      have m1 : New w4 (w4.alloc (.cells #[] 49)) := (New.refl _).alloc _
      have z1 : (w4.alloc (.cells #[] 49)).heap.size = w4.heap.size + 1 := by simp
      have re1 := Row.empty 49 3 w4
      have Z1 := Lib.hid z1
      clear z1
      go_wp2_with fail
      generalize w4.alloc (.cells #[] 49) = wa at *
      have m2 : New wa (wa.alloc (.cells #[] 49)) := (New.refl _).alloc _
      have z2 : (wa.alloc (.cells #[] 49)).heap.size = wa.heap.size + 1 := by simp
      have re2 := Row.empty 49 3 wa
      have z1 := Z1.out
      rw [z1] at z2 re2
      replace re1 := re1.new m2
      replace o1s := Recs.new (Recs.new o1s m1) m2
      replace o2s := Recs.new (Recs.new o2s m1) m2
      replace nn := (nn.trans m1).trans m2
      clear m1 m2
      have hwz := nn.size
      generalize wa.alloc (.cells #[] 49) = wb at *
      generalize hlo : w4.heap.size = lo at *
      clear hlo
      go_loopg [11, 13] os.length (fun gk va ia wr => ∃ i : Nat, gk = os.length - i ∧ i ≤ os.length ∧ ia = .int .i64 i ∧ FilSt lo lo wb ((os.take i).filter (fun o => o.id != k)) wr va)
      case atStart => exact ⟨0, rfl, Nat.zero_le _, rfl, FilSt.init (re1.mono (fun j _ hj => hj))⟩
      case round =>
        obtain ⟨i, hgk, hi, rfl, us, q1, q2, q3⟩ := hrel
        have Hgk := Lib.hid hgk
        clear hgk
        by_cases hlt : i < os.length
        · obtain ⟨o, ho⟩ := get_of hlt
          obtain ⟨b, off, c', t, e1, hb, c0, c1, c2, i0, i2, r2⟩ := Helds.at (Recs.chg o1s q3 (fun j _ hj e => by omega)) ho
          simp only [Value.slice.injEq] at e1
          obtain ⟨rfl, -, rfl⟩ := e1
          have hft := filter_take (fun o : HeldR => o.id != k) ho
          have Hft := Lib.hid hft
          clear ho hft
          by_cases hk : o.id = k
          · have hk' : (o.id != k) = false := by simp [hk]
            have Hk := Lib.hid hk'
            clear hk hk'
            have hk' := Hk.out
            go_wp2_with fail
            go_roundg (os.length - (i + 1))
            case measure => rw [Hgk.out]; omega
            case rel => exact ⟨i + 1, rfl, by omega, by go_num, us, by rw [Hft.out, Hk.out]; simpa using q1, by rw [Hft.out, Hk.out]; simpa using q2, q3⟩
          · have hk' : (o.id != k) = true := by simp [hk]
            have Hk := Lib.hid hk'
            clear hk hk'
            have hk' := Hk.out
            have hfl : ((os.take i).filter (fun o => o.id != k)).length ≤ i := Nat.le_trans (List.length_filter_le _ _) (by simp; omega)
            have rr : Reads (fun j => j < lo) _ [.int .i64 o.id, t, .int .i64 o.uses] o.flds := reads_held i0 (r2.mono (fun j _ hj => hj)) i2
            generalize hfo : (os.take i).filter (fun o => o.id != k) = fo at *
            have Hfo := Lib.hid hfo
            clear hfo r2
            obtain ⟨av, cv, rfl, s5, s6, -, -⟩ := q1.shape
            unfold maxLen at s6
            go_wp2_with first
              | (at_builtin
                 refine wpRow_appendRec slHeld _ _ rfl rfl (.slice av fo.length cv) fo.length us [.int .i64 o.id, t, .int .i64 o.uses] 49 rfl q1 rfl (Reads.one rr) rfl (by omega) (by decide) ?_
                 intro v8 w8 p8 d8)
              | fail
            have st := FilSt.more (by omega) (by omega) q1 q2 q3 rr p8 d8
            clear q1 q2 q3 rr p8 d8
            go_roundg (os.length - (i + 1))
            case measure => rw [Hgk.out]; omega
            case rel => exact ⟨i + 1, rfl, by omega, by go_num, by rw [Hft.out, Hk.out]; exact st⟩
        · have e : os.take i = os := List.take_of_length_le (by omega)
          rw [e] at q1 q2
          have hst := FilSt.mk' q1 q2 q3
          clear q1 q2 q3
          have ha := (Recs.old hst.helds).mono (T := fun j => j ≠ lo + 1) (fun j _ hj => by omega)
          have ca := hst.chg
          replace nn := nn.trans_chg ca (fun j hj e => by omega)
          have za := ca.size
          replace o2s := Recs.chg o2s ca (fun j _ hj e => by omega)
          replace re2 := re2.chg ca (fun j _ hj e => by omega)
          clear hst ca re1 o1s
          obtain ⟨-, aa, ca, rfl, s7, s8, -⟩ := id ha
          go_wp2_with fail
          rename World => wx
          go_loopg [12, 14] os2.length (fun gk va ia wr => ∃ i : Nat, gk = os2.length - i ∧ i ≤ os2.length ∧ ia = .int .i64 i ∧ FilSt lo (lo + 1) wx ((os2.take i).filter (fun o => o.id != k)) wr va)
          case atStart => exact ⟨0, rfl, Nat.zero_le _, rfl, FilSt.init (re2.mono (fun j _ hj => hj))⟩
          case round =>
            obtain ⟨i, hgk, hi, rfl, us, q1, q2, q3⟩ := hrel
            have Hgk := Lib.hid hgk
            clear hgk
            by_cases hlt : i < os2.length
            · obtain ⟨o, ho⟩ := get_of hlt
              obtain ⟨b, off, c', t, e1, hb, c0, c1, c2, i0, i2, r2⟩ := Helds.at (Recs.chg o2s q3 (fun j _ hj e => by omega)) ho
              simp only [Value.slice.injEq] at e1
              obtain ⟨rfl, -, rfl⟩ := e1
              have hft := filter_take (fun o : HeldR => o.id != k) ho
              have Hft := Lib.hid hft
              clear ho hft
              by_cases hk : o.id = k
              · have hk' : (o.id != k) = false := by simp [hk]
                have Hk := Lib.hid hk'
                clear hk hk'
                have hk' := Hk.out
                go_wp2_with fail
                go_roundg (os2.length - (i + 1))
                case measure => rw [Hgk.out]; omega
                case rel => exact ⟨i + 1, rfl, by omega, by go_num, us, by rw [Hft.out, Hk.out]; simpa using q1, by rw [Hft.out, Hk.out]; simpa using q2, q3⟩
              · have hk' : (o.id != k) = true := by simp [hk]
                have Hk := Lib.hid hk'
                clear hk hk'
                have hk' := Hk.out
                have hfl : ((os2.take i).filter (fun o => o.id != k)).length ≤ i := Nat.le_trans (List.length_filter_le _ _) (by simp; omega)
                have rr : Reads (fun j => j < lo) _ [.int .i64 o.id, t, .int .i64 o.uses] o.flds := reads_held i0 (r2.mono (fun j _ hj => hj)) i2
                generalize hfo : (os2.take i).filter (fun o => o.id != k) = fo at *
                have Hfo := Lib.hid hfo
                clear hfo r2
                obtain ⟨av, cv, rfl, s5, s6, -, -⟩ := q1.shape
                unfold maxLen at s6
                go_wp2_with first
                  | (at_builtin
                     refine wpRow_appendRec slHeld _ _ rfl rfl (.slice av fo.length cv) fo.length us [.int .i64 o.id, t, .int .i64 o.uses] 49 rfl q1 rfl (Reads.one rr) rfl (by omega) (by decide) ?_
                     intro v8 w8 p8 d8)
                  | fail
                have st := FilSt.more (by omega) (by omega) q1 q2 q3 rr p8 d8
                clear q1 q2 q3 rr p8 d8
                go_roundg (os2.length - (i + 1))
                case measure => rw [Hgk.out]; omega
                case rel => exact ⟨i + 1, rfl, by omega, by go_num, by rw [Hft.out, Hk.out]; exact st⟩
            · have e : os2.take i = os2 := List.take_of_length_le (by omega)
              rw [e] at q1 q2
              have hst := FilSt.mk' q1 q2 q3
              clear q1 q2 q3
              have hb2 := hst.helds
              have cb := hst.chg
              replace nn := nn.trans_chg cb (fun j hj e => by omega)
              replace ha := Recs.chg ha cb (fun j _ hj e => hj e)
              clear hst cb re2 o2s
              have lf := LF.out
              generalize os.filter (fun o => o.id != k) = fa at *
              generalize os2.filter (fun o => o.id != k) = fb at *
              subst lf
              go_wp2_with fail
              refine (sameStore _ _ fa fa _ ha hb2).mono ?_
              rw [decide_eq_true rfl]
              rintro e w20 ⟨rfl, n20⟩
              go_wp2_with fail
              go_ret
              exact ⟨rfl, nn.trans n20⟩
end Go.Proofs.Ytiakljmdongplaa
