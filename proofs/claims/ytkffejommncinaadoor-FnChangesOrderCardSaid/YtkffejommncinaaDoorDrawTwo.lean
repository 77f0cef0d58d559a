/- The draw of two trees: l92Two, DrawChangesOf. -/
import Derived.Test.YtkffejommncinaaDoorDrawTrees
import Derived.Test.YtkffejommncinaaDoorSpecDrop
import Derived.Test.YtkffejommncinaaDoorTreeIn
import Derived.Test.YtkffejommncinaaDoorFieldSwap
import Derived.Deep.CutRange
import Derived.Deep.CutBlock
namespace Go.Proofs.YtkffejommncinaaDoor
open Go.RowKit

theorem flds_set : ∀ {bs : List ItemR} {i : Nat} {o : ItemR} {ys : List Int}, bs[i]? = some o → (itemFlds bs).set (i * 3 + 2) (.nums ys) = itemFlds (bs.set i { o with ids := ys })
  | [], _, _, _, h => by simp at h
  | x :: r, 0, o, ys, h => by
    cases h
    rfl
  | x :: r, i + 1, o, ys, h => by
    have ih := flds_set (bs := r) (i := i) (ys := ys) h
    show (x.flds ++ itemFlds r).set ((i + 1) * 3 + 2) (.nums ys) = x.flds ++ itemFlds (r.set i { o with ids := ys })
    rw [← ih, List.set_append_right _ _ (by simp [ItemR.flds]; omega)]
    congr 2
    simp [ItemR.flds]; omega
/-- one item of a list of one's own gets one new number -/
theorem own_one {B : Nat} {W : World} {b c i : Nat} {t : Int} {bs : List ItemR} {o : ItemR} (h : OwnItems (fun j => B ≤ j) W (.slice (some ⟨b, 0, none⟩) bs.length c) bs) (ho : bs[i]? = some o) (hb : B ≤ b) (hbl : b < W.heap.size) (ht0 : 0 ≤ t) (ht1 : t < 100) :
    OwnItems (fun j => B ≤ j) ((W.setCell ⟨b, i * 3 + 2, none⟩ (.slice (some ⟨W.heap.size, 0, none⟩) 1 1)).alloc (.cells #[.int .i64 (1 + t)] 3)) (.slice (some ⟨b, 0, none⟩) (bs.set i { o with ids := [1 + t] }).length c) (bs.set i { o with ids := [1 + t] }) := by
  have hi := (List.getElem?_eq_some_iff.1 ho).1
  have n : New W (W.alloc (.cells #[.int .i64 (1 + t)] 3)) := (New.refl W).alloc _
  have h1 := OwnRecs.new (OwnRecs.old h) n
  have hu : OwnInts 3 (fun j => W.heap.size ≤ j) (W.alloc (.cells #[.int .i64 (1 + t)] 3)) (.slice (some ⟨W.heap.size, 0, none⟩) 1 1) [1 + t] := by
    refine ⟨⟨⟨by simp, .inr ⟨W.heap.size, 1, _, rfl, Nat.zero_le _, heap_alloc_new _ _, Nat.le_refl _, by unfold maxLen; omega, by simp, by simp⟩⟩, fun k hk => ?_⟩, fun x hx => by simp at hx; subst hx; exact I64.mk (by omega) (by omega)⟩
    simp [Value.ownBlock] at hk; omega
  have h2 := OwnRecs.swap (i := i * 3 + 2) (f' := .nums [1 + t]) h1 (by rw [show (itemFlds bs).length = bs.length * 3 from flds_len ItemR.flds 3 (fun _ => rfl) bs]; omega) (OwnI.of hu) (fun j hj e => by omega) ⟨hb, hbl⟩
  rw [flds_set ho] at h2
  rw [World.setCell_alloc_past _ _ _ _ hbl] at h2
  have e : (bs.set i { o with ids := [1 + t] }).length = bs.length := by simp
  unfold OwnItems
  rw [e]
  exact OwnRecs.mono h2 (fun j _ hj => by
    rcases hj with hj | hj
    · exact hj.1
    · omega)

def TwoAt (g m : Nat) (w : World) (e : Ending) (w' : World) : Prop :=
  ∃ v os u ps, e = .returned (.tuple #[v, u]) ∧ (os.length ≤ 9 ∧ ∀ o ∈ os, smallI o) ∧ (ps.length ≤ 9 ∧ ∀ o ∈ ps, smallI o) ∧ OwnItems (fun j => w.heap.size ≤ j) w' v os ∧ OwnItems (fun j => w.heap.size ≤ j) w' u ps ∧ Rd g w' (m + 120) ∧ Chg (fun k => k = g) w w'

set_option maxRecDepth 4000 in
set_option maxHeartbeats 4000000 in
theorem l92Two (g m : Nat) (w : World) (h : Rd g w m) (hm : m ≤ 500000) :
    Calls Tryd.prog 62 #[.pointer (some ⟨g, 0, none⟩)] w (TwoAt g m w) := by
  have hg := h.lt
  have ht := l91Tree g m w h (by omega)
  have Ht := Lib.hid ht
  clear ht
  go_enter Tryd.func62, Tryd.ntmps62
  go_wp2_with fail
  refine Ht.out.mono ?_
  rintro e w1 ⟨v1, os, rfl, ⟨hl, hsm⟩, o1, hr1, c1⟩
  obtain ⟨av, cv, rfl, -⟩ := o1.shape
  have z1 := c1.size
  have Hsm := Lib.hid hsm
  clear hsm Ht h
  go_wp2_with fail
  refine (pick g _ 3 w1 hr1 (by omega) (by omega) (by omega)).mono ?_
  rintro e w2 ⟨t, rfl, ht0, ht1, hr2, c2⟩
  replace o1 := OwnRecs.chg o1 c2 (fun j _ hj e => by omega)
  have z2 := c2.size
  have c12 := c1.trans c2
  clear c1 c2 hr1
  by_cases ht : t = 0
  · subst ht
    go_wp2_with fail
    refine (l91Tree g _ w2 hr2 (by omega)).mono ?_
    rintro e w3 ⟨v3, ps, rfl, ⟨hl3, hsm3⟩, o3, hr3, c3⟩
    obtain ⟨a3, cv3, rfl, -⟩ := o3.shape
    replace o1 := OwnRecs.chg o1 c3 (fun j _ hj e => by omega)
    go_wp2_with fail
    go_ret2
    exact ⟨_, os, _, ps, rfl, ⟨hl, Hsm.out⟩, ⟨hl3, hsm3⟩, o1, OwnRecs.mono o3 (fun j _ hj => by omega), hr3.mono (by omega), c12.trans c3⟩
  · have ht' : (t == 0) = false := by simp [ht]
    go_wp2_with fail
    refine (specAll _ os w2 o1.recs (by omega) (small_all Hsm.out)).mono ?_
    rintro e w3 ⟨v3, rfl, o3, n3⟩
    obtain ⟨a3, cv3, rfl, -⟩ := o3.shape
    have hr3 := hr2.new n3
    have c13 := c12.trans (n3.chg _)
    have z3 := n3.size
    have o13 := Lib.hid (OwnRecs.old (OwnRecs.old (OwnRecs.new (OwnRecs.old o1) n3)))
    have hg2 : g < w2.heap.size := by omega
    have O3 := Lib.hid (And.intro o3 (And.intro hr3 c13))
    clear o1 o3 hr3 c13 hr2 c12 n3 ht ht0 ht1
    generalize hB : w2.heap.size = B at *
    clear hB
    go_wp2_with fail
    go_loopg [5, 6] os.length (fun gk s5 s6 wr => ∃ (bs : List ItemR) (i : Int), gk ≤ bs.length ∧ gk ≤ os.length ∧ i = (gk : Int) - 1 ∧ s6 = .int .i64 i ∧ bs.length ≤ 9 ∧ B ≤ wr.heap.size ∧ Hid (∀ o ∈ bs, smallI o) ∧ Hid (OwnItems (fun j => B ≤ j) wr s5 bs) ∧
      Hid (OwnItems (fun j => w.heap.size ≤ j ∧ j < B) wr (.slice av os.length cv) os) ∧ Hid (Rd g wr (m + 51 + 2 * (os.length - gk))) ∧ Hid (Chg (fun k => k = g) w wr))
    case atStart =>
      obtain ⟨o3, hr3, c13⟩ := O3.out
      exact ⟨os, os.length - 1, by omega, by omega, rfl, rfl, hl, by omega, Hsm, Lib.hid o3, Lib.hid (OwnRecs.mono o13.out (fun j _ hj => hj.1.1)), Lib.hid (hr3.mono (by omega)), Lib.hid c13⟩
    case round =>
      obtain ⟨bs, i, hgb, hgo, hi, rfl, hbl, hB, Hs, Ob, Oa, Hr, Hc⟩ := hrel
      obtain ⟨ab, cb, rfl, -⟩ := OwnRecs.shape Ob.out
      clear O3 o13
      rcases gk with _ | n
      · have hi0 : i = -1 := by omega
        subst hi0
        clear hi
        go_wp2_with fail
        go_ret2
        exact ⟨_, os, _, bs, rfl, ⟨hl, Hsm.out⟩, ⟨hbl, Hs.out⟩, OwnRecs.mono Oa.out (fun j _ hj => hj.1), OwnRecs.mono Ob.out (fun j _ hj => by omega), Hr.out.mono (by omega), Hc.out⟩
      have hin : i = (n : Int) := by omega
      subst hin
      have hnb : n < bs.length := by omega
      clear hi
      obtain ⟨o, ho⟩ := get_of hnb
      go_wp2_with fail
      refine (pick g _ 5 wr Hr.out (by omega) (by omega) (by omega)).mono ?_
      rintro e w4 ⟨p, rfl, hp0, hp1, hr4, c4⟩
      have z4 := c4.size
      have Ob4 := Lib.hid (OwnRecs.chg Ob.out c4 (fun j _ hj e => by omega))
      have Oa4 := Lib.hid (OwnRecs.chg Oa.out c4 (fun j _ hj e => by omega))
      have Hc4 := Lib.hid (Hc.out.trans c4)
      have Hr4 := Lib.hid hr4
      clear Ob Oa Hc Hr hr4 c4
      obtain ⟨b0, off0, c0, u0, e0, hb0, d0, d1, d2, lp, r2⟩ := Items.at (OwnRecs.recs Ob4.out) ho
      simp only [Value.slice.injEq] at e0
      obtain ⟨rfl, -, rfl⟩ := e0
      obtain ⟨b1, c1, u1, e1, hS, -, -, fz, -⟩ := OwnRecs.at Ob4.out (flds_get ItemR.flds 3 (fun _ => rfl) bs (j := 2) ho (by omega))
      simp only [Value.slice.injEq, Option.some.injEq, Addr.mk.injEq] at e1
      obtain ⟨⟨rfl, rfl, -⟩, -, rfl⟩ := e1
      rw [Nat.zero_add] at d0 d1 d2
      have Lp := Lib.hid lp
      have Ho := Lib.hid ho
      clear lp r2 ho
      unfold txt at d0
      by_cases hp : p = 0
      · subst hp
        rcases hdir : o.dir with _ | _
        · rw [hdir] at d1
          go_wp2_with fail
          refine (pick g _ 6 w4 Hr4.out (by omega) (by omega) (by omega)).mono ?_
          rintro e w5 ⟨q, rfl, hq0, hq1, hr5, c5⟩
          have z5 := c5.size
          have Ob5 := Lib.hid (OwnRecs.chg Ob4.out c5 (fun j _ hj e => by omega))
          have Oa5 := Lib.hid (OwnRecs.chg Oa4.out c5 (fun j _ hj e => by omega))
          have Hc5 := Lib.hid (Hc4.out.trans c5)
          have Hr5 := Lib.hid hr5
          have hlt5 : b0 < w5.heap.size := by omega
          have m5 : New w5 (w5.alloc (.cells #[.int .i64 (1 + q)] 3)) := (New.refl w5).alloc _
          obtain ⟨b2, c2, u2, e2, -, -, f5, fz5, -⟩ := OwnRecs.at (OwnRecs.new Ob5.out m5) (flds_get ItemR.flds 3 (fun _ => rfl) bs (j := 2) Ho.out (by omega))
          simp only [Value.slice.injEq, Option.some.injEq, Addr.mk.injEq] at e2
          obtain ⟨⟨rfl, -, -⟩, -, rfl⟩ := e2
          clear Ob4 Oa4 Hc4 Hr4 hr5 c5 d0 d1 d2 fz m5
          go_wp2_with fail
          have o6 := own_one Ob5.out Ho.out hS hlt5 hq0 (by omega)
          have c6 := (chg_set1 w5 b0 (n * 3 + 2) (.slice (some ⟨w5.heap.size, 0, none⟩) 1 1)).alloc (.cells #[.int .i64 (1 + q)] 3)
          have hs6 : ∀ x ∈ bs.set n { o with ids := [1 + q] }, smallI x := fun x hx => by
            rcases List.mem_or_eq_of_mem_set hx with hx | rfl
            · exact Hs.out x hx
            · exact ⟨(Hs.out o (List.mem_of_getElem? Ho.out)).1, by simp⟩
          rw [List.length_set] at o6
          have O6 := Lib.hid o6
          have C6 := Lib.hid c6
          have Hs6 := Lib.hid hs6
          clear o6 c6 hs6 f5 fz5
          go_roundg n
          case measure => omega
          case rel => exact ⟨bs.set n { o with ids := [1 + q] }, (n : Int) - 1, by simp; omega, by omega, by omega, by go_num, by simp; omega, by have := C6.out.size; omega, Hs6, Lib.hid O6.out, Lib.hid (OwnRecs.chg Oa5.out C6.out (fun j _ hj e => by omega)), Lib.hid ((Hr5.out.chg C6.out (fun k e => by omega)).mono (by omega)), Lib.hid (Hc5.out.step C6.out (fun k hk e => by omega))⟩
        · rw [hdir] at d1
          go_wp2_with fail
          go_roundg n
          case measure => omega
          case rel => exact ⟨bs, (n : Int) - 1, by omega, by omega, by omega, by go_num, hbl, by omega, Hs, Ob4, Oa4, Lib.hid (Hr4.out.mono (by omega)), Hc4⟩
      · by_cases hp' : p = 1
        · subst hp'
          have hdr := specTreeDrop _ bs o.path w4 (OwnRecs.recs Ob4.out) (small_all Hs.out)
          unfold TreesPost txt at hdr
          have Hdr := Lib.hid hdr
          clear hdr
          go_wp2_with fail
          refine Hdr.out.mono ?_
          rintro e w5 ⟨v5, rfl, o5, n5⟩
          obtain ⟨a5, d5, rfl, -⟩ := o5.shape
          have z5 := n5.size
          have Ob5 := Lib.hid (OwnRecs.new Ob4.out n5)
          have Oa5 := Lib.hid (OwnRecs.new Oa4.out n5)
          have Hc5 := Lib.hid (Hc4.out.trans (n5.chg _))
          have Hr5 := Lib.hid (Hr4.out.new n5)
          have O5 := Lib.hid (OwnRecs.mono o5 (T := fun j => B ≤ j) (fun j _ hj => by omega))
          clear Ob4 Oa4 Hc4 Hr4 o5 n5 Hdr d0 d1 d2 fz
          rcases hr : dropR bs o.path with _ | r
          · rw [hr] at O5
            simp only [Option.isSome_none, Option.getD_none] at O5 ⊢
            clear hr
            go_wp2_with fail
            go_roundg n
            case measure => omega
            case rel => exact ⟨bs, (n : Int) - 1, by omega, by omega, by omega, by go_num, hbl, by omega, Hs, Ob5, Oa5, Lib.hid (Hr5.out.mono (by omega)), Hc5⟩
          · rw [hr] at O5
            simp only [Option.isSome_some, Option.getD_some] at O5 ⊢
            obtain ⟨-, hre, -, -, hlr⟩ := dropR_some hr
            have hsr : ∀ x ∈ r, smallI x := fun x hx => by rw [hre] at hx; exact Hs.out x (mem_drop.1 hx).1
            have Hsr := Lib.hid hsr
            clear hr hre hsr
            go_wp2_with fail
            go_roundg n
            case measure => omega
            case rel => exact ⟨r, (n : Int) - 1, by omega, by omega, by omega, by go_num, by omega, by omega, Hsr, O5, Oa5, Lib.hid (Hr5.out.mono (by omega)), Hc5⟩
        · have hq0 : (p == 0) = false := by simp [hp]
          have hq1 : (p == 1) = false := by simp [hp']
          clear hp hp'
          go_wp2_with fail
          go_roundg n
          case measure => omega
          case rel => exact ⟨bs, (n : Int) - 1, by omega, by omega, by omega, by go_num, hbl, by omega, Hs, Ob4, Oa4, Lib.hid (Hr4.out.mono (by omega)), Hc4⟩

def TwoDrawn (w : World) (e : Ending) (w' : World) : Prop :=
  ∃ v os u ps, e = .returned (.tuple #[v, u]) ∧ (os.length ≤ 9 ∧ ∀ o ∈ os, smallI o) ∧ (ps.length ≤ 9 ∧ ∀ o ∈ ps, smallI o) ∧ OwnItems (fun j => w.heap.size ≤ j) w' v os ∧ OwnItems (fun j => w.heap.size ≤ j) w' u ps ∧ New w w'

set_option maxRecDepth 4000 in
set_option maxHeartbeats 400000 in
theorem drawChangesOf {S : Nat → Prop} (v : Value) (bs : List Int) (w : World) (h : Nums .u8 S w v bs) :
    Calls Tryd.prog 33 #[v] w (TwoDrawn w) := by
  have hop := l6Open v bs w h
  have Hop := Lib.hid hop
  clear hop h
  go_enter Tryd.func33, Tryd.ntmps33
  go_wp2_with fail
  refine Hop.out.mono ?_
  rintro e w1 ⟨g, rfl, hg, hr, n1⟩
  have z1 := n1.size
  go_wp2_with fail
  refine (l92Two g 0 w1 hr (by omega)).mono ?_
  rintro e w2 ⟨v2, os, u2, ps, rfl, hs, gs, o2, p2, -, c2⟩
  obtain ⟨a2, d2, rfl, -⟩ := o2.shape
  obtain ⟨a3, d3, rfl, -⟩ := p2.shape
  go_wp2_with fail
  go_ret2
  exact ⟨_, os, _, ps, rfl, hs, gs, OwnRecs.mono o2 (fun j _ hj => by omega), OwnRecs.mono p2 (fun j _ hj => by omega), n1.trans_chg c2 (fun k hk e => by omega)⟩
end Go.Proofs.YtkffejommncinaaDoor
