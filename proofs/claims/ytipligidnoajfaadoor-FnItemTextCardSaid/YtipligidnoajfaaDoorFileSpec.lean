/- Files in the store: the reference's. -/
import Derived.Test.YtipligidnoajfaaDoorFile2
import Derived.Test.YtipligidnoajfaaDoorStorePutSpec2
import Derived.Test.YtipligidnoajfaaDoorStoreDropSpec
namespace Go.Proofs.YtipligidnoajfaaDoor
open Go.RowKit

/-- what stands in a valid list at an id -/
theorem getH_cases {os : List HeldR} (hs : storeOk os = true) (k : Int) : (atH k os = none ∧ getH k os = none) ∨ ∃ i o, atH k os = some i ∧ os[i]? = some o ∧ o.id = k ∧ getH k os = some o.bytes := by
  rcases atH_cases k os with ⟨e, hn⟩ | ⟨i, o, e, ho, hid⟩
  · exact .inl ⟨e, getH_none hn⟩
  · exact .inr ⟨i, o, e, ho, hid, getH_at hs ho hid⟩

set_option maxRecDepth 4000 in
set_option maxHeartbeats 1000000 in
theorem specIds {S T : Nat → Prop} (v u : Value) (os : List HeldR) (ids : List Int) (w : World) (h : Helds S w v os) (g : Ints T w u ids) (hs : storeOk os = true) :
    Calls Tryd.prog 18 #[v, u] w fun e w' => e = .returned (.bool (idsOk ids os)) ∧ w = w' := by
  have hat := fun k => specAt v os k w h
  have Hat := Lib.hid hat
  have hoc := fun (i : Nat) (o : HeldR) (ho : os[i]? = some o) => Helds.at h ho
  have Hoc := Lib.hid hoc
  have hgc := getH_cases hs
  have Hgc := Lib.hid hgc
  have hl8 := fun (k : Int) b (e : getH k os = some b) => (blockOk_len (getH_ok e).1).2
  have Hl8 := Lib.hid hl8
  have Hg := Lib.hid g
  obtain ⟨-, a, c, rfl, h1, h2, -⟩ := h
  obtain ⟨au, cu, rfl, g1, ⟨g2, -⟩, -, -⟩ := g
  unfold maxLen at h2 g2
  clear hat hoc hgc hl8
  go_enter Tryd.func18, Tryd.ntmps18
  go_wp2_with fail
  go_loopg [5] ids.length (fun gk i wr => ∃ k : Nat, gk = ids.length - k ∧ k ≤ ids.length ∧ i = .int .i64 k ∧ w = wr ∧ idsFrom ids os = idsFrom (ids.drop k) os)
  case atStart => exact ⟨0, rfl, Nat.zero_le _, rfl, rfl, rfl⟩
  case round =>
    obtain ⟨k, hgk, hk, rfl, rfl, he⟩ := hrel
    have Hgk := Lib.hid hgk
    have He := Lib.hid he
    clear hgk he
    by_cases hlt : k < ids.length
    · obtain ⟨x, hx⟩ := get_of hlt
      obtain ⟨b', off, rfl, kx⟩ := Ints.cellAt Hg.out hx
      have hd := drop_of hx
      have hcall := Hat.out x
      rcases Hgc.out x with ⟨ha, hg⟩ | ⟨i, o, ha, ho, hid, hg⟩
      · rw [ha, placeOf] at hcall
        have Hcall := Lib.hid hcall
        have hf : idsOk ids os = false := by rw [idsOk, He.out, hd, idsFrom_none hg]; simp
        have Hf := Lib.hid hf
        clear hf hx hd ha hg hcall
        go_wp2_with fail
        refine Hcall.out.mono ?_
        rintro e w1 ⟨rfl, rfl⟩
        go_wp2_with fail
        go_ret
        exact ⟨ret_bool Hf.out.symm, rfl⟩
      · rw [ha, placeOf] at hcall
        have Hcall := Lib.hid hcall
        have hf := He.out
        rw [hd, idsFrom_some hg] at hf
        have hl8 := Hl8.out _ _ hg
        have Hf := Lib.hid hf
        obtain ⟨b, off2, cb, t, e1, hb, c0, c1, c2, i0, i2, r2⟩ := Hoc.out i o ho
        simp only [Value.slice.injEq] at e1
        obtain ⟨rfl, -, rfl⟩ := e1
        obtain ⟨at2, ct2, rfl, -, -, -, -⟩ := r2
        have hil := (List.getElem?_eq_some_iff.1 ho).1
        clear hf hx hd ha hg hcall ho
        by_cases hlast : k + 1 < ids.length
        · have hlast' : (k : Int) + 1 < (ids.length : Int) := by omega
          have hem : (ids.drop (k + 1)).isEmpty = false := by
            rw [List.isEmpty_eq_false_iff]
            intro e
            have := congrArg List.length e
            simp at this; omega
          have Hem := Lib.hid hem
          clear hem
          by_cases h8 : o.bytes.length = 8
          · have h8' : ¬ (o.bytes.length : Int) < 8 := by omega
            have H8 := Lib.hid h8
            clear h8
            go_wp2_with fail
            refine Hcall.out.mono ?_
            rintro e w1 ⟨rfl, rfl⟩
            go_wp2_with fail
            go_roundg (ids.length - (k + 1))
            case measure => rw [Hgk.out]; omega
            case rel => exact ⟨k + 1, rfl, by omega, by go_num, rfl, by rw [Hf.out, Hem.out, H8.out]; simp⟩
          · have h8' : (o.bytes.length : Int) < 8 := by omega
            have H8 := Lib.hid h8
            clear h8
            go_wp2_with fail
            refine Hcall.out.mono ?_
            rintro e w1 ⟨rfl, rfl⟩
            go_wp2_with fail
            go_ret
            exact ⟨ret_bool (by rw [idsOk, Hf.out, Hem.out, decide_eq_false H8.out]; simp), rfl⟩
        · have hlast' : ¬ (k : Int) + 1 < (ids.length : Int) := by omega
          have hem : (ids.drop (k + 1)).isEmpty = true := by rw [drop_end hlast]; rfl
          have Hem := Lib.hid hem
          clear hem
          go_wp2_with fail
          refine Hcall.out.mono ?_
          rintro e w1 ⟨rfl, rfl⟩
          go_wp2_with fail
          go_roundg (ids.length - (k + 1))
          case measure => rw [Hgk.out]; omega
          case rel => exact ⟨k + 1, rfl, by omega, by go_num, rfl, by rw [Hf.out, Hem.out]; simp⟩
    · have hf : idsFrom ids os = true := by rw [He.out, drop_end hlt]; rfl
      have Hf := Lib.hid hf
      clear hf
      go_wp2_with fail
      go_ret
      exact ⟨ret_bool (by rw [idsOk, Hf.out, Bool.and_true]; exact decide_eq_decide.2 (by omega)), rfl⟩

set_option maxRecDepth 4000 in
set_option maxHeartbeats 1000000 in
theorem specLoad {S T : Nat → Prop} (v u : Value) (os : List HeldR) (ids : List Int) (w : World) (h : Helds S w v os) (g : Ints T w u ids) (hs : storeOk os = true) (hi : idsOk ids os = true) :
    Calls Tryd.prog 39 #[v, u] w fun e w' => ∃ t, e = .returned t ∧ OwnInts 3 (fun j => w.heap.size ≤ j) w' t (loadAll ids os) ∧ New w w' := by
  have hat := fun k (W : World) (n : New w W) => specAt v os k W (Recs.new h n)
  have Hat := Lib.hid hat
  have hoc := fun (W : World) (n : New w W) (i : Nat) (o : HeldR) (ho : os[i]? = some o) => Helds.at (Recs.new h n) ho
  have Hoc := Lib.hid hoc
  have hgc := getH_cases hs
  have Hgc := Lib.hid hgc
  have hi2 : ids.length ≤ 4 ∧ idsFrom ids os = true := by simpa [idsOk] using hi
  have hil4 := hi2.1
  have hall := idsFrom_all hi2.2
  have Hall := Lib.hid hall
  have hlen := fun k => loadAll_len (os := os) (ids.take k)
  have Hlen := Lib.hid hlen
  have hg0 := fun (W : World) (n : New w W) => g.new n
  have Hg := Lib.hid hg0
  obtain ⟨-, a, c, rfl, h1, h2, -⟩ := h
  obtain ⟨au, cu, rfl, g1, ⟨g2, -⟩, -, -⟩ := g
  unfold maxLen at h2 g2
  have o0 : OwnInts 3 (fun j => w.heap.size ≤ j) (w.alloc (.cells #[] 3)) (.slice (some ⟨w.heap.size, 0, none⟩) 0 0) (loadAll (ids.take 0) os) := (OwnNums.empty .i64 3 w).mono (fun j _ hj => by omega)
  clear hat hoc hgc hall hlen hg0 hi hi2
  go_enter Tryd.func39, Tryd.ntmps39
  go_wp2_with fail
  go_loopg [5, 6] ids.length (fun gk t i wr => ∃ k : Nat, gk = ids.length - k ∧ k ≤ ids.length ∧ i = .int .i64 k ∧ New w wr ∧ OwnInts 3 (fun j => w.heap.size ≤ j) wr t (loadAll (ids.take k) os))
  case atStart => exact ⟨0, rfl, Nat.zero_le _, rfl, (New.refl _).alloc _, o0⟩
  case round =>
    obtain ⟨k, hgk, hk, rfl, hn, ho⟩ := hrel
    have Hgk := Lib.hid hgk
    clear hgk o0
    by_cases hlt : k < ids.length
    · obtain ⟨x, hx⟩ := get_of hlt
      obtain ⟨b', off, rfl, kx⟩ := Ints.cellAt (Hg.out _ hn) hx
      have htk := loadAll_take (os := os) hx
      have hcall := Hat.out x _ hn
      obtain ⟨bb, hb⟩ := Hall.out x (List.mem_of_getElem? hx)
      have hl8 := (blockOk_len (getH_ok hb).1).2
      have hlk := Hlen.out k
      rcases Hgc.out x with ⟨-, hg⟩ | ⟨i, o, ha, hoo, hid, hg⟩
      · rw [hg] at hb; simp at hb
      rw [hg] at hb htk
      obtain rfl := Option.some.inj hb
      rw [ha, placeOf] at hcall
      have Hcall := Lib.hid hcall
      obtain ⟨b, off2, cb, t, e1, hb2, c0, c1, c2, i0, i2, r2⟩ := Hoc.out _ hn i o hoo
      simp only [Value.slice.injEq] at e1
      obtain ⟨rfl, -, rfl⟩ := e1
      have R2 := Lib.hid r2
      obtain ⟨at2, ct2, rfl, u1, ⟨u2, -⟩, -, -⟩ := r2
      unfold maxLen at u2
      have hil := (List.getElem?_eq_some_iff.1 hoo).1
      have Htk := Lib.hid htk
      have hkl : (ids.take k).length = k := by simp; omega
      rw [hkl] at hlk
      clear hx htk hb hg ha hoo hcall hkl
      generalize loadAll (ids.take k) os = acc at *
      obtain ⟨av, cv, rfl, y1, y2⟩ := ho.shape
      unfold maxLen at y2
      go_wp2_with fail
      refine Hcall.out.mono ?_
      rintro e w1 ⟨rfl, rfl⟩
      go_wp2_with first
        | (at_builtin
           refine wpRow_append slInt _ _ rfl rfl (.slice av acc.length cv) acc.length (acc.map (Value.int .i64)) rfl ho.1 at2 o.bytes.length ct2 (o.bytes.map (Value.int .i64)) rfl (Nums.src R2.out) (oneCells _ _) ?_ ?_ ?_
           · unfold maxLen; omega
           · omega
           intro v5 w5 o5 c5)
        | fail
      have o6 : OwnInts 3 (fun j => w.heap.size ≤ j) w5 v5 (acc ++ o.bytes) := by
        refine OwnNums.of_append (o5.mono (fun j _ hj => ?_)) ho.2 R2.out.fits
        rcases hj with hj | hj
        · exact (ho.lt j hj).2
        · have := hn.size; omega
      have n6 : New w w5 := hn.trans_chg c5 (fun j hj e => by have := (ho.lt j e).2; omega)
      clear o5 c5 ho
      go_roundg (ids.length - (k + 1))
      case measure => rw [Hgk.out]; omega
      case rel => exact ⟨k + 1, rfl, by omega, by go_num, n6, by rw [Htk.out]; exact o6⟩
    · have ek : ids.take k = ids := List.take_of_length_le (by omega)
      rw [ek] at ho
      go_wp2_with fail
      go_ret
      exact ⟨_, rfl, ho, hn⟩

theorem freeAll_cons {x : Int} {r : List Int} {os : List HeldR} : freeAll (x :: r) os = (dropH x os).bind (freeAll r) := by
  rw [freeAll]; rcases dropH x os with _ | os' <;> rfl

/-- What the reference's FileStore answers. -/
def FileRead (r : Option (List HeldR × List Int)) (w : World) (e : Ending) (w' : World) : Prop :=
  ∃ v t, e = .returned (.tuple #[v, t, .bool r.isSome]) ∧ Helds (fun j => w.heap.size ≤ j) w' v ((r.map Prod.fst).getD []) ∧ Ints (fun j => w.heap.size ≤ j) w' t ((r.map Prod.snd).getD []) ∧ New w w'
theorem fileRead_none {r : Option (List HeldR × List Int)} (hr : r = none) {w w1 : World} (n : New w w1) : FileRead r w (.returned (.tuple #[.slice (some ⟨w1.heap.size, 0, none⟩) 0 0, .slice (some ⟨w1.heap.size + 1, 0, none⟩) 0 0, .bool false])) ((w1.alloc (.cells #[] 47)).alloc (.cells #[] 3)) := by
  subst hr
  have z := n.size
  have zz : (w1.alloc (.cells #[] 47)).heap.size = w1.heap.size + 1 := by simp
  refine ⟨_, _, rfl, Recs.new (OwnRecs.recs ((OwnRecs.empty 47 3 w1).mono (fun _ _ hj => Nat.le_trans z hj))) ((New.refl _).alloc _), ?_, (n.alloc _).alloc _⟩
  have := OwnNums.nums ((OwnNums.empty .i64 3 (w1.alloc (.cells #[] 47))).mono (T := fun j => w.heap.size ≤ j) (fun j _ hj => by rw [zz] at hj; omega))
  rw [zz] at this
  exact this
theorem storeAll_cons {b : List Int} {r : List (List Int)} {os : List HeldR} : storeAll (b :: r) os = (putH b os).bind fun p => (storeAll r p.1).map fun q => (q.1, p.2 :: q.2) := by
  rw [storeAll]
  rcases putH b os with _ | ⟨os', k⟩
  · rfl
  · simp only [Option.bind_some]
    rcases storeAll r os' with _ | ⟨p, q⟩ <;> rfl

set_option maxRecDepth 4000 in
set_option maxHeartbeats 2000000 in
theorem specFileStore {S T : Nat → Prop} (v u : Value) (os : List HeldR) (xs : List Int) (w : World) (h : Helds S w v os) (g : Ints T w u xs) :
    Calls Tryd.prog 28 #[v, u] w (FileRead (fileStoreH xs os) w) := by
  have hok := specStoreValid v os w h
  have Hok := Lib.hid hok
  have hfv := fun (W : World) (n : New w W) => specFile u xs W (g.new n)
  have Hfv := Lib.hid hfv
  clear hok hfv
  rcases hs : storeOk os with _ | _
  · have hr : fileStoreH xs os = none := by rw [fileStoreH, if_neg (by rw [hs]; simp)]
    rw [hs] at Hok
    have Hr := Lib.hid hr
    clear hr hs
    go_enter Tryd.func28, Tryd.ntmps28
    go_wp2_with fail
    refine Hok.out.mono ?_
    rintro e w2 ⟨rfl, n2⟩
    go_wp2_with fail
    go_ret3
    exact fileRead_none Hr.out n2
  · rw [hs] at Hok
    rcases hx : fileOk xs with _ | _
    · have hr : fileStoreH xs os = none := by rw [fileStoreH, if_neg (by rw [hx]; simp)]
      rw [hx] at Hfv
      have Hr := Lib.hid hr
      clear hr hs hx
      go_enter Tryd.func28, Tryd.ntmps28
      go_wp2_with fail
      refine Hok.out.mono ?_
      rintro e w2 ⟨rfl, n2⟩
      go_wp2_with fail
      refine (Hfv.out _ n2).mono ?_
      rintro e w3 ⟨rfl, rfl⟩
      go_wp2_with fail
      go_ret3
      exact fileRead_none Hr.out n2
    · rw [hx] at Hfv
      have hr : fileStoreH xs os = storeAll (cuts xs) os := by rw [fileStoreH, if_pos ⟨hs, hx⟩]
      have Hr := Lib.hid hr
      obtain ⟨s1, s2, s3⟩ := storeOk_all hs
      have hcopy := fun (W : World) (n : New w W) => specCopy v os W (Recs.new h n) s1 (fun o ho => (blockOk_len (s2 o ho).2.2.2.2).2)
      have Hcopy := Lib.hid hcopy
      have hl := (fileOk_parts hx).1
      have hcut := fun (W : World) (n : New w W) => specCuts u xs W (g.new n) (by omega)
      have Hcut := Lib.hid hcut
      have hcc := cuts_count xs
      have hcl : (cuts xs).length ≤ 4 := by omega
      clear hr hs hx s1 s2 s3 hcopy hcut hcc
      generalize cuts xs = bs at *
      go_enter Tryd.func28, Tryd.ntmps28
      go_wp2_with fail
      refine Hok.out.mono ?_
      rintro e w2 ⟨rfl, n2⟩
      go_wp2_with fail
      refine (Hfv.out _ n2).mono ?_
      rintro e w3 ⟨rfl, rfl⟩
      go_wp2_with fail
      refine (Hcopy.out _ n2).mono ?_
      rintro e w4 ⟨t, rfl, o4, n4⟩
      have nn := n2.trans n4
      have z2 := n2.size
      have z4 := n4.size
      have h4 := Recs.old (OwnRecs.recs o4)
      clear o4 n2 n4
      go_wp2_with fail
      have n5 : New w4 (w4.alloc (.cells #[] 3)) := (New.refl _).alloc _
      have z5 : (w4.alloc (.cells #[] 3)).heap.size = w4.heap.size + 1 := by simp
      have e5 := OwnNums.empty .i64 3 w4
      have Z5 := Lib.hid z5
      clear z5
      refine (Hcut.out _ (nn.trans n5)).mono ?_
      rintro e w6 ⟨t6, rfl, b6, n6⟩
      replace h4 := Recs.new (Recs.new h4 n5) n6
      replace e5 := e5.new n6
      replace nn := (nn.trans n5).trans n6
      replace b6 := b6.old
      have z6 := n6.size
      rw [Z5.out] at b6 z6
      obtain ⟨a6, c6, rfl, y1, y2⟩ := b6.shape
      unfold maxLen at y2
      have hz0 := nn.size
      clear n5 n6 Z5
      go_wp2_with fail
      go_loopg [7, 8, 10] bs.length (fun gk t s8 i wr => ∃ (k : Nat) (done : List Int) (cur : List HeldR) (SS II : Nat → Prop), gk = bs.length - k ∧ k ≤ bs.length ∧ i = .int .i64 k ∧ done.length = k ∧ storeAll bs os = (storeAll (bs.drop k) cur).map (fun p => (p.1, done ++ p.2)) ∧ New w wr ∧ w6.heap.size ≤ wr.heap.size ∧ Helds SS wr t cur ∧ (∀ j, SS j → w.heap.size ≤ j) ∧ OwnInts 3 II wr s8 done ∧ (∀ j, II j → ¬ SS j ∧ w.heap.size ≤ j ∧ (j = w4.heap.size ∨ w6.heap.size ≤ j)) ∧ Blocks (fun j => w4.heap.size + 1 ≤ j ∧ j < w6.heap.size) wr (.slice a6 bs.length c6) bs)
      case atStart => exact ⟨0, [], os, fun j => w2.heap.size ≤ j ∧ j < w4.heap.size, fun j => j = w4.heap.size, rfl, Nat.zero_le _, rfl, rfl, by rw [List.drop_zero]; rcases storeAll bs os with _ | p <;> rfl, nn, Nat.le_refl _, h4, fun j hj => by omega, e5, fun j hj => ⟨fun hs => by omega, by omega, .inl hj⟩, b6⟩
      case round =>
        obtain ⟨k, done, cur, SS, II, hgk, hk, rfl, hdl, he, hn, hw, hh, hSS, ho, hII, hbl⟩ := hrel
        have Hgk := Lib.hid hgk
        have He := Lib.hid he
        have HII := Lib.hid hII
        have HSS := Lib.hid hSS
        have Hdl := Lib.hid hdl
        have hdl4 : done.length ≤ 4 := by omega
        clear hgk he hII hSS h4 e5 b6 nn hdl
        by_cases hlt : k < bs.length
        · obtain ⟨x, hx⟩ := get_of hlt
          obtain ⟨gb, cb, ub, ev, hS, hgb, kx, ox⟩ := hbl.at hx
          simp only [Value.slice.injEq] at ev
          obtain ⟨rfl, -, rfl⟩ := ev
          have hcall := specStorePut u7 ub cur x _ hh ox.nums
          have Hcall := Lib.hid hcall
          have hf := He.out
          rw [drop_of hx, storeAll_cons] at hf
          have hid := fun os' k' (e : putH x cur = some (os', k')) => getH_ok (law_put e).2.1
          have Hid := Lib.hid hid
          have Hf := Lib.hid hf
          obtain ⟨ab, cb2, eb, -, -⟩ := ox.shape
          subst eb
          clear hx hcall hf hid ox
          generalize hdr : putH x cur = r at *
          clear hdr
          go_wp2_with fail
          refine Hcall.out.mono ?_
          intro e w7 hpost
          rcases r with _ | ⟨cur', id⟩
          · obtain ⟨t7, rfl, o7, n7⟩ := hpost
            clear o7
            go_wp2_with fail
            go_ret3
            exact fileRead_none (by rw [Hr.out, Hf.out]; rfl) (hn.trans n7)
          · obtain ⟨t7, rfl, o7, n7⟩ := hpost
            have hid64 : I64 id := by
              have := Hid.out _ _ rfl
              exact I64.mk (by omega) (by omega)
            have z7 := n7.size
            have z0 := hn.size
            have ho7 := (OwnNums.old ho).new n7
            have hh7 : Helds (fun j => wr.heap.size ≤ j ∧ j < w7.heap.size) w7 t7 cur' := Recs.old o7
            have hbl7 := hbl.new n7
            have hn7 := hn.trans n7
            clear o7 n7 hn ho hh hbl
            simp only [Option.map_some, Option.getD_some, Option.isSome_some]
            go_wp2_with (at_builtin; refine wpNums_append slInt _ _ rfl rfl _ done id _ rfl ho7 hid64 rfl (by omega) (by decide) ?_; intro v' w8 ho8 hc8)
            have hbo : ∀ j, u8.ownBlock = some j → (II j ∧ j < wr.heap.size) ∧ j < w7.heap.size := fun j hj => ⟨(ho7.lt j hj).2, (ho7.lt j hj).1⟩
            have hh8 := Recs.chg hh7 hc8 (fun j _ hj e => by have := (hbo j e).1.2; omega)
            have hbl8 := hbl7.chg hc8 (fun j _ hj e => by have := (HII.out j (hbo j e).1.1).2.2; omega)
            have hn8 := hn7.trans_chg hc8 (fun j hj e => by have := (HII.out j (hbo j e).1.1).2.1; omega)
            have z8 := hc8.size
            clear hh7 hbl7 hn7 ho7 hc8
            go_roundg (bs.length - (k + 1))
            case measure => rw [Hgk.out]; omega
            case rel =>
              refine ⟨k + 1, done ++ [id], cur', _, fun j => u8.ownBlock = some j ∨ w7.heap.size < j, rfl, by omega, by go_num, by simp [Hdl.out], ?_, hn8, by omega, hh8, fun j hj => by omega, ho8, fun j hj => ?_, hbl8⟩
              · rw [Hf.out]
                simp only [Option.bind_some, Option.map_map]
                rcases storeAll (bs.drop (k + 1)) cur' with _ | ⟨p, q⟩
                · rfl
                · simp
              · rcases hj with hj | hj
                · obtain ⟨h1, h2⟩ := hbo j hj
                  obtain ⟨h3, h4, h5⟩ := HII.out j h1.1
                  exact ⟨fun hs => by omega, h4, h5⟩
                · exact ⟨fun hs => by omega, by omega, .inr (by omega)⟩
        · have hf : storeAll bs os = some (cur, done) := by rw [He.out, drop_end hlt]; simp [storeAll]
          have Hf := Lib.hid hf
          obtain ⟨av, cv, ev, -, -⟩ := ho.shape
          subst ev
          obtain ⟨-, a7, c7, e7, -, -, -⟩ := id hh
          subst e7
          clear hf
          go_wp2_with fail
          go_ret3
          rw [Hr.out, Hf.out]
          exact ⟨_, _, rfl, Recs.mono hh (fun j _ hj => HSS.out j hj), ho.nums.mono (fun j _ hj => (HII.out j hj).2.1), hn⟩
end Go.Proofs.YtipligidnoajfaaDoor
