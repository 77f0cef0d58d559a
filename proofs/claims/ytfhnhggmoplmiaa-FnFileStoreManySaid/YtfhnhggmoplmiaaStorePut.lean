/- The store's put; StorePut and StoreGet of the program. -/
import Derived.Test.YtfhnhggmoplmiaaStoreFind
import Derived.OwnWalk
namespace Go.Proofs.Ytfhnhggmoplmiaa
open Go.RowKit Go.Maps

theorem put_keep {xs : List Int} {os : List HeldR} (hs : storeOk os = true) (hx : blockOk xs = true) {i : Nat} {o : HeldR} (ho : os[i]? = some o) (hb : o.bytes = xs) : putH xs os = (keepH o.id os).map (fun r => (r, o.id)) := by
  rw [putH, if_pos ⟨hs, hx⟩, likeH_is (storeOk_all hs).2.2 ho hb, keepH_at hs ho rfl]
  simp only [ho]
  split <;> rfl
theorem put_full {xs : List Int} {os : List HeldR} (hn : ∀ o ∈ os, o.bytes ≠ xs) (hl : ¬ os.length < 16) : putH xs os = none := by
  rw [putH]
  split
  · rw [likeH_none hn]
  · rfl
theorem put_free {xs : List Int} {os : List HeldR} (hs : storeOk os = true) (hx : blockOk xs = true) (hn : ∀ o ∈ os, o.bytes ≠ xs) (hl : os.length < 16) : putH xs os = some (insH ⟨freeH os, xs, 1⟩ os, freeH os) := by
  rw [putH, if_pos ⟨hs, hx⟩, likeH_none hn]; simp only [if_pos hl]

def PutPost (S : Nat → Prop) (b n : Nat) (r : Option (List HeldR × Int)) (w : World) (e : Ending) (w' : World) : Prop :=
  match r with
  | none => (∃ x, e = .returned (.tuple #[.int .i64 x, .bool false])) ∧ Chg (fun j => j = b) w w'
  | some (os, k) => e = .returned (.tuple #[.int .i64 k, .bool true]) ∧ Chg (fun j => j = b) w w' ∧ ∃ qs : List HP, qs.map Prod.fst = os ∧ Store (fun j => (S j ∧ j < w.heap.size) ∨ w.heap.size ≤ j) w' b (n + 1) qs

set_option maxRecDepth 4000 in
set_option maxHeartbeats 1000000 in
theorem implPut {S T : Nat → Prop} (b n : Nat) (ps : List HP) (u : Value) (xs : List Int) (w : World) (h : Store S w b n ps) (g : Ints T w u xs) (hn : n ≤ 900) (hok : storeOk (ps.map Prod.fst) = true) (hx : blockOk xs = true) :
    Calls Try.prog 75 #[.map (some b), u] w (PutPost S b n (putH xs (ps.map Prod.fst)) w) := by
  have hf := implFind b n ps u xs w h g
  have Hf := Lib.hid hf
  have Hok := Lib.hid hok
  have hps := okPs_of hok
  have Hps := Lib.hid hps
  have hg0 := fun (W : World) (nw : New w W) => g.new nw
  have Hg := Lib.hid hg0
  replace h := h.old
  obtain ⟨au, cu, rfl, -, -, -, -⟩ := g
  clear hf hok hps hg0
  go_enter Try.func75, Try.ntmps75
  go_wp2_with fail
  refine Hf.out.mono ?_
  rintro e w1 ⟨n1, hcase⟩
  rcases hcase with ⟨p, hp, hb, rfl⟩ | ⟨hno, rfl⟩
  · obtain ⟨i, hi⟩ := List.mem_iff_getElem?.1 hp
    have hi' : (ps.map Prod.fst)[i]? = some p.1 := by simp [hi]
    have hpk := put_keep Hok.out hx hi' hb
    have hid := (Hps.out p hp).1
    have hne : (p.1.id != 0) = true := by simp; omega
    have hk := implKeep b n ps p.1.id w1 (h.new n1) (I64.mk (by omega) (by omega)) (by omega) (Hps.out.bds.1)
    have his := keepP_is (k := p.1.id) h.2.2.2.1 Hok.out
    have Hk := Lib.hid hk
    have Hpk := Lib.hid hpk
    have His := Lib.hid his
    clear hk hpk his hi' hi hb h hp
    go_wp2_with fail
    refine Hk.out.mono ?_
    intro e w2 hpost
    rcases hkp : keepP p.1.id ps with _ | qs
    · rw [hkp] at hpost
      obtain ⟨rfl, n2⟩ := hpost
      have hr : putH xs (ps.map Prod.fst) = none := by rw [Hpk.out, ← His.out, hkp]; rfl
      have Hr := Lib.hid hr
      clear hr hkp
      go_wp2_with fail
      go_ret2
      rw [Hr.out]
      exact ⟨⟨_, rfl⟩, (n1.trans n2).chg _⟩
    · rw [hkp] at hpost
      obtain ⟨rfl, st2, c2⟩ := hpost
      have hr : putH xs (ps.map Prod.fst) = some (qs.map Prod.fst, p.1.id) := by rw [Hpk.out, ← His.out, hkp]; rfl
      have Hr := Lib.hid hr
      clear hr hkp
      go_wp2_with fail
      go_ret2
      rw [Hr.out]
      exact ⟨rfl, (n1.chg _).trans c2, qs, rfl, st2.mono (fun j _ hj => .inl hj)⟩
  · have hlen := (h.new n1).2.2.1.len under_store
    rw [map_size] at hlen
    have hno' : ∀ o ∈ ps.map Prod.fst, o.bytes ≠ xs := by
      intro o ho
      obtain ⟨p, hp, rfl⟩ := List.mem_map.1 ho
      exact hno p hp
    have Hno := Lib.hid hno'
    have hl16 := (storeOk_all Hok.out).1
    rw [List.length_map] at hl16
    clear hno hno'
    by_cases hfull : 16 ≤ ps.length
    · have hr := put_full Hno.out (by rw [List.length_map]; omega)
      have Hr := Lib.hid hr
      clear hr
      go_wp2_with fail
      go_ret2
      rw [Hr.out]
      exact ⟨⟨_, rfl⟩, n1.chg _⟩
    · have hr := put_free Hok.out hx Hno.out (by rw [List.length_map]; omega)
      have Hr := Lib.hid hr
      have hfr := freeH_is Hok.out
      rw [List.length_map] at hfr
      obtain ⟨f1, f2, f3, f4⟩ := hfr
      have F3 := Lib.hid f3
      have F4 := Lib.hid f4
      have st1 := h.new n1
      have hlk := fun (k : Int) (hk : I64 k) => st1.look1 hk
      have Hlk := Lib.hid hlk
      have hsh := st1.shapes
      have Hsh := Lib.hid hsh
      clear hr f3 f4 hlk hsh h
      generalize hfk : freeH (ps.map Prod.fst) = fk at *
      have Hfk := Lib.hid hfk
      clear hfk
      go_wp2_with fail
      go_loopg [7] 20 (fun gk q wr => ∃ k : Nat, gk = 21 - k ∧ q = .int .i64 k ∧ 1 ≤ k ∧ (k : Int) ≤ fk ∧ w1 = wr)
      case atStart => exact ⟨1, rfl, rfl, Nat.le_refl _, f1, rfl⟩
      case round =>
        obtain ⟨k, hgk, rfl, hk1, hk2, rfl⟩ := hrel
        have Hgk := Lib.hid hgk
        clear hgk
        have hlook := Hlk.out k (I64.mk (by omega) (by omega))
        by_cases hkf : (k : Int) < fk
        · obtain ⟨o, ho, hid⟩ := F4.out k (by omega) hkf
          obtain ⟨p, hp, rfl⟩ := List.mem_map.1 ho
          obtain ⟨i, hi⟩ := List.mem_iff_getElem?.1 hp
          have ha := atP_at st1.2.2.2.1 hi
          rw [hid] at ha
          rw [ha] at hlook
          obtain ⟨ap, cp, e2⟩ := Hsh.out p hp
          simp only [HP.val, e2] at hlook
          have hu := (Hps.out p hp).2.1
          have hne : (p.1.uses != 0) = true := by simp; omega
          have hfld : (Instr.field 49 (.agg #[.int .i64 p.1.id, .slice ap p.1.bytes.length cp, .int .i64 p.1.uses]) 2).run Try.prog w1 = .ok (.int .i64 p.1.uses) w1 := by kernel_rfl
          clear ha hp ho hi hid e2
          go_wp2_with fail
          go_roundg (21 - (k + 1))
          case measure => rw [Hgk.out]; omega
          case rel => exact ⟨k + 1, rfl, by go_num, by omega, by omega, rfl⟩
        · have hke : (k : Int) = fk := by omega
          have ha : atP (k : Int) ps = none := by
            rcases e : atP (k : Int) ps with _ | p
            · rfl
            · obtain ⟨hm, hid⟩ := atP_some e
              exact absurd (hid.trans hke) (F3.out p.1 (List.mem_map_of_mem hm))
          rw [ha] at hlook
          simp only [zeroHeld] at hlook
          have hcl := slClone (.slice au xs.length cu) xs w1 (Hg.out w1 n1) (by have := (blockOk_len hx).2; omega)
          have Hcl := Lib.hid hcl
          have hne : ∀ q ∈ ps, q.1.id ≠ (k : Int) := fun q hq e => F3.out q.1 (List.mem_map_of_mem hq) (e.trans hke)
          have Hne := Lib.hid hne
          have Hke := Lib.hid hke
          have hfld : (Instr.field 49 (.agg #[.int .i64 0, .slice none 0 0, .int .i64 0]) 2).run Try.prog w1 = .ok (.int .i64 0) w1 := by kernel_rfl
          clear ha hcl hne hke
          go_wp2_with fail
          refine Hcl.out.mono ?_
          rintro e w2 ⟨u2, rfl, n2, q2⟩
          obtain ⟨a2, c2, rfl, -, -⟩ := q2.shape
          obtain ⟨w3, hrun, st3, c3⟩ := (st1.new n2).put_new (T := fun j => w1.heap.size ≤ j) (⟨k, xs, 1⟩, .slice a2 xs.length c2) (OwnI.of q2) Hne.out (fun j hj hT => by have := hj.2; have := n1.size; omega) (I64.mk (by show (-9223372036854775808 : Int) ≤ k; omega) (by show (k : Int) ≤ 9223372036854775807; omega)) (by unfold maxLen; omega)
          simp only [HP.val] at hrun
          have cc := ((n1.trans n2).chg (fun j => j = b)).trans c3
          have hins := setP_ins (p := (⟨k, xs, 1⟩, .slice a2 xs.length c2)) (ps := ps) Hne.out
          have Hins := Lib.hid hins
          clear q2 hins c3
          go_wp2_with fail
          go_ret2
          rw [Hr.out]
          refine ⟨by rw [← Hke.out]; rfl, cc, _, ?_, st3.mono (fun j _ hj => ?_)⟩
          · rw [Hins.out, Hke.out]
          · rcases hj with hj | hj
            · exact .inl hj
            · exact .inr (by have := n1.size; omega)

/-- What StorePut answers. -/
def PutsPost (r : Option (List HeldR × Int)) (w : World) (e : Ending) (w' : World) : Prop :=
  ∃ v, e = .returned (.tuple #[v, .int .i64 ((r.map Prod.snd).getD 0), .bool r.isSome]) ∧ OwnHelds (fun j => w.heap.size ≤ j) w' v ((r.map Prod.fst).getD []) ∧ New w w'

def GetPost (r : Option (List Int)) (w : World) (e : Ending) (w' : World) : Prop :=
  ∃ v, e = .returned (.tuple #[v, .bool r.isSome]) ∧ Ints (fun j => w.heap.size ≤ j) w' v (r.getD []) ∧ New w w'

set_option maxRecDepth 4000 in
set_option maxHeartbeats 1000000 in
theorem implStoreGet {S : Nat → Prop} (v : Value) (os : List HeldR) (k : Int) (w : World) (h : Helds S w v os) (hk : I64 k) :
    Calls Try.prog 29 #[v, .int .i64 k] w (GetPost (getH k os) w) := by
  have hop := openStore v os w h
  obtain ⟨-, a, c, rfl, h1, h2, -⟩ := h
  unfold maxLen at h2
  have Hop := Lib.hid hop
  clear hop
  by_cases hok : storeOk os = true
  · go_enter Try.func29, Try.ntmps29
    go_wp2_with fail
    refine Hop.out.mono ?_
    intro e w1 hpost
    rw [OpenPost, if_pos hok] at hpost
    obtain ⟨b, ps, rfl, st, rfl, n1⟩ := hpost
    have hl := st.look hk
    rcases atH_of (k := k) st.2.2.2.1 with ⟨ha, hh⟩ | ⟨i, p, ha, hh, hi, hid⟩
    · have hr : getH k (ps.map Prod.fst) = none := by rw [getH, hh]; split <;> rfl
      have Hr := Lib.hid hr
      rw [ha] at hl
      simp only [zeroHeld] at hl
      clear hr ha hh hok st
      go_wp2_with fail
      go_ret2
      rw [Hr.out]
      exact ⟨_, rfl, Nums.nil _ _ _, n1.alloc _⟩
    · have hg : (ps.map Prod.fst)[i]? = some p.1 := by simp [hi]
      have hr : getH k (ps.map Prod.fst) = some p.1.bytes := getH_at hok hg hid
      have Hr := Lib.hid hr
      rw [ha] at hl
      obtain ⟨ap, cp, e2⟩ := st.shapes p (List.mem_of_getElem? hi)
      have hb := st.bytesOf (List.mem_of_getElem? hi)
      simp only [HP.val, e2] at hl
      rw [e2] at hb
      have Hb := Lib.hid hb
      have c1 : (w1.alloc (.cells #[.int .i64 p.1.id, .slice ap p.1.bytes.length cp, .int .i64 p.1.uses] 49)).cell? ⟨w1.heap.size, 1, none⟩ = some (.slice ap p.1.bytes.length cp) := by rw [cell_alloc]; rfl
      clear hr ha hh hok st hi hg hid hb e2
      go_wp2_with fail
      go_ret2
      rw [Hr.out]
      exact ⟨_, rfl, Hb.out.new ((New.refl _).alloc _), n1.alloc _⟩
  · have hr : getH k os = none := by rw [getH, if_neg hok]
    have Hr := Lib.hid hr
    have hno : storeOk os = false := by simpa using hok
    have Hno := Lib.hid hno
    clear hr hok hno
    go_enter Try.func29, Try.ntmps29
    go_wp2_with fail
    refine Hop.out.mono ?_
    intro e w1 hpost
    rw [OpenPost, if_neg (by rw [Hno.out]; simp)] at hpost
    obtain ⟨rfl, n1⟩ := hpost
    go_wp2_with fail
    go_ret2
    rw [Hr.out]
    exact ⟨_, rfl, Nums.nil _ _ _, n1⟩
end Go.Proofs.Ytfhnhggmoplmiaa
