/- openStore. -/
import Derived.Test.YtipligidnoajfaaDoorStore
import Derived.Test.YtipligidnoajfaaDoorStoreOk
import Derived.Deep.RegionHeld3
import Derived.IntWalk
namespace Go.Proofs.YtipligidnoajfaaDoor
open Go.RowKit Go.Maps

theorem heldsFrom_all : ∀ (os : List HeldR) (l : Int) (seen : List (List Int)), heldsFrom l seen os = true → (∀ o ∈ os, l < o.id ∧ o.id ≤ 99 ∧ 1 ≤ o.uses ∧ o.uses ≤ 999 ∧ blockOk o.bytes = true ∧ o.bytes ∉ seen) ∧ os.Pairwise (fun a b => a.id < b.id ∧ a.bytes ≠ b.bytes)
  | [], _, _, _ => ⟨by simp, List.Pairwise.nil⟩
  | h :: r, l, seen, hh => by
    rw [heldsFrom, Bool.and_eq_true] at hh
    have hk : heldOk l seen h = true := hh.1
    simp only [heldOk, Bool.and_eq_true, decide_eq_true_eq, Bool.not_eq_true'] at hk
    obtain ⟨h1, h2⟩ := heldsFrom_all r h.id _ hh.2
    have hs : h.bytes ∉ seen := fun hm => by
      rw [List.contains_iff_mem.2 hm] at hk
      exact absurd hk.2 (by simp)
    refine ⟨fun o ho => ?_, List.pairwise_cons.2 ⟨fun b hb => ?_, h2⟩⟩
    · rcases List.mem_cons.1 ho with rfl | ho
      · exact ⟨hk.1.1.1.1.1, hk.1.1.1.1.2, hk.1.1.1.2, hk.1.1.2, hk.1.2, hs⟩
      · obtain ⟨a1, a2, a3, a4, a5, a6⟩ := h1 o ho
        exact ⟨by omega, a2, a3, a4, a5, fun hm => a6 (List.mem_append_left _ hm)⟩
    · obtain ⟨a1, a2, a3, a4, a5, a6⟩ := h1 b hb
      exact ⟨a1, fun e => a6 (by rw [← e]; simp)⟩
theorem storeOk_all {os : List HeldR} (h : storeOk os = true) : os.length ≤ 16 ∧ (∀ o ∈ os, 0 < o.id ∧ o.id ≤ 99 ∧ 1 ≤ o.uses ∧ o.uses ≤ 999 ∧ blockOk o.bytes = true) ∧ os.Pairwise (fun a b => a.id < b.id ∧ a.bytes ≠ b.bytes) := by
  simp only [storeOk, Bool.and_eq_true, decide_eq_true_eq] at h
  obtain ⟨h1, h2⟩ := heldsFrom_all os 0 [] h.2
  exact ⟨h.1, fun o ho => ⟨(h1 o ho).1, (h1 o ho).2.1, (h1 o ho).2.2.1, (h1 o ho).2.2.2.1, (h1 o ho).2.2.2.2.1⟩, h2⟩
theorem blockOk_len {xs : List Int} (h : blockOk xs = true) : 1 ≤ xs.length ∧ xs.length ≤ 8 := by
  simp only [blockOk, Bool.and_eq_true, decide_eq_true_eq] at h
  exact h.1
theorem setP_last {p : HP} : ∀ {ps : List HP}, (∀ a ∈ ps, a.1.id < p.1.id) → setP p ps = ps ++ [p]
  | [], _ => rfl
  | a :: r, h => by
    rw [setP, if_pos (h a List.mem_cons_self), setP_last fun b hb => h b (List.mem_cons_of_mem _ hb)]; rfl

theorem KI : Keyed Tryd.prog 3 := int_keyed Tryd.underlying3
theorem key_int {a : Int} (h : I64 a) : keyOf Tryd.prog 3 (.int .i64 a) = some (.int .i64 a) := keyOf_int_mk Tryd.underlying3 h

def OpenPost (os : List HeldR) (w : World) (e : Ending) (w' : World) : Prop :=
  if storeOk os = true then ∃ b ps, e = .returned (.tuple #[.map (some b), .bool true]) ∧ Store (fun j => w.heap.size ≤ j) w' b os.length ps ∧ ps.map Prod.fst = os ∧ New w w'
  else e = .returned (.tuple #[.map none, .bool false]) ∧ New w w'

set_option maxRecDepth 4000 in
set_option maxHeartbeats 2000000 in
theorem openStore {S : Nat → Prop} (v : Value) (os : List HeldR) (w : World) (h : Helds S w v os) :
    Calls Tryd.prog 22 #[v] w (OpenPost os w) := by
  have h0 := h
  have hv := implStoreValid v os w h
  obtain ⟨-, a, c, rfl, h1, h2, -⟩ := h
  unfold maxLen at h2
  have Hv := Lib.hid hv
  clear hv
  by_cases hok : storeOk os = true
  · have Hp : OpenPost os w = fun e w' => ∃ b ps, e = .returned (.tuple #[.map (some b), .bool true]) ∧ Store (fun j => w.heap.size ≤ j) w' b os.length ps ∧ ps.map Prod.fst = os ∧ New w w' := by
      funext e w'; rw [OpenPost, if_pos hok]
    obtain ⟨hlen, hall, hpw⟩ := storeOk_all hok
    have hat := fun (W : World) (n : New w W) (k : Nat) (o : HeldR) (ho : os[k]? = some o) => Helds.at (Recs.new h0 n) ho
    have Hat := Lib.hid hat
    have Hall := Lib.hid hall
    have Hpw := Lib.hid hpw
    have HP' := Lib.hid Hp
    rw [hok] at Hv
    have hmm := @run_makeMap Tryd.prog
    clear hat hall hpw hok Hp
    go_enter Tryd.func22, Tryd.ntmps22
    go_wp2_with fail
    refine Hv.out.mono ?_
    rintro e w1 ⟨rfl, n1⟩
    go_wp2_with fail
    have hmk := (New.refl w1).alloc (.map #[] 0)
    have hs0 : Store (fun j => w.heap.size ≤ j) (w1.alloc (.map #[] 0)) w1.heap.size 0 [] :=
      ⟨n1.size, by simp, World.ownsMap_made _ _ _ _, List.Pairwise.nil, trivial⟩
    clear hmm
    generalize hb : w1.heap.size = mb at *
    generalize hw2 : w1.alloc (.map #[] 0) = w2 at *
    have n2 := n1.trans hmk
    clear hw2 hb hmk n1
    go_loopg [13] os.length (fun gk i wr => ∃ (k : Nat) (ps : List HP), gk = os.length - k ∧ k ≤ os.length ∧ i = .int .i64 k ∧ New w wr ∧ Store (fun j => w.heap.size ≤ j) wr mb k ps ∧ ps.map Prod.fst = os.take k)
    case atStart => exact ⟨0, [], by omega, Nat.zero_le _, rfl, n2, hs0, rfl⟩
    case round =>
      obtain ⟨k, ps, hgk, hk, rfl, hn, st, hps⟩ := hrel
      have Hgk := Lib.hid hgk
      have Hps := Lib.hid hps
      clear hgk hs0 hps
      by_cases hlt : k < os.length
      · obtain ⟨o, ho⟩ := get_of hlt
        obtain ⟨b, off, c', u, e1, hb, c0, c1, c2, i0, i2, r2⟩ := Hat.out wr hn k o ho
        simp only [Value.slice.injEq] at e1
        obtain ⟨rfl, -, rfl⟩ := e1
        have hmem := List.mem_of_getElem? ho
        obtain ⟨o1, o2, o3, o4, o5⟩ := Hall.out o hmem
        have ol := (blockOk_len o5).2
        have htk : os.take (k + 1) = os.take k ++ [o] := by
          obtain ⟨hk', e⟩ := List.getElem?_eq_some_iff.1 ho
          rw [List.take_succ_eq_append_getElem hk', e]
        have hlast : ∀ p ∈ ps, p.1.id < o.id := by
          intro p hp
          have hm : p.1 ∈ os.take k := by rw [← Hps.out]; exact List.mem_map_of_mem hp
          have hpw := Hpw.out
          rw [← List.take_append_drop k os, drop_of ho, List.pairwise_append] at hpw
          exact (hpw.2.2 p.1 hm o List.mem_cons_self).1
        have Htk := Lib.hid htk
        have Hlast := Lib.hid hlast
        have R2 := Lib.hid r2
        obtain ⟨au, cu, rfl, u1, ⟨u2, -⟩, -, -⟩ := r2
        unfold maxLen at u2
        have k0 : (wr.alloc (.cells #[.int .i64 o.id, .slice au o.bytes.length cu, .int .i64 o.uses] 47)).cell? ⟨wr.heap.size, 0, none⟩ = some (.int .i64 o.id) := by rw [cell_alloc]; rfl
        have k1 : (wr.alloc (.cells #[.int .i64 o.id, .slice au o.bytes.length cu, .int .i64 o.uses] 47)).cell? ⟨wr.heap.size, 1, none⟩ = some (.slice au o.bytes.length cu) := by rw [cell_alloc]; rfl
        have k2 : (wr.alloc (.cells #[.int .i64 o.id, .slice au o.bytes.length cu, .int .i64 o.uses] 47)).cell? ⟨wr.heap.size, 2, none⟩ = some (.int .i64 o.uses) := by rw [cell_alloc]; rfl
        have nb : New wr (wr.alloc (.cells #[.int .i64 o.id, .slice au o.bytes.length cu, .int .i64 o.uses] 47)) := (New.refl wr).alloc _
        have hmg : mb < wr.heap.size := st.2.1
        have hgb : wr.heap.size < (wr.alloc (.cells #[.int .i64 o.id, .slice au o.bytes.length cu, .int .i64 o.uses] 47)).heap.size := by simp
        clear htk ho hlast hmem
        go_wp2_with fail
        generalize wr.alloc (.cells #[.int .i64 o.id, .slice au o.bytes.length cu, .int .i64 o.uses] 47) = wb at *
        generalize wr.heap.size = g at *
        have hcl := slClone (.slice au o.bytes.length cu) o.bytes wb.drew ((R2.out.new nb).new ((New.refl wb).drew)) (by omega)
        have Hcl := Lib.hid hcl
        have st1 := (st.new nb).new ((New.refl wb).drew)
        have St := Lib.hid st1
        clear hcl st st1
        go_region_held3 (fun w' => w'.cell? ⟨g, 0, none⟩ = some (.int .i64 o.id) ∧ w'.cell? ⟨g, 1, none⟩ = some (.slice au o.bytes.length cu) ∧ w'.cell? ⟨g, 2, none⟩ = some (.int .i64 o.uses)) (first | exact ⟨k0, k1, k2⟩ | exact ⟨n3.cell k0, n3.cell k1, n3.cell k2⟩ | exact ⟨(chg_of_grown g4).cell (n3.cell k0) (fun e => by have e' : g = mb := e; omega), (chg_of_grown g4).cell (n3.cell k1) (fun e => by have e' : g = mb := e; omega), (chg_of_grown g4).cell (n3.cell k2) (fun e => by have e' : g = mb := e; omega)⟩)
          (first
            | (go_at_call 41; refine Hcl.out.mono ?_; rintro e w3 ⟨u', rfl, n3, q3⟩; obtain ⟨a3, c3, rfl, s31, s32⟩ := q3.shape; obtain ⟨w4, hrun, m4, g4⟩ := (St.out.new n3).2.2.1.update (val := .agg #[.int .i64 o.id, .slice a3 o.bytes.length c3, .int .i64 o.uses]) KI (show (Tryd.prog).underlying 51 = some (.map 3 47) by kernel_rfl) (by unfold maxLen; omega) (key_int i0) rfl))
        have c4 := chg_of_grown g4
        have st3 := St.out.new n3
        have hz := n3.size
        have n4 : New w w4 := (((hn.trans nb).trans ((New.refl wb).drew)).trans n3).trans_chg c4 (fun j hj e => by have := st3.1; omega)
        have st4 : Store (fun j => w.heap.size ≤ j) w4 mb (k + 1) (ps ++ [(o, .slice a3 o.bytes.length c3)]) := by
          have hsl := setP_last (p := (o, .slice a3 o.bytes.length c3)) (ps := ps) Hlast.out
          have hput := map_put (o, .slice a3 o.bytes.length c3) ps st3.2.2.2.1
          rw [hsl] at hput
          have hris := setP_rising (o, .slice a3 o.bytes.length c3) st3.2.2.2.1
          rw [hsl] at hris
          refine ⟨st3.1, Nat.lt_of_lt_of_le st3.2.1 c4.size, by rw [← hput]; exact m4, hris, ?_⟩
          have f0 := St.out.2.2.2.2.old.new n3
          have f1 : Fields (fun j => wb.heap.size ≤ j) w3 [.slice a3 o.bytes.length c3] [.nums o.bytes] := ⟨OwnI.of q3, trivial⟩
          have f2 := (Fields.append f1 f0 (fun j hj hT => by have h2 : j < wb.heap.size := hj.2; omega)).chg c4 (fun j hj hh e => by
            rcases hh with hh | hh
            · exact hh.1.2 e
            · have := nb.size; have e' : j = mb := e; omega)
          rw [List.map_append, List.map_append]
          refine f2.mono fun j hj hh => ?_
          rcases hh with hh | hh
          · exact hh.1
          · have := nb.size; have := hn.size
            exact ⟨by omega, by omega⟩
        clear c4 st3 g4 m4 hrun q3 n3 k0 k1 k2 St Hcl
        go_wp2_with fail
        go_roundg (os.length - (k + 1))
        case measure => rw [Hgk.out]; omega
        case rel =>
          refine ⟨k + 1, _, rfl, by omega, by go_num, n4, st4, ?_⟩
          rw [List.map_append, Hps.out, Htk.out]; rfl
      · go_wp2_with fail
        go_ret2
        rw [HP'.out]
        have ek : k = os.length := by omega
        refine ⟨mb, ps, rfl, by rw [← ek]; exact st, ?_, hn⟩
        rw [Hps.out, List.take_of_length_le (by omega)]
  · have Hp : OpenPost os w = fun e w' => e = .returned (.tuple #[.map none, .bool false]) ∧ New w w' := by
      funext e w'; rw [OpenPost, if_neg hok]
    rw [show storeOk os = false by simpa using hok] at Hv
    have HP' := Lib.hid Hp
    clear hok Hp
    go_enter Tryd.func22, Tryd.ntmps22
    go_wp2_with fail
    refine Hv.out.mono ?_
    rintro e w1 ⟨rfl, n1⟩
    go_wp2_with fail
    go_ret2
    rw [HP'.out]
    exact ⟨rfl, n1⟩
end Go.Proofs.YtipligidnoajfaaDoor
