/- The set of holds: a map of the call's own. -/
import Derived.Test.YtapobonfnjgnoaaHoldKey
import Derived.Test.YtapobonfnjgnoaaHoldOk
import Derived.Maps.OwnOps
namespace Go.Proofs.Ytapobonfnjgnoaa
open Go.RowKit Go.Maps

def SetIn (w : World) (b n : Nat) (os : List HoldR) : Prop :=
  ∃ D : DataW Value, w.ownsMap Try.prog 25 unitElem b n D ∧ (∀ x, HFit x → Maps.has D (KL x) = decide (x ∈ os)) ∧ Maps.size D = os.length

theorem ownsMap_chg {w w' : World} {T : Nat → Prop} (g : Chg T w w') {b : Nat} (hb : b < w.heap.size) (hT : ¬ T b) {P : Program} {k : TypeId} {R : Value → Option (DataW Value × List MemPlace)} {n : Nat} {D : DataW Value} (h : w.ownsMap P k R b n D) : w'.ownsMap P k R b n D := by
  obtain ⟨es, clock, hb', F, hs, hD⟩ := h
  exact ⟨es, clock, (g.block b hb hT).trans hb', F, hs, hD⟩
theorem SetIn.lt {w : World} {b n : Nat} {os : List HoldR} (h : SetIn w b n os) : b < w.heap.size := by
  obtain ⟨D, h1, -⟩ := h
  exact h1.lt
theorem SetIn.chg {w w' : World} {T : Nat → Prop} {b n : Nat} {os : List HoldR} (h : SetIn w b n os) (g : Chg T w w') (hT : ¬ T b) : SetIn w' b n os := by
  have hb := h.lt
  obtain ⟨D, h1, h2⟩ := h
  exact ⟨D, ownsMap_chg g hb hT h1, h2⟩
theorem SetIn.new {w w' : World} {b n : Nat} {os : List HoldR} (h : SetIn w b n os) (g : New w w') : SetIn w' b n os := h.chg g (fun hf => hf)
theorem SetIn.made (w : World) : SetIn (w.alloc (.map #[] 0)) w.heap.size 0 [] := ⟨.map [], World.ownsMap_made _ _ _ _, fun x _ => by simp [Maps.has_eq], rfl⟩
theorem chg_of_grownH {w w' : World} {b : Nat} (g : w.grownBy w' (some b)) : Chg (fun j => j = b) w w' :=
  ⟨g.os, g.tape, g.output, g.size, fun j hj hne => g.block j hj (fun e => hne (Option.some.inj e))⟩
theorem under_set : (Try.prog).underlying 53 = some (.map 25 67) := by kernel_rfl
theorem zero_unit (w : World) : (zeroValue 67).run Try.prog w = .ok (.agg #[]) w := by kernel_rfl

theorem SetIn.look {w : World} {b n : Nat} {os : List HoldR} (h : SetIn w b n os) {x : HoldR} (hx : HFit x) :
    (Instr.lookup 53 (.map (some b)) (hv x) true).run Try.prog w = .ok (.tuple #[.agg #[], .bool (decide (x ∈ os))]) w := by
  obtain ⟨D, h1, h2, -⟩ := h
  obtain ⟨v, q, hrun, hR⟩ := h1.look_ok KH under_set (zero_unit w) (zd := .agg []) (zp := []) unitElem_mk (key_hold x hx)
  obtain ⟨rfl, -⟩ := unitElem_inv hR
  rw [h2 x hx] at hrun
  exact hrun
theorem SetIn.put_run {w : World} {b n : Nat} {os : List HoldR} (h : SetIn w b n os) {x : HoldR} (hx : HFit x) (hnot : x ∉ os) (hn : n < maxLen) :
    ∃ w', (Instr.mapUpdate 53 (.map (some b)) (hv x) (.agg #[])).run Try.prog w = .ok () w' ∧ SetIn w' b (n + 1) (os ++ [x]) ∧ Chg (fun j => j = b) w w' := by
  obtain ⟨D, h1, h2, h3⟩ := h
  obtain ⟨w', hrun, m, g⟩ := h1.update KH under_set hn (val := .agg #[]) (d := .agg []) (ps := []) (key_hold x hx) unitElem_mk
  refine ⟨w', hrun, ⟨_, m, fun y hy => ?_, ?_⟩, chg_of_grownH g⟩
  · by_cases e : y = x
    · subst e
      rw [has_put_same h1.isMap (KL_key hx)]
      simp
    · rw [has_put_other (fun e' => e (KL_inj hy hx e')), h2 y hy]
      simp [e]
  · rw [size_put (h1.tidy KH), h2 x hx]
    simp [hnot, h3]
set_option maxRecDepth 4000 in
theorem SetIn.del_run {w : World} {b n : Nat} {os : List HoldR} (h : SetIn w b n os) (hnd : os.Nodup) {x : HoldR} (hx : HFit x) (hin : x ∈ os) (ty : TypeId) :
    ∃ w', (Builtin.delete_ #[53, 25] ty #[.map (some b), hv x]).run Try.prog w = .ok (.tuple #[]) w' ∧ SetIn w' b n (os.filter (fun y => decide (y ≠ x))) ∧ Chg (fun j => j = b) w w' := by
  obtain ⟨D, h1, h2, h3⟩ := h
  obtain ⟨w', hrun, m, g⟩ := h1.drop KH under_set (key_hold x hx) ty
  refine ⟨w', hrun, ⟨_, m, fun y hy => ?_, ?_⟩, chg_of_grownH g.grown⟩
  · by_cases e : y = x
    · subst e
      rw [has_del_same]
      simp
    · rw [has_del_other (fun e' => e (KL_inj hy hx e')), h2 y hy]
      simp [e]
  · have hs := size_del (h1.tidy KH) (k := KL x)
    rw [h2 x hx, h3] at hs
    simp only [hin, decide_true, if_true] at hs
    have e : os.filter (fun y => decide (y ≠ x)) = os.erase x := by
      rw [hnd.erase_eq_filter]
      congr 1
      funext y
      by_cases e : y = x <;> simp [e]
    rw [e, List.length_erase_of_mem hin]
    omega
theorem SetIn.len_run {w : World} {b n : Nat} {os : List HoldR} (h : SetIn w b n os) (ty : TypeId) : (Builtin.len_ #[53] ty #[.map (some b)]).run Try.prog w = .ok (.int .i64 (os.length : Int)) w := by
  obtain ⟨D, h1, -, h3⟩ := h
  rw [← h3]
  exact h1.len under_set ty

set_option maxRecDepth 4000 in
set_option maxHeartbeats 1000000 in
theorem setHas (b n : Nat) (os : List HoldR) (x : HoldR) (w : World) (h : SetIn w b n os) (hx : HFit x) :
    Calls Try.prog 49 #[.map (some b), .agg #[.string ⟨x.snap.toArray⟩, .string ⟨x.tag.toArray⟩]] w fun e w' => e = .returned (.bool (decide (x ∈ os))) ∧ New w w' := by
  have n1 := (New.refl w).alloc (.cells #[.string ⟨x.snap.toArray⟩, .string ⟨x.tag.toArray⟩] 25)
  have hl := (h.new n1).look hx
  unfold hv at hl
  generalize decide (x ∈ os) = z at *
  clear h
  go_enter Try.func49, Try.ntmps49
  go_wp2_with fail
  go_ret
  exact ⟨rfl, n1.alloc _⟩

def PutPost (b n : Nat) (os : List HoldR) (x : HoldR) (w : World) (e : Ending) (w' : World) : Prop :=
  (x ∈ os → e = .returned (.bool false) ∧ New w w') ∧ (x ∉ os → e = .returned (.bool true) ∧ SetIn w' b (n + 1) (os ++ [x]) ∧ Chg (fun j => j = b) w w')
def DropPost (b n : Nat) (os : List HoldR) (x : HoldR) (w : World) (e : Ending) (w' : World) : Prop :=
  (x ∉ os → e = .returned (.bool false) ∧ New w w') ∧ (x ∈ os → e = .returned (.bool true) ∧ SetIn w' b n (os.filter (fun y => decide (y ≠ x))) ∧ Chg (fun j => j = b) w w')

set_option maxRecDepth 4000 in
set_option maxHeartbeats 1000000 in
theorem setPut (b n : Nat) (os : List HoldR) (x : HoldR) (w : World) (h : SetIn w b n os) (hx : HFit x) (hn : n ≤ 1000) :
    Calls Try.prog 38 #[.map (some b), .agg #[.string ⟨x.snap.toArray⟩, .string ⟨x.tag.toArray⟩]] w (PutPost b n os x w) := by
  have n1 := (New.refl w).alloc (.cells #[.string ⟨x.snap.toArray⟩, .string ⟨x.tag.toArray⟩] 25)
  have hbx := heap_alloc_new w (.cells #[.string ⟨x.snap.toArray⟩, .string ⟨x.tag.toArray⟩] 25)
  have hcall := fun (W : World) (hW : SetIn W b n os) => setHas b n os x W hW hx
  by_cases hin : x ∈ os
  · have Hp : PutPost b n os x w = fun e w' => e = .returned (.bool false) ∧ New w w' := by
      funext e w'; simp [PutPost, hin]
    rw [Hp]
    rw [decide_eq_true hin] at hcall
    have Hcall := Lib.hid hcall
    clear hcall hin Hp hbx
    go_enter Try.func38, Try.ntmps38
    go_wp2_with fail
    refine (Hcall.out _ (h.new n1)).mono ?_
    rintro e w2 ⟨rfl, n2⟩
    go_wp2_with fail
    go_ret
    exact ⟨rfl, n1.trans n2⟩
  · have Hp : PutPost b n os x w = fun e w' => e = .returned (.bool true) ∧ SetIn w' b (n + 1) (os ++ [x]) ∧ Chg (fun j => j = b) w w' := by
      funext e w'; simp [PutPost, hin]
    rw [Hp]
    rw [decide_eq_false hin] at hcall
    have Hcall := Lib.hid hcall
    have Hin := Lib.hid hin
    have Hbx := Lib.hid hbx
    clear hcall hin Hp hbx
    go_enter Try.func38, Try.ntmps38
    go_wp2_with fail
    refine (Hcall.out _ (h.new n1)).mono ?_
    rintro e w2 ⟨rfl, n2⟩
    have n3 := n1.trans n2
    obtain ⟨w4, hrun, h4, c4⟩ := (h.new n3).put_run hx Hin.out (by unfold maxLen; omega)
    have hb2 := n2.heap Hbx.out
    have c0 : w2.cell? ⟨w.heap.size, 0, none⟩ = some (.string ⟨x.snap.toArray⟩) := by
      unfold World.cell?; rw [hb2]; rfl
    have c1 : w2.cell? ⟨w.heap.size, 1, none⟩ = some (.string ⟨x.tag.toArray⟩) := by
      unfold World.cell?; rw [hb2]; rfl
    unfold hv at hrun
    have C4 := Lib.hid (((n3.mono (fun _ _ hf => hf.elim)) : Chg (fun j => j = b) w w2).trans c4)
    clear hb2 c4 h
    go_wp2_with fail
    go_ret
    exact ⟨rfl, h4, C4.out⟩

set_option maxRecDepth 4000 in
set_option maxHeartbeats 1000000 in
theorem setDrop (b n : Nat) (os : List HoldR) (x : HoldR) (w : World) (h : SetIn w b n os) (hnd : os.Nodup) (hx : HFit x) :
    Calls Try.prog 44 #[.map (some b), .agg #[.string ⟨x.snap.toArray⟩, .string ⟨x.tag.toArray⟩]] w (DropPost b n os x w) := by
  have n1 := (New.refl w).alloc (.cells #[.string ⟨x.snap.toArray⟩, .string ⟨x.tag.toArray⟩] 25)
  have hbx := heap_alloc_new w (.cells #[.string ⟨x.snap.toArray⟩, .string ⟨x.tag.toArray⟩] 25)
  have hcall := fun (W : World) (hW : SetIn W b n os) => setHas b n os x W hW hx
  by_cases hin : x ∈ os
  · have Hp : DropPost b n os x w = fun e w' => e = .returned (.bool true) ∧ SetIn w' b n (os.filter (fun y => decide (y ≠ x))) ∧ Chg (fun j => j = b) w w' := by
      funext e w'; simp [DropPost, hin]
    rw [Hp]
    rw [decide_eq_true hin] at hcall
    have Hcall := Lib.hid hcall
    have Hin := Lib.hid hin
    have Hbx := Lib.hid hbx
    have Hnd := Lib.hid hnd
    clear hcall hin Hp hbx hnd
    go_enter Try.func44, Try.ntmps44
    go_wp2_with fail
    refine (Hcall.out _ (h.new n1)).mono ?_
    rintro e w2 ⟨rfl, n2⟩
    have n3 := n1.trans n2
    obtain ⟨w4, hrun, h4, c4⟩ := (h.new n3).del_run Hnd.out hx Hin.out 0
    have hb2 := n2.heap Hbx.out
    have c0 : w2.cell? ⟨w.heap.size, 0, none⟩ = some (.string ⟨x.snap.toArray⟩) := by
      unfold World.cell?; rw [hb2]; rfl
    have c1 : w2.cell? ⟨w.heap.size, 1, none⟩ = some (.string ⟨x.tag.toArray⟩) := by
      unfold World.cell?; rw [hb2]; rfl
    unfold hv at hrun
    have C4 := Lib.hid (((n3.mono (fun _ _ hf => hf.elim)) : Chg (fun j => j = b) w w2).trans c4)
    clear hb2 c4 h
    go_wp2_with fail
    go_ret
    exact ⟨rfl, h4, C4.out⟩
  · have Hp : DropPost b n os x w = fun e w' => e = .returned (.bool false) ∧ New w w' := by
      funext e w'; simp [DropPost, hin]
    rw [Hp]
    rw [decide_eq_false hin] at hcall
    have Hcall := Lib.hid hcall
    clear hcall hin Hp hbx
    go_enter Try.func44, Try.ntmps44
    go_wp2_with fail
    refine (Hcall.out _ (h.new n1)).mono ?_
    rintro e w2 ⟨rfl, n2⟩
    go_wp2_with fail
    go_ret
    exact ⟨rfl, n1.trans n2⟩

theorem okFrom_pw : ∀ (os : List HoldR) (p : Option HoldR), okFrom p os = true → (∀ o ∈ os, holdOk o = true ∧ ∀ y, p = some y → hLt y o = true) ∧ os.Pairwise (fun a b => hLt a b = true)
  | [], _, _ => ⟨by simp, List.Pairwise.nil⟩
  | x :: r, p, h => by
    rw [okFrom, Bool.and_eq_true] at h
    obtain ⟨h1, h2⟩ := h
    unfold okAt at h1
    rw [Bool.and_eq_true] at h1
    obtain ⟨g1, g2⟩ := okFrom_pw r (some x) h2
    refine ⟨fun o ho => ?_, List.pairwise_cons.2 ⟨fun b hb => (g1 b hb).2 x rfl, g2⟩⟩
    rcases List.mem_cons.1 ho with rfl | ho
    · refine ⟨h1.1, fun y hy => ?_⟩
      subst hy
      exact h1.2
    · refine ⟨(g1 o ho).1, fun y hy => ?_⟩
      subst hy
      exact hLt_trans h1.2 ((g1 o ho).2 x rfl)
theorem holdsOk_pw {os : List HoldR} (h : holdsOk os = true) : os.length ≤ 8 ∧ (∀ o ∈ os, holdOk o = true) ∧ os.Pairwise (fun a b => hLt a b = true) := by
  rw [holdsOk, Bool.and_eq_true] at h
  obtain ⟨h1, h2⟩ := okFrom_pw os none h.2
  exact ⟨by simpa using h.1, fun o ho => (h1 o ho).1, h2⟩
theorem pw_nodup {os : List HoldR} (h : os.Pairwise (fun a b => hLt a b = true)) : os.Nodup := by
  refine h.imp fun {a b} hab e => ?_
  subst e
  rw [hLt_irrefl] at hab
  cases hab
theorem HSm.fit {o : HoldR} (h : HSm o) : HFit o := ⟨by unfold maxLen; have := h.1; omega, by unfold maxLen; have := h.2; omega⟩

def OpenHPost (os : List HoldR) (w : World) (e : Ending) (w' : World) : Prop :=
  if holdsOk os = true then ∃ b, w.heap.size ≤ b ∧ e = .returned (.tuple #[.map (some b), .bool true]) ∧ SetIn w' b os.length os ∧ New w w'
  else e = .returned (.tuple #[.map none, .bool false]) ∧ New w w'

set_option maxRecDepth 4000 in
set_option maxHeartbeats 2000000 in
theorem openHolds {S : Nat → Prop} (v : Value) (os : List HoldR) (w : World) (h : Holds S w v os) (hs : ∀ o ∈ os, HSm o) :
    Calls Try.prog 36 #[v] w (OpenHPost os w) := by
  have h0 := h
  have hv := implHolds v os w h hs
  obtain ⟨-, a, c, rfl, h1, h2, -⟩ := h
  unfold maxLen at h2
  have Hv := Lib.hid hv
  clear hv
  by_cases hok : holdsOk os = true
  · have Hp : OpenHPost os w = fun e w' => ∃ b, w.heap.size ≤ b ∧ e = .returned (.tuple #[.map (some b), .bool true]) ∧ SetIn w' b os.length os ∧ New w w' := by
      funext e w'; rw [OpenHPost, if_pos hok]
    obtain ⟨hlen, -, hpw⟩ := holdsOk_pw hok
    have hat := fun (W : World) (n : New w W) (k : Nat) (o : HoldR) (ho : os[k]? = some o) => Holds.at (Recs.new h0 n) ho
    have Hat := Lib.hid hat
    have Hnd := Lib.hid (pw_nodup hpw)
    have HP' := Lib.hid Hp
    have Hs := Lib.hid hs
    have Hput := Lib.hid setPut
    rw [hok] at Hv
    have hmm := @run_makeMap Try.prog
    clear hat hpw hok Hp hs
    go_enter Try.func36, Try.ntmps36
    go_wp2_with fail
    refine Hv.out.mono ?_
    rintro e w1 ⟨rfl, n1⟩
    go_wp2_with fail
    have hmk := (New.refl w1).alloc (.map #[] 0)
    have hs0 := SetIn.made w1
    have hb0 : w.heap.size ≤ w1.heap.size := n1.size
    clear hmm
    generalize hb : w1.heap.size = mb at *
    generalize hw2 : w1.alloc (.map #[] 0) = w2 at *
    have n2 := n1.trans hmk
    clear hw2 hb hmk n1
    go_loopg [13] os.length (fun gk i wr => ∃ (k : Nat), gk = os.length - k ∧ k ≤ os.length ∧ i = .int .i64 k ∧ New w wr ∧ SetIn wr mb k (os.take k))
    case atStart => exact ⟨0, by omega, Nat.zero_le _, rfl, n2, hs0⟩
    case round =>
      obtain ⟨k, hgk, hk, rfl, hn, st⟩ := hrel
      have Hgk := Lib.hid hgk
      clear hgk hs0
      by_cases hlt : k < os.length
      · obtain ⟨o, ho⟩ := get_of hlt
        obtain ⟨b, off, c', e1, hb, c0, c1, -, -⟩ := Hat.out wr hn k o ho
        simp only [Value.slice.injEq] at e1
        obtain ⟨rfl, -, rfl⟩ := e1
        have hsm := (Hs.out o (List.mem_of_getElem? ho)).fit
        have htk : os.take (k + 1) = os.take k ++ [o] := by
          obtain ⟨hk', e⟩ := List.getElem?_eq_some_iff.1 ho
          rw [List.take_succ_eq_append_getElem hk', e]
        have hnin : o ∉ os.take k := by
          intro hm
          have hnd := Hnd.out
          rw [← List.take_append_drop (k + 1) os, htk, List.append_assoc, List.nodup_append] at hnd
          exact hnd.2.2 o hm o (by simp) rfl
        have nb := (New.refl wr).alloc (.cells #[.string ⟨o.snap.toArray⟩, .string ⟨o.tag.toArray⟩] 25)
        have hcall := Hput.out mb k (os.take k) o _ (st.new nb) hsm (by omega)
        have Hcall := Lib.hid hcall
        have Htk := Lib.hid htk
        have Hnin := Lib.hid hnin
        unfold txt at c0 c1
        clear hcall htk hnin ho hsm
        go_wp2_with fail
        refine Hcall.out.mono ?_
        intro e w5 hpost
        obtain ⟨rfl, s5, c5⟩ := hpost.2 Hnin.out
        have n5 : New w w5 := (hn.trans nb).trans_chg c5 (fun j hj e => by omega)
        have s6 : SetIn w5 mb (k + 1) (os.take (k + 1)) := by rw [Htk.out]; exact s5
        clear s5 hpost
        go_wp2_with fail
        go_roundg (os.length - (k + 1))
        case measure => rw [Hgk.out]; omega
        case rel => exact ⟨k + 1, rfl, by omega, by go_num, n5, s6⟩
      · have ek : k = os.length := by omega
        rw [ek, List.take_of_length_le (Nat.le_refl _)] at st
        clear ek
        go_wp2_with fail
        go_ret2
        rw [HP'.out]
        exact ⟨mb, hb0, rfl, st, hn⟩
  · have Hp : OpenHPost os w = fun e w' => e = .returned (.tuple #[.map none, .bool false]) ∧ New w w' := by
      funext e w'; rw [OpenHPost, if_neg hok]
    rw [Hp]
    have hok' : holdsOk os = false := by simpa using hok
    rw [hok'] at Hv
    clear hok hok' Hp h0 hs
    go_enter Try.func36, Try.ntmps36
    go_wp2_with fail
    refine Hv.out.mono ?_
    rintro e w1 ⟨rfl, n1⟩
    go_wp2_with fail
    go_ret2
    exact ⟨rfl, n1⟩
end Go.Proofs.Ytapobonfnjgnoaa
