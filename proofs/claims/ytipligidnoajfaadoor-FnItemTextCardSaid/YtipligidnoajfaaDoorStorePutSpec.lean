/- The reference's StorePut and StoreGet. -/
import Derived.Test.YtipligidnoajfaaDoorStorePut
import Derived.Test.YtipligidnoajfaaDoorStoreKeepSpec
namespace Go.Proofs.YtipligidnoajfaaDoor
open Go.RowKit

set_option maxRecDepth 4000 in
set_option maxHeartbeats 1000000 in
theorem specLike {S T : Nat → Prop} (v u : Value) (os : List HeldR) (xs : List Int) (w : World) (h : Helds S w v os) (g : Ints T w u xs) :
    Calls Tryd.prog 57 #[v, u] w fun e w' => e = .returned (.int .i64 (placeOf (likeH xs os))) ∧ New w w' := by
  have h0 := h
  obtain ⟨-, a, c, rfl, h1, h2, -⟩ := h
  unfold maxLen at h2
  have hat := fun (W : World) (n : New w W) (j : Nat) (o : HeldR) (ho : os[j]? = some o) => Helds.at (Recs.new h0 n) ho
  have Hat := Lib.hid hat
  have hg := fun (W : World) (n : New w W) => g.new n
  have Hg := Lib.hid hg
  obtain ⟨au, cu, rfl, -, -, -, -⟩ := g
  clear hat hg
  go_enter Tryd.func57, Tryd.ntmps57
  go_wp2
  go_loopg [5] os.length (fun gk i wr => ∃ (j : Nat), gk = os.length - j ∧ j ≤ os.length ∧ i = .int .i64 j ∧ New w wr ∧ ∀ q, q < j → ∀ x, os[q]? = some x → x.bytes ≠ xs)
  case atStart => exact ⟨0, by omega, Nat.zero_le _, rfl, New.refl _, fun q hq => by omega⟩
  case round =>
    obtain ⟨j, hgk, hj, rfl, hn, hf⟩ := hrel
    have Hgk := Lib.hid hgk
    have Hf := Lib.hid hf
    clear hgk hf
    by_cases hlt : j < os.length
    · obtain ⟨o, ho⟩ := get_of hlt
      obtain ⟨b, off, c', t, e1, hb, c0, c1, c2, i0, i2, r2⟩ := Hat.out wr hn j o ho
      simp only [Value.slice.injEq] at e1
      obtain ⟨rfl, -, rfl⟩ := e1
      have Ho := Lib.hid ho
      have hcall := fun (W : World) (n : New wr W) => l2Same t (.slice au xs.length cu) o.bytes xs W (r2.new n) (Hg.out W (hn.trans n))
      have Hcall := Lib.hid hcall
      clear ho hcall r2
      go_wp2_with fail
      refine (Hcall.out _ (New.refl _)).mono ?_
      by_cases hk : o.bytes = xs
      · have ha := likeH_first Ho.out hk Hf.out
        have Ha := Lib.hid ha
        rw [decide_eq_true hk]
        rintro e w2 ⟨rfl, d2⟩
        have n2 : New w w2 := hn.trans d2.new
        clear ha hk
        go_wp2_with fail
        go_ret
        exact ⟨ret_int (by rw [Ha.out]; rfl), n2⟩
      · rw [decide_eq_false hk]
        rintro e w2 ⟨rfl, d2⟩
        have n2 : New w w2 := hn.trans d2.new
        have Hk := Lib.hid hk
        clear hk
        go_wp2_with fail
        go_roundg (os.length - (j + 1))
        case measure => rw [Hgk.out]; omega
        case rel =>
          refine ⟨j + 1, rfl, by omega, by go_num, n2, fun q hq x hx => ?_⟩
          rcases Nat.lt_or_ge q j with h | h
          · exact Hf.out q h x hx
          · obtain rfl : q = j := by omega
            rw [Ho.out] at hx
            obtain rfl := Option.some.inj hx
            exact Hk.out
    · have ha : likeH xs os = none := likeH_none fun o ho => by
        obtain ⟨q, hq, rfl⟩ := List.mem_iff_getElem.1 ho
        exact Hf.out q (by omega) _ (List.getElem?_eq_getElem hq)
      have Ha := Lib.hid ha
      clear ha
      go_wp2_with fail
      go_ret
      exact ⟨ret_int (by rw [Ha.out]; rfl), hn⟩

set_option maxRecDepth 4000 in
set_option maxHeartbeats 1000000 in
theorem specFree {S : Nat → Prop} (v : Value) (os : List HeldR) (w : World) (h : Helds S w v os) (hs : storeOk os = true) :
    Calls Tryd.prog 58 #[v] w fun e w' => e = .returned (.int .i64 (freeH os)) ∧ w = w' := by
  have hat := fun k => specAt v os k w h
  have Hat := Lib.hid hat
  obtain ⟨f1, f2, f3, f4⟩ := freeH_is hs
  have hl := (storeOk_all hs).1
  have F3 := Lib.hid f3
  have F4 := Lib.hid f4
  obtain ⟨-, a, c, rfl, h1, h2, -⟩ := h
  unfold maxLen at h2
  generalize hfk : freeH os = fk at *
  clear hat f3 f4 hs hfk
  go_enter Tryd.func58, Tryd.ntmps58
  go_wp2_with fail
  go_loopg [3] 20 (fun gk q wr => ∃ k : Nat, gk = 21 - k ∧ q = .int .i64 k ∧ 1 ≤ k ∧ (k : Int) ≤ fk ∧ w = wr)
  case atStart => exact ⟨1, rfl, rfl, Nat.le_refl _, f1, rfl⟩
  case round =>
    obtain ⟨k, hgk, rfl, hk1, hk2, rfl⟩ := hrel
    have Hgk := Lib.hid hgk
    clear hgk
    have hc := Hat.out k
    by_cases hkf : (k : Int) < fk
    · rcases atH_cases (k : Int) os with ⟨ha, hno⟩ | ⟨i, o, ha, ho, hid⟩
      · obtain ⟨o, ho, hid⟩ := F4.out k (by omega) hkf
        exact absurd hid (hno o ho)
      · rw [ha, placeOf] at hc
        have Hc := Lib.hid hc
        clear hc ha ho hid
        go_wp2_with fail
        refine Hc.out.mono ?_
        rintro e w1 ⟨rfl, rfl⟩
        go_wp2_with fail
        go_roundg (21 - (k + 1))
        case measure => rw [Hgk.out]; omega
        case rel => exact ⟨k + 1, rfl, by go_num, by omega, by omega, rfl⟩
    · have hke : (k : Int) = fk := by omega
      have ha : atH (k : Int) os = none := atH_none fun o ho e => F3.out o ho (e.trans hke)
      rw [ha, placeOf] at hc
      have Hc := Lib.hid hc
      have Hke := Lib.hid hke
      clear hc ha hke
      go_wp2_with fail
      refine Hc.out.mono ?_
      rintro e w1 ⟨rfl, rfl⟩
      go_wp2_with fail
      go_ret
      exact ⟨ret_int Hke.out, rfl⟩

theorem heldFlds_snoc (os : List HeldR) (o : HeldR) : heldFlds (os ++ [o]) = heldFlds os ++ o.flds := by simp [heldFlds]
theorem reads_held {T : Nat → Prop} {w : World} {u : Value} {o : HeldR} (h1 : I64 o.id) (h2 : Ints T w u o.bytes) (h3 : I64 o.uses) : Reads T w [.int .i64 o.id, u, .int .i64 o.uses] o.flds := by
  refine ⟨rfl, fun i x f hx hf => ?_⟩
  match i, hx, hf with
  | 0, hx, hf => simp [HeldR.flds] at hx hf; subst hx hf; exact ⟨rfl, h1⟩
  | 1, hx, hf => simp [HeldR.flds] at hx hf; subst hx hf; exact h2
  | 2, hx, hf => simp [HeldR.flds] at hx hf; subst hx hf; exact ⟨rfl, h3⟩
  | n + 3, hx, hf => simp at hx

def ReadPost (os : List HeldR) (w : World) (e : Ending) (w' : World) : Prop :=
  ∃ v, e = .returned v ∧ Helds (fun j => w.heap.size ≤ j) w' v os ∧ New w w'

/-- the blocks that are put together: out is row v with the first m of them -/
def OutSt (w0 : World) (bo m : Nat) (hs : List HeldR) (wr : World) (v : Value) : Prop :=
  ∃ us, Row 47 3 (fun j => j = bo ∨ w0.heap.size ≤ j) wr v m us ∧ Reads (fun j => bo < j ∧ j < w0.heap.size) wr us (heldFlds (hs.take m)) ∧ Chg (fun j => j = bo) w0 wr ∧ m ≤ hs.length

theorem OutSt.more {w0 wr w' : World} {bo m : Nat} {hs : List HeldR} {v v' : Value} {o : HeldR} {us ts : List Value} (ho : hs[m]? = some o) (h1 : Row 47 3 (fun j => j = bo ∨ w0.heap.size ≤ j) wr v m us) (h2 : Reads (fun j => bo < j ∧ j < w0.heap.size) wr us (heldFlds (hs.take m))) (h3 : Chg (fun j => j = bo) w0 wr)
    (ht : Reads (fun j => bo < j ∧ j < w0.heap.size) wr ts o.flds) (g1 : Row 47 3 (fun k => v.ownBlock = some k ∨ wr.heap.size < k) w' v' (m + 1) (us ++ ts)) (g2 : Chg (fun k => v.ownBlock = some k) wr w') : OutSt w0 bo (m + 1) hs w' v' := by
  obtain ⟨hm, e⟩ := List.getElem?_eq_some_iff.1 ho
  refine ⟨us ++ ts, g1.mono fun j _ hj => ?_, ?_, ?_, by omega⟩
  · rcases hj with hj | hj
    · exact h1.2 j hj
    · exact .inr (by have := h3.size; omega)
  · rw [List.take_succ_eq_append_getElem hm, e, heldFlds_snoc]
    refine (h2.append ht).chg g2 fun j _ hj e => ?_
    rcases h1.2 j e with h | h
    · omega
    · omega
  · exact h3.step g2 fun j hj e => by
      rcases h1.2 j e with h | h
      · exact h
      · omega

set_option maxRecDepth 4000 in
set_option maxHeartbeats 2000000 in
theorem specWith {S T : Nat → Prop} (v u : Value) (os : List HeldR) (xs : List Int) (w : World) (h : Helds S w v os) (g : Ints T w u xs) (hs : storeOk os = true) (hx8 : xs.length ≤ 8) :
    Calls Tryd.prog 59 #[v, u] w (ReadPost (insH ⟨freeH os, xs, 1⟩ os) w) := by
  have h0 := h
  obtain ⟨s1, s2, s3⟩ := storeOk_all hs
  have hfree := specFree v os w h hs
  have Hfree := Lib.hid hfree
  have hcopy := fun (W : World) (n : New w W) => specCopy v os W (Recs.new h0 n) s1 (fun o ho => (blockOk_len (s2 o ho).2.2.2.2).2)
  have Hcopy := Lib.hid hcopy
  have hg := fun (W : World) (n : New w W) => g.new n
  have Hg := Lib.hid hg
  obtain ⟨-, a, c, rfl, h1, h2, -⟩ := h
  obtain ⟨au, cu, rfl, g1, ⟨g2, -⟩, gfit, -⟩ := g
  have Gfit := Lib.hid gfit
  unfold maxLen at h2 g2
  obtain ⟨f1, f2, f3, -⟩ := freeH_is hs
  have F3 := Lib.hid f3
  have S2 := Lib.hid s2
  have ifk : I64 (freeH os) := I64.mk (by omega) (by omega)
  obtain ⟨p, hp, hins, hbef, haft⟩ := insH_split ⟨freeH os, xs, 1⟩ os
  have hil := insH_length ⟨freeH os, xs, 1⟩ os
  have hgx : (insH ⟨freeH os, xs, 1⟩ os)[p]? = some ⟨freeH os, xs, 1⟩ := by
    rw [hins, List.getElem?_append_right (by simp; omega)]
    have : p - (os.take p).length = 0 := by simp; omega
    rw [this]; rfl
  have hgl : ∀ i o, i < p → os[i]? = some o → (insH ⟨freeH os, xs, 1⟩ os)[i]? = some o := fun i o hi ho => by
    rw [hins, List.getElem?_append_left (by simp; omega), List.getElem?_take_of_lt hi]; exact ho
  have hgr : ∀ i o, p ≤ i → os[i]? = some o → (insH ⟨freeH os, xs, 1⟩ os)[i + 1]? = some o := fun i o hi ho => by
    rw [hins, List.getElem?_append_right (by simp; omega)]
    have : i + 1 - (os.take p).length = i - p + 1 := by simp; omega
    rw [this, List.getElem?_cons_succ, List.getElem?_drop, ← ho]; congr 1; omega
  have hb' : ∀ i o, i < p → os[i]? = some o → ¬ freeH os < o.id := fun i o hi ho => hbef o (List.mem_of_getElem? (i := i) (by rw [List.getElem?_take_of_lt hi]; exact ho))
  have ha' : ∀ o, os[p]? = some o → freeH os < o.id := fun o ho => haft o _ (drop_of ho)
  generalize insH ⟨freeH os, xs, 1⟩ os = hs' at *
  generalize freeH os = fk at *
  have Hgx := Lib.hid hgx
  have Hgl := Lib.hid hgl
  have Hgr := Lib.hid hgr
  have Hb := Lib.hid hb'
  have Ha := Lib.hid ha'
  have Hil := Lib.hid hil
  clear hfree hcopy hg gfit f3 s2 s3 hins hbef haft hgx hgl hgr hb' ha' hs hil
  have tok1 : True := trivial
  go_enter Tryd.func59, Tryd.ntmps59
  go_wp2_with fail
  refine Hfree.out.mono ?_
  rintro e w1 ⟨rfl, rfl⟩
  have ne0 : New w (w.alloc (.cells #[] 47)) := (New.refl _).alloc _
  have re0 := Row.empty 47 3 w
  have z0 : (w.alloc (.cells #[] 47)).heap.size = w.heap.size + 1 := by simp
  have Z0 := Lib.hid z0
  have Ne0 := Lib.hid ne0
  have Re0 := Lib.hid re0
  clear z0 ne0 re0
  go_wp2_with first
    | (have _t := tok1
       at_builtin
       generalize w.alloc (.cells #[] 47) = wb at *
       have he := Row.empty 3 1 wb
       rw [Z0.out] at he
       refine wpRow_append slInt _ _ rfl rfl (.slice (some ⟨w.heap.size + 1, 0, none⟩) 0 0) 0 [] rfl he au xs.length cu (xs.map (Value.int .i64)) rfl (Nums.src (Hg.out _ (Ne0.out.alloc _))) (oneCells _ _) ?_ ?_ ?_
       · unfold maxLen; omega
       · omega
       intro v5 w5 o5 c5
       have n5 : New wb w5 := ((New.refl wb).alloc _).trans_chg c5 (fun j hj e => by have e' := own_some e; simp only at e'; have := Z0.out; omega)
       have nw5 := Ne0.out.trans n5
       have re5 := Re0.out.new n5
       have hz5 := n5.size
       have o5' : OwnInts 3 (fun j => w.heap.size + 1 ≤ j) w5 v5 xs := by
         rw [Nat.zero_add, List.nil_append] at o5
         refine ⟨o5.mono (fun j _ hj => ?_), Gfit.out⟩
         rcases hj with hj | hj
         · have e' := own_some hj; simp only at e'; omega
         · have := Z0.out; simp at hj; omega
       obtain ⟨a5, d5, rfl, -, -⟩ := o5'.shape
       clear he tok1 _t o5 c5)
    | fail
  have hx6 := heap_alloc_new w5 (.cells #[.int .i64 fk, .slice a5 xs.length d5, .int .i64 1] 47)
  have n6 : New w5 (w5.alloc (.cells #[.int .i64 fk, .slice a5 xs.length d5, .int .i64 1] 47)) := (New.refl _).alloc _
  have z6 : (w5.alloc (.cells #[.int .i64 fk, .slice a5 xs.length d5, .int .i64 1] 47)).heap.size = w5.heap.size + 1 := by simp
  have o6 := o5'.old.new n6
  have re6 := re5.new n6
  have nw6 := nw5.trans n6
  have Hx6 := Lib.hid hx6
  have hsz5 : w.heap.size + 1 ≤ w5.heap.size := by have := Z0.out; omega
  clear hx6 o5' re5 n6 nw5
  generalize w5.alloc (.cells #[.int .i64 fk, .slice a5 xs.length d5, .int .i64 1] 47) = w6 at *
  generalize w5.heap.size = bx at *
  refine (Hcopy.out w6 nw6).mono ?_
  rintro e w7 ⟨v7, rfl, o7, n7⟩
  have hx7 := n7.heap Hx6.out
  have x7 := (OwnNums.nums o6).new n7
  have re7 := re6.new n7
  have nw7 := nw6.trans n7
  have hrd := (OwnRecs.recs o7).old
  have z7 := n7.size
  have k0 : w7.cell? ⟨bx, 0, none⟩ = some (.int .i64 fk) := by simp [World.cell?, hx7]
  have k1 : w7.cell? ⟨bx, 1, none⟩ = some (.slice a5 xs.length d5) := by simp [World.cell?, hx7]
  have k2 : w7.cell? ⟨bx, 2, none⟩ = some (.int .i64 1) := by simp [World.cell?, hx7]
  have hX : ∀ W, Chg (fun j => j = w.heap.size) w7 W → W.cell? ⟨bx, 0, none⟩ = some (.int .i64 fk) ∧ W.cell? ⟨bx, 1, none⟩ = some (.slice a5 xs.length d5) ∧ W.cell? ⟨bx, 2, none⟩ = some (.int .i64 1) ∧
      Reads (fun j => w.heap.size < j ∧ j < w7.heap.size) W [.int .i64 fk, .slice a5 xs.length d5, .int .i64 1] (HeldR.flds ⟨fk, xs, 1⟩) := fun W hW =>
    ⟨hW.cell k0 (by omega), hW.cell k1 (by omega), hW.cell k2 (by omega),
      reads_held (o := ⟨fk, xs, 1⟩) ifk ((x7.chg hW (fun j _ hj e => by omega)).mono (fun j _ hj => by omega)) (I64.mk (by show (-9223372036854775808 : Int) ≤ 1; omega) (by show (1 : Int) ≤ 9223372036854775807; omega))⟩
  have hO : ∀ W, Chg (fun j => j = w.heap.size) w7 W → ∀ i o, os[i]? = some o → ∃ b off c t, v7 = .slice (some ⟨b, off, none⟩) os.length c ∧ W.cell? ⟨b, off + i * 3, none⟩ = some (.int .i64 o.id) ∧ W.cell? ⟨b, off + i * 3 + 1, none⟩ = some t ∧ W.cell? ⟨b, off + i * 3 + 2, none⟩ = some (.int .i64 o.uses) ∧
      Reads (fun j => w.heap.size < j ∧ j < w7.heap.size) W [.int .i64 o.id, t, .int .i64 o.uses] o.flds := fun W hW i o ho => by
    have h' : Helds (fun j => w6.heap.size ≤ j ∧ j < w7.heap.size) W v7 os := Recs.chg hrd hW (fun j _ hj e => by omega)
    obtain ⟨b, off, c', t, e1, hb, c0, c1, c2, i0, i2, r2⟩ := Helds.at h' ho
    exact ⟨b, off, c', t, e1, c0, c1, c2, reads_held i0 (r2.mono (fun j _ hj => by omega)) i2⟩
  have HX := Lib.hid hX
  have HO := Lib.hid hO
  have hst : OutSt w7 w.heap.size 0 hs' w7 (.slice (some ⟨w.heap.size, 0, none⟩) 0 0) := ⟨[], re7.mono (fun j _ hj => .inl hj), ⟨rfl, by simp⟩, Chg.refl _ _, Nat.zero_le _⟩
  obtain ⟨a7, c7, ev7, w71, w72, -⟩ := OwnRecs.shape o7
  subst ev7
  unfold maxLen at w72
  clear hX hO o7 x7 re7 hx7 re6 hrd k0 k1 k2 n7 o6 Hx6 Re0 Hcopy Hfree
  go_wp2_with fail
  go_loopg [6, 7, 10] os.length (fun gk q6 q7 q10 wr => ∃ i : Nat, gk = os.length - i ∧ i ≤ os.length ∧ q10 = .int .i64 i ∧ ((i ≤ p ∧ q7 = .bool false ∧ OutSt w7 w.heap.size i hs' wr q6) ∨ (p < i ∧ q7 = .bool true ∧ OutSt w7 w.heap.size (i + 1) hs' wr q6)))
  case atStart => exact ⟨0, rfl, Nat.zero_le _, rfl, .inl ⟨Nat.zero_le _, rfl, hst⟩⟩
  case round =>
    obtain ⟨i, hgk, hi, rfl, hcase⟩ := hrel
    have Hgk := Lib.hid hgk
    clear hgk hst
    by_cases hlt : i < os.length
    · obtain ⟨o, ho⟩ := get_of hlt
      have Ho := Lib.hid ho
      clear ho
      have hoi := (S2.out o (List.mem_of_getElem? Ho.out))
      have hne := F3.out o (List.mem_of_getElem? Ho.out)
      rcases hcase with ⟨hip, rfl, us, q1, q2, q3, q4⟩ | ⟨hip, rfl, us, q1, q2, q3, q4⟩
      · obtain ⟨b, off, c', t, e1, c0, c1, c2, rr⟩ := HO.out _ q3 i o Ho.out
        simp only [Value.slice.injEq] at e1
        obtain ⟨rfl, -, rfl⟩ := e1
        obtain ⟨av, cv, rfl, s5, s6, -, -⟩ := q1.shape
        unfold maxLen at s6
        by_cases hlp : i < p
        · have hcmp := Hb.out i o hlp Ho.out
          have hat := Hgl.out i o hlp Ho.out
          have Hat := Lib.hid hat
          clear hat
          go_wp2_with first
            | (at_builtin
               refine wpRow_appendRec slHeld _ _ rfl rfl (.slice av i cv) i us [.int .i64 o.id, t, .int .i64 o.uses] 47 rfl q1 rfl (Reads.one rr) rfl (by omega) (by decide) ?_
               intro v8 w8 p8 c8)
            | fail
          have st := OutSt.more Hat.out q1 q2 q3 rr p8 c8
          clear q1 q2 q3 rr p8 c8
          go_roundg (os.length - (i + 1))
          case measure => rw [Hgk.out]; omega
          case rel => exact ⟨i + 1, rfl, by omega, by go_num, .inl ⟨by omega, rfl, st⟩⟩
        · obtain rfl : i = p := by omega
          have hcmp := Ha.out o Ho.out
          obtain ⟨x0, x1, x2, xr⟩ := HX.out _ q3
          have tok2 : True := trivial
          go_wp2_with first
            | (have _t := tok2
               at_builtin
               refine wpRow_appendRec slHeld _ _ rfl rfl (.slice av i cv) i us [.int .i64 fk, .slice a5 xs.length d5, .int .i64 1] 47 rfl q1 rfl (Reads.one xr) rfl (by omega) (by decide) ?_
               intro v8 w8 p8 c8
               obtain ⟨us8, q18, q28, q38, q48⟩ := OutSt.more Hgx.out q1 q2 q3 xr p8 c8
               obtain ⟨b, off, c', t, e1, c0, c1, c2, rr⟩ := HO.out _ q38 i o Ho.out
               simp only [Value.slice.injEq, Option.some.injEq, Addr.mk.injEq] at e1
               obtain ⟨⟨rfl, rfl, -⟩, -, rfl⟩ := e1
               obtain ⟨av8, cv8, rfl, s58, s68, -, -⟩ := q18.shape
               unfold maxLen at s68
               clear q1 q2 q3 xr p8 c8 tok2 _t)
            | (at_builtin
               refine wpRow_appendRec slHeld _ _ rfl rfl (.slice av8 (i + 1) cv8) (i + 1) us8 [.int .i64 o.id, t, .int .i64 o.uses] 47 rfl q18 rfl (Reads.one rr) rfl (by omega) (by decide) ?_
               intro v9 w9 p9 c9)
            | fail
          have st := OutSt.more (Hgr.out i o (Nat.le_refl _) Ho.out) q18 q28 q38 rr p9 c9
          clear q18 q28 q38 rr p9 c9
          go_roundg (os.length - (i + 1))
          case measure => rw [Hgk.out]; omega
          case rel => exact ⟨i + 1, rfl, by omega, by go_num, .inr ⟨by omega, rfl, st⟩⟩
      · obtain ⟨b, off, c', t, e1, c0, c1, c2, rr⟩ := HO.out _ q3 i o Ho.out
        simp only [Value.slice.injEq] at e1
        obtain ⟨rfl, -, rfl⟩ := e1
        obtain ⟨av, cv, rfl, s5, s6, -, -⟩ := q1.shape
        unfold maxLen at s6
        have hat := Hgr.out i o (by omega) Ho.out
        have Hat := Lib.hid hat
        clear hat
        go_wp2_with first
          | (at_builtin
             refine wpRow_appendRec slHeld _ _ rfl rfl (.slice av (i + 1) cv) (i + 1) us [.int .i64 o.id, t, .int .i64 o.uses] 47 rfl q1 rfl (Reads.one rr) rfl (by omega) (by decide) ?_
             intro v8 w8 p8 c8)
          | fail
        have st := OutSt.more Hat.out q1 q2 q3 rr p8 c8
        clear q1 q2 q3 rr p8 c8
        go_roundg (os.length - (i + 1))
        case measure => rw [Hgk.out]; omega
        case rel => exact ⟨i + 1, rfl, by omega, by go_num, .inr ⟨by omega, rfl, st⟩⟩
    · have hfin : ∀ W v, OutSt w7 w.heap.size (os.length + 1) hs' W v → Helds (fun j => w.heap.size ≤ j) W v hs' ∧ New w W := fun W v ⟨us, q1, q2, q3, q4⟩ => by
        rw [List.take_of_length_le (by rw [Hil.out]; omega)] at q2
        have hr := q2.recs q1
        have hl := Hil.out
        rw [← hl] at hr
        refine ⟨Recs.mono hr (fun j _ hj => by have := nw7.size; omega), nw7.trans_chg q3 (fun j hj e => by omega)⟩
      have Hfin := Lib.hid hfin
      clear hfin
      rcases hcase with ⟨hip, rfl, us, q1, q2, q3, q4⟩ | ⟨hip, rfl, st⟩
      · obtain rfl : i = p := by omega
        obtain ⟨av, cv, rfl, s5, s6, -, -⟩ := q1.shape
        unfold maxLen at s6
        obtain ⟨x0, x1, x2, xr⟩ := HX.out _ q3
        go_wp2_with first
          | (at_builtin
             refine wpRow_appendRec slHeld _ _ rfl rfl (.slice av i cv) i us [.int .i64 fk, .slice a5 xs.length d5, .int .i64 1] 47 rfl q1 rfl (Reads.one xr) rfl (by omega) (by decide) ?_
             intro v8 w8 p8 c8)
          | fail
        have st := OutSt.more Hgx.out q1 q2 q3 xr p8 c8
        rw [show i + 1 = os.length + 1 by omega] at st
        obtain ⟨f1, f2⟩ := Hfin.out _ _ st
        go_ret
        exact ⟨_, rfl, f1, f2⟩
      · rw [show i + 1 = os.length + 1 by omega] at st
        obtain ⟨f1, f2⟩ := Hfin.out _ _ st
        go_wp2_with fail
        go_ret
        exact ⟨_, rfl, f1, f2⟩
end Go.Proofs.YtipligidnoajfaaDoor
