/- The reference's store: l3At, l3Copy; StoreKeep and StoreDrop on lists. -/
import Derived.Test.YtipligidnoajfaaDoorStoreList
namespace Go.Proofs.YtipligidnoajfaaDoor
open Go.RowKit

def atH (k : Int) (os : List HeldR) : Option Nat := os.findIdx? (fun o => decide (o.id = k))
theorem atH_none {k : Int} {os : List HeldR} (h : ∀ o ∈ os, o.id ≠ k) : atH k os = none := by
  rw [atH, List.findIdx?_eq_none_iff]
  intro o ho
  simpa using h o ho
theorem atH_first {k : Int} {os : List HeldR} {j : Nat} {o : HeldR} (ho : os[j]? = some o) (hk : o.id = k) (hf : ∀ q, q < j → ∀ x, os[q]? = some x → x.id ≠ k) : atH k os = some j := by
  obtain ⟨hj, rfl⟩ := List.getElem?_eq_some_iff.1 ho
  rw [atH, List.findIdx?_eq_some_iff_getElem]
  refine ⟨hj, by simpa using hk, fun q hq => ?_⟩
  simpa using hf q hq _ (List.getElem?_eq_getElem (by omega))
theorem atH_cases (k : Int) (os : List HeldR) : (atH k os = none ∧ ∀ o ∈ os, o.id ≠ k) ∨ ∃ i o, atH k os = some i ∧ os[i]? = some o ∧ o.id = k := by
  rcases h : atH k os with _ | i
  · refine .inl ⟨rfl, fun o ho => ?_⟩
    have := List.findIdx?_eq_none_iff.1 h o ho
    simpa using this
  · obtain ⟨hi, hp, _⟩ := List.findIdx?_eq_some_iff_getElem.1 h
    exact .inr ⟨i, _, rfl, List.getElem?_eq_getElem hi, by simpa using hp⟩
def placeOf : Option Nat → Int
  | some i => i
  | none => -1

def keepH (k : Int) (os : List HeldR) : Option (List HeldR) :=
  if storeOk os = true then
    match atH k os with
    | none => none
    | some i => match os[i]? with
      | none => none
      | some o => if o.uses = 999 then none else some (os.set i { o with uses := o.uses + 1 })
  else none
def dropH (k : Int) (os : List HeldR) : Option (List HeldR) :=
  if storeOk os = true then
    match atH k os with
    | none => none
    | some i => match os[i]? with
      | none => none
      | some o => if o.uses = 1 then some (os.take i ++ os.drop (i + 1)) else some (os.set i { o with uses := o.uses - 1 })
  else none

set_option maxRecDepth 4000 in
set_option maxHeartbeats 1000000 in
theorem specAt {S : Nat → Prop} (v : Value) (os : List HeldR) (k : Int) (w : World) (h : Helds S w v os) :
    Calls Tryd.prog 37 #[v, .int .i64 k] w fun e w' => e = .returned (.int .i64 (placeOf (atH k os))) ∧ w = w' := by
  have h0 := h
  obtain ⟨-, a, c, rfl, h1, h2, -⟩ := h
  unfold maxLen at h2
  have hat := fun (j : Nat) (o : HeldR) (ho : os[j]? = some o) => Helds.at h0 ho
  have Hat := Lib.hid hat
  clear hat
  go_enter Tryd.func37, Tryd.ntmps37
  go_wp2
  go_loopg [5] os.length (fun gk i wr => ∃ (j : Nat), gk = os.length - j ∧ j ≤ os.length ∧ i = .int .i64 j ∧ w = wr ∧ ∀ q, q < j → ∀ x, os[q]? = some x → x.id ≠ k)
  case atStart => exact ⟨0, by omega, Nat.zero_le _, rfl, rfl, fun q hq => by omega⟩
  case round =>
    obtain ⟨j, hgk, hj, rfl, rfl, hf⟩ := hrel
    have Hgk := Lib.hid hgk
    have Hf := Lib.hid hf
    clear hgk hf
    by_cases hlt : j < os.length
    · obtain ⟨o, ho⟩ := get_of hlt
      obtain ⟨b, off, c', u, e1, hb, c0, c1, c2, i0, i2, r2⟩ := Hat.out j o ho
      simp only [Value.slice.injEq] at e1
      obtain ⟨rfl, -, rfl⟩ := e1
      have Ho := Lib.hid ho
      clear ho
      by_cases hk : o.id = k
      · have ha := atH_first Ho.out hk Hf.out
        have Ha := Lib.hid ha
        subst hk
        clear ha
        go_wp2_with fail
        go_ret
        exact ⟨ret_int (by rw [Ha.out]; rfl), rfl⟩
      · have hb2 : (o.id == k) = false := by simpa using hk
        have Hk := Lib.hid hk
        clear hk
        go_wp2_with fail
        go_roundg (os.length - (j + 1))
        case measure => rw [Hgk.out]; omega
        case rel =>
          refine ⟨j + 1, rfl, by omega, by go_num, rfl, fun q hq x hx => ?_⟩
          rcases Nat.lt_or_ge q j with h | h
          · exact Hf.out q h x hx
          · obtain rfl : q = j := by omega
            rw [Ho.out] at hx
            obtain rfl := Option.some.inj hx
            exact Hk.out
    · have ha : atH k os = none := atH_none fun o ho => by
        obtain ⟨q, hq, rfl⟩ := List.mem_iff_getElem.1 ho
        exact Hf.out q (by omega) _ (List.getElem?_eq_getElem hq)
      have Ha := Lib.hid ha
      clear ha
      go_wp2_with fail
      go_ret
      exact ⟨ret_int (by rw [Ha.out]; rfl), rfl⟩

set_option maxRecDepth 4000 in
set_option maxHeartbeats 1000000 in
theorem specCopy {S : Nat → Prop} (v : Value) (os : List HeldR) (w : World) (h : Helds S w v os) (hl : os.length ≤ 16) (hall : ∀ o ∈ os, o.bytes.length ≤ 8) :
    Calls Tryd.prog 47 #[v] w (ToHeldsPost os w) := by
  have h0 := h
  obtain ⟨-, a, c, rfl, h1, h2, -⟩ := h
  unfold maxLen at h2
  have hat := fun (W : World) (n : New w W) (j : Nat) (o : HeldR) (ho : os[j]? = some o) => Helds.at (Recs.new h0 n) ho
  have Hat := Lib.hid hat
  have Hall := Lib.hid hall
  have hn1 := (New.refl w).alloc (.cells #[] 47)
  have hr1 := OwnRecs.empty 47 3 w
  have hlt1 : w.heap.size < (w.alloc (.cells #[] 47)).heap.size := by simp
  clear hat hall
  go_enter Tryd.func47, Tryd.ntmps47
  go_wp2_with fail
  generalize w.alloc (.cells #[] 47) = w1 at *
  go_loopg [3, 4] os.length (fun gk v i wr => ∃ (k : Nat), gk = os.length - k ∧ k ≤ os.length ∧ i = .int .i64 k ∧ New w wr ∧ OwnHelds (fun j => w.heap.size ≤ j) wr v (os.take k))
  case atStart => exact ⟨0, by omega, Nat.zero_le _, rfl, hn1, hr1⟩
  case round =>
    obtain ⟨k, hgk, hk, rfl, hn, ol⟩ := hrel
    have Hgk := Lib.hid hgk
    clear hgk hr1
    by_cases hlt : k < os.length
    · obtain ⟨o, ho⟩ := get_of hlt
      obtain ⟨b, off, c', u, e1, hb, c0, c1, c2, i0, i2, r2⟩ := Hat.out wr hn k o ho
      simp only [Value.slice.injEq] at e1
      obtain ⟨rfl, -, rfl⟩ := e1
      have hos := Hall.out o (List.mem_of_getElem? ho)
      have htake : os.take (k + 1) = os.take k ++ [o] := by
        obtain ⟨hk', e⟩ := List.getElem?_eq_some_iff.1 ho
        rw [List.take_succ_eq_append_getElem hk', e]
      have Htake := Lib.hid htake
      have hlk : (os.take k).length = k := by simp; omega
      obtain ⟨us, r1, q2⟩ := OwnRecs.old ol
      rw [hlk] at r1
      have hv : ∀ j, u3.ownBlock = some j → (w.heap.size ≤ j) ∧ j < wr.heap.size := fun j e => r1.2 j e
      obtain ⟨av, cv, ev, x1, x2, -, -⟩ := r1.shape
      unfold maxLen at x2
      subst ev
      have R2 := Lib.hid r2
      obtain ⟨au, cu, rfl, u1, ⟨u2, -⟩, ufit, -⟩ := r2
      have Ufit := Lib.hid ufit
      clear ufit
      unfold maxLen at u2
      have b0 := heap_alloc_new wr (.cells #[.int .i64 o.id, .slice au o.bytes.length cu, .int .i64 o.uses] 47)
      have nb : New wr (wr.alloc (.cells #[.int .i64 o.id, .slice au o.bytes.length cu, .int .i64 o.uses] 47)) := (New.refl wr).alloc _
      have zb : (wr.alloc (.cells #[.int .i64 o.id, .slice au o.bytes.length cu, .int .i64 o.uses] 47)).heap.size = wr.heap.size + 1 := by simp
      have Nb := Lib.hid nb
      have Zb := Lib.hid zb
      have B0 := Lib.hid b0
      have tok1 : True := trivial
      clear ho htake ol nb zb b0
      go_wp2_with first
        | (have _t := tok1
           at_builtin
           generalize wr.alloc (.cells #[.int .i64 o.id, .slice au o.bytes.length cu, .int .i64 o.uses] 47) = wb at *
           have he := Row.empty 3 1 wb
           rw [Zb.out] at he
           refine wpRow_append slInt _ _ rfl rfl (.slice (some ⟨wr.heap.size + 1, 0, none⟩) 0 0) 0 [] rfl he au o.bytes.length cu (o.bytes.map (Value.int .i64)) rfl (Nums.src ((R2.out.new Nb.out).new ((New.refl wb).alloc _))) (oneCells _ _) ?_ ?_ ?_
           · unfold maxLen; omega
           · omega
           intro v5 w5 o5 c5
           have n5 : New wb w5 := ((New.refl wb).alloc _).trans_chg c5 (fun j hj e => by have e' := own_some e; simp only at e'; have := Zb.out; omega)
           have b5 := n5.heap B0.out
           have k0 : w5.cell? ⟨wr.heap.size, 0, none⟩ = some (.int .i64 o.id) := by simp [World.cell?, b5]
           have k1 : w5.cell? ⟨wr.heap.size, 1, none⟩ = some (.slice au o.bytes.length cu) := by simp [World.cell?, b5]
           have k2 : w5.cell? ⟨wr.heap.size, 2, none⟩ = some (.int .i64 o.uses) := by simp [World.cell?, b5]
           have k3 : w5.frozen? ⟨wr.heap.size, 1, none⟩ = false := by simp [World.frozen?, b5]
           rw [Nat.zero_add, List.nil_append] at o5
           obtain ⟨a5, d5, rfl, s51, s52, -, -⟩ := o5.shape
           have nw5 := Nb.out.trans n5
           have c6 := chg_set1 w5 wr.heap.size 1 (.slice a5 o.bytes.length d5)
           have r6 := (r1.new nw5).chg c6 (fun j hj hs e => by have := hs.2; omega)
           have q6 := (q2.new nw5).chg c6 (fun j hj hs e => by have := hs.1.2; omega)
           have o6 : OwnInts 3 (fun j => wr.heap.size + 1 ≤ j) (w5.setCell ⟨wr.heap.size, 1, none⟩ (.slice a5 o.bytes.length d5)) (.slice a5 o.bytes.length d5) o.bytes := by
             refine ⟨?_, Ufit.out⟩
             refine (o5.mono (T := fun j => wr.heap.size + 1 ≤ j) (fun j _ hj => ?_)).chg c6 (fun j hj hs e => by omega)
             rcases hj with hj | hj
             · have e' := own_some hj; simp only at e'; omega
             · have := Zb.out; simp at hj; omega
           clear he tok1 _t b5 o5 r1 q2 c5)
        | (at_builtin
           refine wpRow_appendRec slHeld _ _ rfl rfl (.slice av k cv) k us [.int .i64 o.id, .slice a5 o.bytes.length d5, .int .i64 o.uses] 47 rfl r6 rfl (by intro u hu; simp at hu; rcases hu with rfl | rfl | rfl <;> rfl) (by rw [show (w5.setCell ⟨wr.heap.size, 1, none⟩ (.slice a5 o.bytes.length d5)).heap.size = w5.heap.size by simp]; rfl) (by omega) (by decide) ?_
           intro v7 w7 p7 c7)
      have z5 := n5.size
      have z6 : (w5.setCell ⟨wr.heap.size, 1, none⟩ (.slice a5 o.bytes.length d5)).heap.size = w5.heap.size := by simp
      have zb := Zb.out
      have ft : Fields (fun j => wr.heap.size + 1 ≤ j) (w5.setCell ⟨wr.heap.size, 1, none⟩ (.slice a5 o.bytes.length d5)) [.int .i64 o.id, .slice a5 o.bytes.length d5, .int .i64 o.uses] o.flds := ⟨⟨rfl, i0⟩, (OwnI.of o6).mono (fun j _ hj => ⟨hj, by simp [blk]⟩), ⟨rfl, i2⟩, trivial⟩
      have os' := OwnRecs.snoc (S := fun j => w.heap.size ≤ j ∧ j < wr.heap.size) (T := fun j => wr.heap.size + 1 ≤ j) q6 ft p7 c7 (fun j hj => ⟨hv j hj, by have := (hv j hj).2; omega⟩) (fun j hj hT => by have := hj.2; omega)
      have hz := hn.size
      have n7 : New w w7 := ((hn.trans nw5).trans_chg c6 (fun j hj e => by omega)).trans_chg c7 (fun j hj e => by have := (hv j e).1; omega)
      have ol7 : OwnHelds (fun j => w.heap.size ≤ j) w7 v7 (os.take (k + 1)) := by
        unfold OwnHelds heldFlds
        rw [Htake.out, List.length_append, List.flatMap_append, hlk]
        have e1 : List.flatMap HeldR.flds [o] = o.flds := by simp
        rw [e1]
        exact OwnRecs.mono os' (fun j hj hh => by rcases hh with hh | hh | hh <;> omega)
      clear os' ft q6 p7 o6 c7 c6 nw5 r6
      go_roundg (os.length - (k + 1))
      case measure => rw [Hgk.out]; omega
      case rel => exact ⟨k + 1, rfl, by omega, by go_num, n7, ol7⟩
    · go_wp2_with fail
      go_ret
      rw [List.take_of_length_le (by omega)] at ol
      exact ⟨_, rfl, ol, hn⟩
end Go.Proofs.YtipligidnoajfaaDoor
