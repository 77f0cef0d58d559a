/- Holds: the statements' helpers szHoldS, eqHoldS, toHold, toHoldS. -/
import Derived.Test.YtapobonfnjgnoaaHold
import Derived.Test.YtapobonfnjgnoaaInts
import Derived.Deep.LoopGhost
import Derived.StillTailTactics
namespace Go.Proofs.Ytapobonfnjgnoaa
open Go.RowKit

def holdFlds (os : List HoldR) : List Fld := os.flatMap HoldR.flds
/-- a slice that reads as holds -/
def Holds (S : Nat → Prop) (w : World) (v : Value) (os : List HoldR) : Prop := Recs 2 S w v os.length (holdFlds os)
def OwnHolds (S : Nat → Prop) (w : World) (v : Value) (os : List HoldR) : Prop := OwnRecs 25 2 S w v os.length (holdFlds os)
theorem Holds.at {S : Nat → Prop} {w : World} {v : Value} {os : List HoldR} (h : Holds S w v os) {i : Nat} {o : HoldR} (ho : os[i]? = some o) :
    ∃ b off c, v = .slice (some ⟨b, off, none⟩) os.length c ∧ b < w.heap.size ∧ w.cell? ⟨b, off + i * 2, none⟩ = some (txt o.snap) ∧ w.cell? ⟨b, off + i * 2 + 1, none⟩ = some (txt o.tag) ∧ o.snap.length ≤ maxLen ∧ o.tag.length ≤ maxLen := by
  obtain ⟨b, off, c, rfl, hS, hb, hc⟩ := h.head (by have := (List.getElem?_eq_some_iff.1 ho).1; omega)
  have g := fun j hj => flds_get HoldR.flds 2 (fun _ => rfl) os (j := j) ho hj
  obtain ⟨u0, c0, r0, l0⟩ := hc (i * 2 + 0) (.txt o.snap) (g 0 (by omega))
  obtain ⟨u1, c1, r1, l1⟩ := hc (i * 2 + 1) (.txt o.tag) (g 1 (by omega))
  subst r0 r1
  exact ⟨b, off, c, rfl, hb, c0, c1, l0, l1⟩

def SzPostH (os : List HoldR) (w : World) (e : Ending) (w' : World) : Prop :=
  ∃ r : Int, e = .returned (.int .i64 r) ∧ r ≤ 1048576 ∧ (0 ≤ r → os.length ≤ 1048576 ∧ ∀ o ∈ os, o.size ≤ 1048576) ∧ New w w'

set_option maxRecDepth 4000 in
set_option maxHeartbeats 400000 in
theorem szHolds {S : Nat → Prop} (v : Value) (os : List HoldR) (w : World) (h : Holds S w v os) :
    Calls Try.prog 23 #[v, .int .i64 1048576] w (SzPostH os w) := by
  have h0 := h
  obtain ⟨-, a, c, rfl, h1, h2, -⟩ := h
  unfold maxLen at h2
  by_cases hl : 1048576 < os.length
  · have h5 : (1048576 : Int) - (os.length : Int) < 0 := by omega
    go_enter Try.func23, Try.ntmps23
    go_wp2
    go_ret
    exact ⟨-1, rfl, by omega, fun h => by omega, New.refl _⟩
  · have h5 : ¬ ((1048576 : Int) - (os.length : Int) < 0) := by omega
    have hat := fun (W : World) (n : New w W) (k : Nat) (o : HoldR) (ho : os[k]? = some o) => Holds.at (Recs.new h0 n) ho
    have Hat := Lib.hid hat
    clear hat
    go_enter Try.func23, Try.ntmps23
    go_wp2
    go_loopg [1, 5] os.length (fun gk s1 s5 wr => ∃ (k : Nat) (r : Int), gk = os.length - k ∧ k ≤ os.length ∧ s5 = .int .i64 k ∧ s1 = .int .i64 r ∧ 0 ≤ r ∧ r ≤ 1048576 ∧ (∀ o ∈ os.take k, o.size ≤ 1048576) ∧ New w wr)
    case atStart => exact ⟨0, 1048576 - os.length, by omega, by omega, rfl, rfl, by omega, by omega, by simp, New.refl _⟩
    case round =>
      obtain ⟨k, r, hgk, hk, rfl, rfl, hr0, hr1, hall, hn⟩ := hrel
      have Hgk := Lib.hid hgk
      have Hall := Lib.hid hall
      clear hgk hall
      by_cases hlt : k < os.length
      · obtain ⟨o, ho⟩ := get_of hlt
        obtain ⟨b, off, c', e1, hb, c0, c1, i0, i1⟩ := Hat.out wr hn k o ho
        simp only [Value.slice.injEq] at e1
        obtain ⟨rfl, -, rfl⟩ := e1
        have hsz := szHold o r wr i0 i1 hr0 hr1
        unfold txt at c0 c1 hsz
        have Hsz := Lib.hid hsz
        have Ho := Lib.hid ho
        clear hsz ho
        go_wp2_with fail
        refine Hsz.out.mono ?_
        by_cases hb1 : r < o.size
        · rw [if_pos hb1]
          rintro e w1 ⟨rfl, n1⟩
          go_wp2_with fail
          go_ret
          exact ⟨-1, rfl, by omega, fun h => by omega, hn.trans n1⟩
        · rw [if_neg hb1]
          rintro e w1 ⟨rfl, n1⟩
          have hge : ¬ (r - (o.size : Int) < 0) := by omega
          have hos : o.size ≤ 1048576 := by omega
          go_wp2_with fail
          go_roundg (os.length - (k + 1))
          case measure => rw [Hgk.out]; omega
          case rel =>
            refine ⟨k + 1, r - o.size, rfl, by omega, by go_num, rfl, by omega, by omega, fun x hx => ?_, hn.trans n1⟩
            rw [List.take_succ_eq_append_getElem hlt, List.mem_append, List.mem_singleton] at hx
            rcases hx with hx | rfl
            · exact Hall.out x hx
            · have := (List.getElem?_eq_some_iff.1 Ho.out).2
              rw [this]; exact hos
      · go_wp2_with fail
        go_ret
        refine ⟨r, rfl, hr1, fun _ => ⟨by omega, fun o ho => ?_⟩, hn⟩
        have := Hall.out
        rw [List.take_of_length_le (by omega)] at this
        exact this o ho

def eqLs (α : Type) [DecidableEq α] : List α → List α → Bool
  | x :: xs, y :: ys => if x = y then eqLs α xs ys else false
  | [], _ => true
  | _ :: _, [] => true
theorem eqLs_is {α : Type} [DecidableEq α] : ∀ (xs ys : List α), xs.length = ys.length → eqLs α xs ys = decide (xs = ys)
  | [], [], _ => by simp [eqLs]
  | x :: xs, y :: ys, h => by
    rw [eqLs, eqLs_is xs ys (by simpa using h)]
    by_cases e : x = y <;> simp [e]

set_option maxRecDepth 4000 in
set_option maxHeartbeats 400000 in
theorem eqHolds {S T : Nat → Prop} (v u : Value) (xs ys : List HoldR) (w : World) (h : Holds S w v xs) (g : Holds T w u ys) :
    Calls Try.prog 27 #[v, u] w fun e w' => e = .returned (.bool (decide (xs = ys))) ∧ New w w' := by
  have h0 := h
  have g0 := g
  obtain ⟨-, a, c, rfl, h1, h2, -⟩ := h
  obtain ⟨-, a', c', rfl, g1, g2, -⟩ := g
  unfold maxLen at h2 g2
  by_cases hl : xs.length = ys.length
  · have e0 := eqLs_is xs ys hl
    have E0 := Lib.hid e0
    have hne : (((xs.length : Int) != (ys.length : Int))) = false := by simp [hl]
    have Hl := Lib.hid hl
    have hat := fun (W : World) (n : New w W) (k : Nat) (o : HoldR) (ho : xs[k]? = some o) => Holds.at (Recs.new h0 n) ho
    have gat := fun (W : World) (n : New w W) (k : Nat) (o : HoldR) (ho : ys[k]? = some o) => Holds.at (Recs.new g0 n) ho
    have Hat := Lib.hid hat
    have Gat := Lib.hid gat
    clear e0 hl hat gat
    go_enter Try.func27, Try.ntmps27
    go_wp2
    go_loopg [5] xs.length (fun gk i wr => ∃ (k : Nat), gk = xs.length - k ∧ k ≤ xs.length ∧ i = .int .i64 k ∧ New w wr ∧ eqLs HoldR xs ys = eqLs HoldR (xs.drop k) (ys.drop k))
    case atStart => exact ⟨0, by omega, Nat.zero_le _, rfl, New.refl _, rfl⟩
    case round =>
      obtain ⟨k, hgk, hk, rfl, hw, he⟩ := hrel
      have Hgk := Lib.hid hgk
      have He := Lib.hid he
      clear he hgk
      by_cases hlt : k < xs.length
      · obtain ⟨x, hx⟩ := get_of hlt
        have hlt2 : k < ys.length := by rw [← Hl.out]; exact hlt
        obtain ⟨y, hy⟩ := get_of hlt2
        obtain ⟨b, off, cb, e1, -, c0, c1, -, -⟩ := Hat.out wr hw k x hx
        obtain ⟨b', off', cb', e2, -, d0, d1, -, -⟩ := Gat.out wr hw k y hy
        simp only [Value.slice.injEq] at e1 e2
        obtain ⟨rfl, -, rfl⟩ := e1
        obtain ⟨rfl, -, rfl⟩ := e2
        have Hx := Lib.hid (drop_of hx)
        have Hy := Lib.hid (drop_of hy)
        have n3 : New wr (wr.drewN 1) := (New.refl _).drewN 1
        have hcall := eqHold x y (wr.drewN 1)
        unfold txt at c0 c1 d0 d1 hcall
        have C0 : (wr.drewN 1).cell? ⟨b, off + k * 2, none⟩ = some (.string ⟨x.snap.toArray⟩) := c0
        have C1 : (wr.drewN 1).cell? ⟨b, off + k * 2 + 1, none⟩ = some (.string ⟨x.tag.toArray⟩) := c1
        have D0 : (wr.drewN 1).cell? ⟨b', off' + k * 2, none⟩ = some (.string ⟨y.snap.toArray⟩) := d0
        have D1 : (wr.drewN 1).cell? ⟨b', off' + k * 2 + 1, none⟩ = some (.string ⟨y.tag.toArray⟩) := d1
        have Hcall := Lib.hid hcall
        clear hcall hx hy c0 c1 d0 d1
        by_cases hxy : x = y
        · have hd : decide (x = y) = true := by simp [hxy]
          rw [hd] at Hcall
          have Hxy := Lib.hid hxy
          clear hd hxy
          go_wp2
          refine wp_region_still_tail 8 (by kernel_rfl) (by kernel_rfl) ?_
          simp only [List.take_succ_cons, List.take_zero, List.drop_succ_cons, List.drop_zero]
          change wpStill _ _ (wr.drewN 1) (fun a' => wpList _ _ _ _ a' (wr.drewN 1)) _ _
          generalize hw3 : wr.drewN 1 = w3 at *
          have Hw3 := Lib.hid hw3
          clear hw3
          iterate 8 still_step
          refine wpStill_nil ?_
          go_wp2_with fail
          refine Hcall.out.mono ?_
          rintro e w4 ⟨rfl, n4⟩
          go_wp2_with fail
          go_roundg (xs.length - (k + 1))
          case measure => rw [Hgk.out]; omega
          case rel => exact ⟨k + 1, rfl, by omega, by go_num, (hw.trans n3).trans n4, by rw [He.out, Hx.out, Hy.out, eqLs, if_pos Hxy.out]⟩
        · have hd : decide (x = y) = false := by simp [hxy]
          rw [hd] at Hcall
          have Hxy := Lib.hid hxy
          clear hd hxy
          go_wp2
          refine wp_region_still_tail 8 (by kernel_rfl) (by kernel_rfl) ?_
          simp only [List.take_succ_cons, List.take_zero, List.drop_succ_cons, List.drop_zero]
          change wpStill _ _ (wr.drewN 1) (fun a' => wpList _ _ _ _ a' (wr.drewN 1)) _ _
          generalize hw3 : wr.drewN 1 = w3 at *
          have Hw3 := Lib.hid hw3
          clear hw3
          iterate 8 still_step
          refine wpStill_nil ?_
          go_wp2_with fail
          refine Hcall.out.mono ?_
          rintro e w4 ⟨rfl, n4⟩
          go_wp2_with fail
          go_ret
          exact ⟨ret_bool (by rw [← E0.out, He.out, Hx.out, Hy.out, eqLs, if_neg Hxy.out]), (hw.trans n3).trans n4⟩
      · go_wp2
        go_ret
        exact ⟨ret_bool (by rw [← E0.out, He.out, drop_end hlt]; simp [eqLs]), hw⟩
  · have hne : (((xs.length : Int) != (ys.length : Int))) = true := by simp; omega
    have Hl := Lib.hid hl
    clear hl
    go_enter Try.func27, Try.ntmps27
    go_wp2
    go_ret
    exact ⟨ret_bool (by simp; intro e; exact Hl.out (by rw [e])), New.refl _⟩

theorem set2H (w : World) (gb : Nat) (x y : Value) : Chg (fun k => k = gb) w ((w.setCell ⟨gb, 0, none⟩ x).setCell ⟨gb, 1, none⟩ y) :=
  ((Chg.refl (fun k => k = gb) w).setCell (a := ⟨gb, 0, none⟩) x (fun _ => rfl)).setCell (a := ⟨gb, 1, none⟩) y (fun _ => rfl)

set_option maxRecDepth 4000 in
set_option maxHeartbeats 400000 in
theorem toHold (o : HoldR) (w : World) :
    Calls Try.prog 26 #[.agg #[txt o.snap, txt o.tag]] w fun e w' => e = .returned (.agg #[txt o.snap, txt o.tag]) ∧ New w w' := by
  unfold txt
  have hb : ∀ A B C : Obj, (((w.alloc A).alloc B).alloc C).heap[w.heap.size + 1]? = some B := by
    intro A B C
    have h := heap_alloc_new (w.alloc A) B
    have h3 := ((New.refl ((w.alloc A).alloc B)).alloc C).heap h
    simpa using h3
  have Hb := Lib.hid hb
  clear hb
  go_enter Try.func26, Try.ntmps26
  go_wp2_with fail
  have N1 := Lib.hid ((((New.refl w).alloc (.cells #[.string ⟨o.snap.toArray⟩, .string ⟨o.tag.toArray⟩] 39)).alloc (.cells #[.string ⟨o.snap.toArray⟩, .string ⟨o.tag.toArray⟩] 25)).alloc (.cells #[.string ⟨o.snap.toArray⟩, .string ⟨o.tag.toArray⟩] 25))
  have hb1 := Hb.out (.cells #[.string ⟨o.snap.toArray⟩, .string ⟨o.tag.toArray⟩] 39) (.cells #[.string ⟨o.snap.toArray⟩, .string ⟨o.tag.toArray⟩] 25) (.cells #[.string ⟨o.snap.toArray⟩, .string ⟨o.tag.toArray⟩] 25)
  generalize ((w.alloc (.cells #[.string ⟨o.snap.toArray⟩, .string ⟨o.tag.toArray⟩] 39)).alloc (.cells #[.string ⟨o.snap.toArray⟩, .string ⟨o.tag.toArray⟩] 25)).alloc (.cells #[.string ⟨o.snap.toArray⟩, .string ⟨o.tag.toArray⟩] 25) = w1 at *
  have c10 : w1.cell? ⟨w.heap.size + 1, 0, none⟩ = some (.string ⟨o.snap.toArray⟩) := by simp [World.cell?, hb1]
  have c11 : w1.cell? ⟨w.heap.size + 1, 1, none⟩ = some (.string ⟨o.tag.toArray⟩) := by simp [World.cell?, hb1]
  exact bodyPost_ret (v := .agg #[.string ⟨o.snap.toArray⟩, .string ⟨o.tag.toArray⟩]) (by simp [results, Try.results26, go_sem, c10, c11]) rfl ⟨rfl, N1.out⟩

theorem slHold : SliceOf Try.prog 23 25 (.agg #[.string ByteArray.empty, .string ByteArray.empty]) 2 32 := by refine ⟨by kernel_rfl, by kernel_rfl, rfl, by decide⟩

def ToHoldsPost (os : List HoldR) (w : World) (e : Ending) (w' : World) : Prop :=
  ∃ v, e = .returned v ∧ OwnHolds (fun j => w.heap.size ≤ j) w' v os ∧ New w w'

set_option maxRecDepth 4000 in
set_option maxHeartbeats 400000 in
theorem toHolds {S : Nat → Prop} (v : Value) (os : List HoldR) (w : World) (h : Holds S w v os) (hl : os.length ≤ 1048576) :
    Calls Try.prog 25 #[v] w (ToHoldsPost os w) := by
  have h0 := h
  obtain ⟨-, a, c, rfl, h1, h2, -⟩ := h
  unfold maxLen at h2
  have hat := fun (W : World) (n : New w W) (k : Nat) (o : HoldR) (ho : os[k]? = some o) => Holds.at (Recs.new h0 n) ho
  have Hat := Lib.hid hat
  clear hat
  go_enter Try.func25, Try.ntmps25
  go_wp2_with (at_make; refine wpRow_make slHold _ _ rfl rfl .i64 .i64 os.length rfl rfl (by omega) (by unfold maxLen; omega) ?_; intro w1 hrow hn1 hlt1)
  go_loopg [4] os.length (fun gk i wr => ∃ (k : Nat) (us : List Value), gk = os.length - k ∧ k ≤ os.length ∧ i = .int .i64 k ∧ us.length = os.length * 2 ∧ New w wr ∧ Row 25 2 (fun j => j = w.heap.size) wr (.slice (some ⟨w.heap.size, 0, none⟩) os.length os.length) os.length us ∧
    Fields (fun j => w.heap.size < j) wr (us.take (k * 2)) (holdFlds (os.take k)))
  case atStart => exact ⟨0, _, by omega, by omega, rfl, by simpa using hrow.1.1, hn1, hrow, by simp [holdFlds, Fields]⟩
  case round =>
    obtain ⟨k, us, hgk, hk, rfl, hul, hn, hr, hf⟩ := hrel
    have Hgk := Lib.hid hgk
    have Hul := Lib.hid hul
    clear hgk hul
    by_cases hlt : k < os.length
    · obtain ⟨o, ho⟩ := get_of hlt
      obtain ⟨b, off, c', e1, hb, c0, c1, l0, l1⟩ := Hat.out wr hn k o ho
      simp only [Value.slice.injEq] at e1
      obtain ⟨rfl, -, rfl⟩ := e1
      have htake : os.take (k + 1) = os.take k ++ [o] := by
        obtain ⟨hk', e⟩ := List.getElem?_eq_some_iff.1 ho
        rw [List.take_succ_eq_append_getElem hk', e]
      have Htake := Lib.hid htake
      have hcall := toHold o wr
      unfold txt at c0 c1 hcall
      have Hcall := Lib.hid hcall
      have hix : ∀ j, j < 2 → k * 2 + j < us.length := fun j hj => by rw [Hul.out]; omega
      have Hix := Lib.hid hix
      clear hcall ho htake hix
      go_wp2_with fail
      refine Hcall.out.mono ?_
      rintro e w2 ⟨rfl, n2⟩
      have hr2 := hr.new n2
      obtain ⟨x0, hx0⟩ := get_of (Hix.out 0 (by omega))
      obtain ⟨x1, hx1⟩ := get_of (Hix.out 1 (by omega))
      have g0 := hr2.cellAt hx0
      have g1 := hr2.cellAt hx1
      have f0 := hr2.frozenAt (k * 2)
      have f1 := hr2.frozenAt (k * 2 + 1)
      rw [Nat.add_zero] at g0
      have hf2' := (hf.old).new n2
      have hnn := hn.trans n2
      have hsz := hn.size
      have hsz2 := n2.size
      have hposr : w.heap.size < wr.heap.size := hr.lt w.heap.size rfl
      clear hx0 hx1 hr hf
      go_wp2_with fail
      have hr3 := (hr2.set (k * 2) (.string ⟨o.snap.toArray⟩)).set (k * 2 + 1) (.string ⟨o.tag.toArray⟩)
      have cs := chg_set2 w2 w.heap.size (k * 2) (k * 2 + 1) (.string ⟨o.snap.toArray⟩) (.string ⟨o.tag.toArray⟩)
      go_roundg (os.length - (k + 1))
      case measure => rw [Hgk.out]; omega
      case rel =>
        refine ⟨k + 1, _, rfl, by omega, by go_num, by simp [Hul.out], hnn.trans_chg cs (fun j hj hh => by omega), hr3, ?_⟩
        have e3 : (k + 1) * 2 = k * 2 + 2 := by omega
        rw [e3, take_set2 (Hix.out 1 (by omega)), Htake.out]
        unfold holdFlds
        rw [List.flatMap_append]
        have f1 : Fields (fun j => wr.heap.size ≤ j) w2 [.string ⟨o.snap.toArray⟩, .string ⟨o.tag.toArray⟩] o.flds := ⟨⟨rfl, l0⟩, ⟨rfl, l1⟩, trivial⟩
        have f2 := Fields.append f1 hf2' (fun j hj hT => by omega)
        refine (f2.chg cs (fun j _ hj hh => by rcases hj with hj | hj <;> omega)).mono (fun j _ hj => by rcases hj with hj | hj <;> omega)
    · go_wp2_with fail
      go_ret
      have hf' := hf
      rw [List.take_of_length_le (by rw [Hul.out]; omega), List.take_of_length_le (by omega)] at hf'
      exact ⟨_, rfl, ⟨us, hr.mono (fun j _ hj => by omega), hf'.mono (fun j _ hj => ⟨by omega, by simp [Value.ownBlock]; omega⟩)⟩, hn⟩

end Go.Proofs.Ytapobonfnjgnoaa
