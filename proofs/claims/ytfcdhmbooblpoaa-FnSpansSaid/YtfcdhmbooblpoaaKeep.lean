/- Walks of the program's KeepNewest, KeepSpans, KeepBoth. -/
import Derived.Test.YtfcdhmbooblpoaaConcat
import Derived.Test.YtfcdhmbooblpoaaTv
namespace Go.Proofs.Ytfcdhmbooblpoaa
open Go.RowKit

theorem HeapM.lt {g : Nat} {S : Nat → Prop} {w : World} {hs : List Int} (h : HeapM g S w hs) : g < w.heap.size := by
  obtain ⟨v, h1, _⟩ := h; exact (Array.getElem?_eq_some_iff.1 h1).1
theorem HeapD.bound {g : Nat} {S : Nat → Prop} {w : World} {D : List Int} (h : HeapD g S w D) : HeapD g (fun k => S k ∧ k < w.heap.size) w D ∧ g < w.heap.size := by
  obtain ⟨hs, ⟨v, h1, h2, h3⟩, h4⟩ := h
  exact ⟨⟨hs, ⟨v, h1, h2.mono (fun k hk hs => ⟨hs, hk⟩), fun hg => h3 hg.1⟩, h4⟩, (Array.getElem?_eq_some_iff.1 h1).1⟩
theorem HeapD.cell {g : Nat} {S : Nat → Prop} {w : World} {D : List Int} (h : HeapD g S w D) : ∃ a c, w.cell? ⟨g, 0, none⟩ = some (.slice a D.length c) := by
  obtain ⟨hs, h1, _, h3, _⟩ := h
  obtain ⟨a, c, h⟩ := h1.cell
  exact ⟨a, c, by rw [h, h3.length_eq]⟩
theorem HeapD.i64 {g : Nat} {S : Nat → Prop} {w : World} {D : List Int} (h : HeapD g S w D) : ∀ x ∈ D, I64 x := by
  obtain ⟨hs, ⟨v, _, h2, _⟩, _, h3, _⟩ := h
  exact fun x hx => h2.2 x (h3.symm.subset hx)

theorem lists_one {w : World} {v : Value} {xs : List Int} {S : Nat → Prop} (h : Ints S w v xs) (t : TypeId) : Lists (w.alloc (.cells #[v] t)) w.heap.size [v] [xs] := by
  refine ⟨rfl, fun i u hu => ?_, fun i u ys hu hy => ?_⟩
  · match i, hu with
    | 0, hu => simpa using hu
  · match i, hu, hy with
    | 0, hu, hy =>
      simp at hu hy
      subst hu; subst hy
      exact (h.mono (fun _ _ _ => trivial)).new ((New.refl w).alloc _)
theorem lists_two {w : World} {v u : Value} {xs ys : List Int} {S T : Nat → Prop} (h : Ints S w v xs) (h' : Ints T w u ys) (t : TypeId) : Lists (w.alloc (.cells #[v, u] t)) w.heap.size [v, u] [xs, ys] := by
  refine ⟨rfl, fun i z hz => ?_, fun i z zs hz hy => ?_⟩
  · match i, hz with
    | 0, hz => simpa using hz
    | 1, hz => simpa using hz
  · match i, hz, hy with
    | 0, hz, hy =>
      simp at hz hy
      subst hz; subst hy
      exact (h.mono (fun _ _ _ => trivial)).new ((New.refl w).alloc _)
    | 1, hz, hy =>
      simp at hz hy
      subst hz; subst hy
      exact (h'.mono (fun _ _ _ => trivial)).new ((New.refl w).alloc _)

def lenOf : Value → Nat | .slice _ n _ => n | _ => 0

def manyOk (n : Int) : Bool := decide (0 ≤ n) && decide (n ≤ 20)
set_option maxHeartbeats 400000 in
theorem manyValid (n : Int) (w : World) : Calls Try.prog 36 #[.int .i64 n] w fun e w' => e = .returned (.bool (manyOk n)) ∧ w = w' := by
  go_enter Try.func36, Try.ntmps36
  go_wp2
  all_goals (go_ret; exact ⟨ret_bool (by unfold manyOk; first | (simp_all; done) | (simp_all; omega)), rfl⟩)

def newest (xs : List Int) (many : Int) : List Int := if timesOk xs && manyOk many then ((desc xs).take many.toNat).reverse else []

def Kept (w : World) (ys : List Int) (e : Ending) (w' : World) : Prop := ∃ v, e = .returned v ∧ OwnInts 3 (fun k => w.heap.size ≤ k) w' v ys ∧ New w w'

set_option maxHeartbeats 1000000 in
theorem keepNewest {S : Nat → Prop} (v : Value) (xs : List Int) (many : Int) (w : World) (h : Ints S w v xs) :
    Calls Try.prog 22 #[v, .int .i64 many] w (Kept w (newest xs many)) := by
  have h0 := h
  obtain ⟨a0, c0, rfl, -⟩ := h0
  rcases hr : timesOk xs with _ | _
  · have Hr := Lib.hid hr
    clear hr
    go_enter Try.func22, Try.ntmps22
    go_wp2_with fail
    refine (implTv _ xs _ h).mono ?_
    rw [Hr.out]
    rintro e w1 ⟨rfl, rfl⟩
    go_wp2_with fail
    go_ret
    exact ⟨_, rfl, by rw [newest, Hr.out]; exact OwnNums.nil _ _ _ _, New.refl _⟩
  · have hxl : xs.length ≤ 20 := by simp [timesOk] at hr; exact hr.1
    rcases hmo : manyOk many with _ | _
    · have Hr := Lib.hid hr
      have Hmo := Lib.hid hmo
      clear hr hmo
      go_enter Try.func22, Try.ntmps22
      go_wp2_with fail
      refine (implTv _ xs _ h).mono ?_
      rw [Hr.out]
      rintro e w1 ⟨rfl, rfl⟩
      go_wp2_with fail
      refine (manyValid many _).mono ?_
      rw [Hmo.out]
      rintro e w1 ⟨rfl, rfl⟩
      go_wp2_with fail
      go_ret
      exact ⟨_, rfl, by rw [newest, Hr.out, Hmo.out]; exact OwnNums.nil _ _ _ _, New.refl _⟩
    · have Hr := Lib.hid hr
      have Hmo := Lib.hid hmo
      have hm : 0 ≤ many ∧ many ≤ 20 := by simpa [manyOk] using hmo
      clear hr hmo
      obtain ⟨m, rfl⟩ := Int.eq_ofNat_of_zero_le hm.1
      have hm20 : m ≤ 20 := by omega
      clear hm
      go_enter Try.func22, Try.ntmps22
      go_wp2_with fail
      refine (implTv _ xs _ h).mono ?_
      rw [Hr.out]
      rintro e w1 ⟨rfl, rfl⟩
      go_wp2_with fail
      refine (manyValid m _).mono ?_
      rw [Hmo.out]
      rintro e w1 ⟨rfl, rfl⟩
      go_wp2_with fail
      have hho := heapOf w.heap.size [.slice a0 xs.length c0] [xs] _ (lists_one h 22) (by simp [flat]; omega) (by simp)
      refine hho.mono ?_
      rintro e w1 ⟨g, rfl, hg, hD, n1⟩
      have hga : w.heap.size < g := by simp at hg; omega
      have n01 : New w w1 := ((New.refl w).alloc _).trans n1
      have hfl : flat [xs] = xs := by simp [flat]
      rw [hfl] at hD
      obtain ⟨hD, hgl⟩ := hD.bound
      have hdl : (desc xs).length = xs.length := (desc_perm xs).length_eq
      have Hdl := Lib.hid hdl
      generalize hDD : desc xs = D at hD Hdl ⊢
      have HDD := Lib.hid hDD
      clear hDD
      clear hho n1 hfl hdl
      go_wp2_with fail
      go_loopw [5] (fun kv wr => ∃ (j : Nat), j ≤ D.length ∧ j ≤ m ∧ OwnInts 3 (fun k => w1.heap.size ≤ k) wr kv (D.take j) ∧ HeapD g (fun k => ((w.alloc (.cells #[.slice a0 xs.length c0] 22)).heap.size ≤ k ∧ k ≠ g) ∧ k < w1.heap.size) wr (D.drop j) ∧ New w wr ∧ w1.heap.size ≤ wr.heap.size) (fun kv _ => D.length - lenOf kv)
      case atStart => exact ⟨0, Nat.zero_le _, Nat.zero_le _, OwnNums.nil _ _ _ _, hD, n01, Nat.le_refl _⟩
      case round =>
        obtain ⟨j, hj, hjm, ho, hd, hn, hsz⟩ := hrel
        rename World => wr
        obtain ⟨a, c, hcell⟩ := hd.cell
        obtain ⟨a', c', rfl, k1, k2⟩ := ho.shape
        have hlj : (D.take j).length = j := by simp; omega
        rw [hlj] at ho ⊢
        have hlen := hLen a (D.drop j).length c wr
        have Hlen := Lib.hid hlen
        clear hlen
        by_cases hlt : j < D.length
        · obtain ⟨d, hdj⟩ := get_of hlt
          have hdr := drop_of hdj
          have hd' := hd
          rw [hdr] at hd'
          have hi := hd'.i64 d (by simp)
          have hnx := heapNext g _ d (D.drop (j + 1)) wr hd' (by simp; rw [Hdl.out]; omega)
          have htk : D.take (j + 1) = D.take j ++ [d] := by
            obtain ⟨hk, rfl⟩ := List.getElem?_eq_some_iff.1 hdj
            rw [List.take_succ_eq_append_getElem hk]
          have Hnx := Lib.hid hnx
          have Htk := Lib.hid htk
          have Hlj := Lib.hid hlj
          have hpos : (0 : Int) < ((D.drop j).length : Int) := by simp; omega
          generalize hq : (D.drop j).length = q at hcell Hlen hpos
          have Hq := Lib.hid hq
          clear hdr hdj hd' hnx htk hlj hq
          by_cases hjm' : j < m
          · go_wp2_with fail
            refine Hlen.out.mono ?_
            rintro e w2 ⟨rfl, rfl⟩
            go_wp2_with fail
            refine Hnx.out.mono ?_
            rintro e w3 ⟨rfl, hd3, hc3⟩
            have ho3 := ho.chg hc3 (fun k _ hk e => by omega)
            have hn3 := hn.trans_chg hc3 (fun k hk e => by simp at e; omega)
            go_wp2_with (at_builtin; refine wpNums_append slInt _ _ rfl rfl _ (D.take j) d _ rfl ho3 hi rfl (by rw [Hlj.out]; omega) (by decide) ?_; intro v' w4 ho' hc')
            have hbl := ho3.lt
            have n2 := n01.size
            have hsz3 := hc3.size
            have hsz4 := hc'.size
            have hd4 := hd3.chg hc' (fun e => by have := (hbl g e).2; omega) (fun k _ hk e => by have := (hbl k e).2; omega)
            have ho4 := ho'.mono (T := fun k => w1.heap.size ≤ k) (fun k _ hk => by
              rcases hk with hk | hk
              · exact (hbl k hk).2
              · omega)
            have hn4 := hn3.trans_chg hc' (fun k hk e => by have := (hbl k e).2; omega)
            have hsh := ho'.shape
            go_roundw
            case rel => exact ⟨j + 1, by omega, by omega, by rw [Htk.out]; exact ho4, hd4, hn4, by omega⟩
            case measure =>
              obtain ⟨a5, c5, e5, -⟩ := hsh
              rw [e5]
              simp [lenOf, Hlj.out]
              omega
          · go_wp2_with fail
            refine Hlen.out.mono ?_
            rintro e w2 ⟨rfl, rfl⟩
            go_wp2_with fail
            refine (reverse _ _ _ wr ho (by rw [Hlj.out]; omega)).mono ?_
            rintro e w3 ⟨rfl, ho3, hc3⟩
            go_wp2_with fail
            go_ret
            refine ⟨_, rfl, ?_, hn.trans_chg hc3 (fun k hk e => by have := (ho.lt k e).2; have := n01.size; omega)⟩
            have ejm : j = m := by omega
            have e1 : newest xs (m : Int) = (D.take j).reverse := by rw [newest, Hr.out, Hmo.out, HDD.out, ejm]; rfl
            rw [e1]
            exact ho3.mono fun k _ hk => by have := n01.size; omega
        · have e0 : (D.drop j).length = 0 := by simp; omega
          rw [e0] at hcell Hlen
          have Hlj := Lib.hid hlj
          clear hlj e0
          go_wp2_with fail
          refine Hlen.out.mono ?_
          rintro e w2 ⟨rfl, rfl⟩
          go_wp2_with fail
          refine (reverse _ _ _ wr ho (by rw [Hlj.out]; rw [Hdl.out] at hj; omega)).mono ?_
          rintro e w3 ⟨rfl, ho3, hc3⟩
          go_wp2_with fail
          go_ret
          refine ⟨_, rfl, ?_, hn.trans_chg hc3 (fun k hk e => by have := (ho.lt k e).2; have := n01.size; omega)⟩
          have e1 : newest xs (m : Int) = (D.take j).reverse := by
            rw [newest, Hr.out, Hmo.out, HDD.out]
            show (D.take m).reverse = _
            rw [List.take_of_length_le (by omega), List.take_of_length_le (by omega)]
          rw [e1]
          exact ho3.mono fun k _ hk => by have := n01.size; omega

end Go.Proofs.Ytfcdhmbooblpoaa
