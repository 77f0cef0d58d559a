/- The walk of the program's KeepBoth. -/
import Derived.Test.YtfcdhmbooblpoaaSpans
namespace Go.Proofs.Ytfcdhmbooblpoaa
open Go.RowKit

def bothStep (kept : List Int) (d : Int) : List Int := if kept.length = 0 ∨ at0 kept (kept.length - 1) ≠ d then kept ++ [d] else kept
def bothRun : List Int → List Int → List Int
  | kept, [] => kept
  | kept, d :: D => bothRun (bothStep kept d) D
def bothAll (xs ys : List Int) : List Int := (bothRun [] (desc (xs ++ ys))).reverse
def both (xs ys : List Int) : List Int := if timesOk xs && timesOk ys then (if timesOk (bothAll xs ys) then bothAll xs ys else []) else []

set_option maxHeartbeats 2000000 in
theorem keepBoth {S T : Nat → Prop} (v u : Value) (xs ys : List Int) (w : World) (h : Ints S w v xs) (h' : Ints T w u ys) :
    Calls Try.prog 31 #[v, u] w (Kept w (both xs ys)) := by
  have h0 := h
  obtain ⟨a0, c0, rfl, -⟩ := h0
  have h0 := h'
  obtain ⟨b0, d0, rfl, -⟩ := h0
  rcases hr : timesOk xs with _ | _
  · have Hr := Lib.hid hr
    clear hr
    go_enter Try.func31, Try.ntmps31
    go_wp2_with fail
    refine (implTv _ xs _ h).mono ?_
    rw [Hr.out]
    rintro e w1 ⟨rfl, rfl⟩
    go_wp2_with fail
    go_ret
    exact ⟨_, rfl, by rw [both, Hr.out]; exact OwnNums.nil _ _ _ _, New.refl _⟩
  · have hxl : xs.length ≤ 20 := by simp [timesOk] at hr; exact hr.1
    rcases hmo : timesOk ys with _ | _
    · have Hr := Lib.hid hr
      have Hmo := Lib.hid hmo
      clear hr hmo
      go_enter Try.func31, Try.ntmps31
      go_wp2_with fail
      refine (implTv _ xs _ h).mono ?_
      rw [Hr.out]
      rintro e w1 ⟨rfl, rfl⟩
      go_wp2_with fail
      refine (implTv _ ys _ h').mono ?_
      rw [Hmo.out]
      rintro e w1 ⟨rfl, rfl⟩
      go_wp2_with fail
      go_ret
      exact ⟨_, rfl, by rw [both, Hr.out, Hmo.out]; exact OwnNums.nil _ _ _ _, New.refl _⟩
    · have hyl : ys.length ≤ 20 := by simp [timesOk] at hmo; exact hmo.1
      have Hr := Lib.hid hr
      have Hmo := Lib.hid hmo
      clear hr hmo
      go_enter Try.func31, Try.ntmps31
      go_wp2_with fail
      refine (implTv _ xs _ h).mono ?_
      rw [Hr.out]
      rintro e w1 ⟨rfl, rfl⟩
      go_wp2_with fail
      refine (implTv _ ys _ h').mono ?_
      rw [Hmo.out]
      rintro e w1 ⟨rfl, rfl⟩
      go_wp2_with fail
      have hho := heapOf w.heap.size [.slice a0 xs.length c0, .slice b0 ys.length d0] [xs, ys] _ (lists_two h h' 22) (by simp [flat]; omega) (by simp)
      refine hho.mono ?_
      rintro e w1 ⟨g, rfl, hg, hD, n1⟩
      have hga : w.heap.size < g := by simp at hg; omega
      have n01 : New w w1 := ((New.refl w).alloc _).trans n1
      have hfl : flat [xs, ys] = xs ++ ys := by simp [flat]
      rw [hfl] at hD
      obtain ⟨hD, hgl⟩ := hD.bound
      have hdl : (desc (xs ++ ys)).length = xs.length + ys.length := by rw [(desc_perm _).length_eq, List.length_append]
      have Hdl := Lib.hid hdl
      generalize hDD : desc (xs ++ ys) = D at hD Hdl
      have HDD := Lib.hid hDD
      clear hDD hho n1 hfl hdl
      have hba : ∀ kept, bothRun [] D = kept → bothAll xs ys = kept.reverse := fun kept e => by rw [bothAll, HDD.out, e]
      have Hba := Lib.hid hba
      clear hba
      go_wp2_with fail
      go_loopw [5] (fun kv wr => ∃ (j : Nat) (kept : List Int), j ≤ D.length ∧ kept.length ≤ j ∧ bothRun [] D = bothRun kept (D.drop j) ∧ OwnInts 3 (fun k => w1.heap.size ≤ k) wr kv kept ∧ HeapD g (fun k => ((w.alloc (.cells #[.slice a0 xs.length c0, .slice b0 ys.length d0] 22)).heap.size ≤ k ∧ k ≠ g) ∧ k < w1.heap.size) wr (D.drop j) ∧ New w wr ∧ w1.heap.size ≤ wr.heap.size) (fun _ wr => heapLen g wr)
      case atStart => exact ⟨0, [], Nat.zero_le _, Nat.le_refl _, rfl, OwnNums.nil _ _ _ _, hD, n01, Nat.le_refl _⟩
      case round =>
        obtain ⟨j, kept, hj, hkj, hrun, ho, hd, hn, hsz⟩ := hrel
        rename World => wr
        have Hrun := Lib.hid hrun
        clear hrun
        have hml := hd.len
        have Hml := Lib.hid hml
        clear hml
        obtain ⟨a, c, hcell⟩ := hd.cell
        obtain ⟨a', c', rfl, k1, k2⟩ := ho.shape
        have hlen := hLen a (D.drop j).length c wr
        have Hlen := Lib.hid hlen
        clear hlen
        have hD20 : D.length ≤ 40 := by rw [Hdl.out]; omega
        by_cases hlt : j < D.length
        · obtain ⟨d, hdj⟩ := get_of hlt
          have hdr := drop_of hdj
          have hd' := hd
          rw [hdr] at hd'
          have hi : Fits .i64 d := hd'.i64 d (by simp)
          have hnx := heapNext g _ d (D.drop (j + 1)) wr hd' (by simp; omega)
          have Hnx := Lib.hid hnx
          have Hdr := Lib.hid hdr
          have hpos : (0 : Int) < ((D.drop j).length : Int) := by simp; omega
          have hqe : (D.drop j).length = D.length - j := by simp
          have Hqe := Lib.hid hqe
          generalize hq : (D.drop j).length = q at hcell Hlen hpos Hqe Hml
          have Hq := Lib.hid hq
          clear hdr hdj hd' hnx hq hqe
          go_wp2_with fail
          refine Hlen.out.mono ?_
          rintro e w2 ⟨rfl, rfl⟩
          go_wp2_with fail
          refine Hnx.out.mono ?_
          rintro e w3 ⟨rfl, hd3, hc3⟩
          have ho3 := ho.chg hc3 (fun k _ hk e => by omega)
          have hn3 := hn.trans_chg hc3 (fun k hk e => by simp at e; omega)
          have hsz3 := hc3.size
          have hsz4 : w1.heap.size ≤ w3.heap.size := by omega
          clear ho hd hc3
          by_cases hk0 : kept.length = 0
          · have hst : bothStep kept d = kept ++ [d] := by rw [bothStep, if_pos (.inl hk0)]
            have Hst := Lib.hid hst
            have hb0 : ((kept.length : Int) == 0) = true := by simp [hk0]
            clear hst hk0
            go_wp2_with (at_builtin; refine wpNums_append slInt _ _ rfl rfl _ kept d _ rfl ho3 hi rfl (by omega) (by decide) ?_; intro v' w5 ho' hc')
            have hbl := ho3.lt
            have hsz5 : w3.heap.size ≤ w5.heap.size := hc'.size
            have hd5 := hd3.chg hc' (fun e => by have := (hbl g e).2; omega) (fun k _ hk e => by have := (hbl k e).2; omega)
            have ho5 := ho'.mono (T := fun k => w1.heap.size ≤ k) (fun k _ hk => by
              rcases hk with hk | hk
              · exact (hbl k hk).2
              · omega)
            have hn5 := hn3.trans_chg hc' (fun k hk e => by have := (hbl k e).2; have := n01.size; omega)
            have hml5 := hd5.len
            go_roundw
            case rel => exact ⟨j + 1, kept ++ [d], by omega, by simp; omega, by rw [Hrun.out, Hdr.out, bothRun, Hst.out], ho5, hd5, hn5, by omega⟩
            case measure =>
              rw [hml5, Hml.out, Hqe.out]
              simp; omega
          · obtain ⟨kb, kc, ek, -, -, -, -⟩ := ho3.1.head (by omega)
            simp only [Value.slice.injEq] at ek
            obtain ⟨rfl, -, rfl⟩ := ek
            have hll : kept.length - 1 < kept.length := by omega
            have hcl := ho3.1.cellAt (i := kept.length - 1) (u := .int .i64 (at0 kept (kept.length - 1))) (by rw [List.getElem?_map, at0_some hll]; rfl)
            have hb0 : ((kept.length : Int) == 0) = false := by simp [hk0]
            have hst : bothStep kept d = if at0 kept (kept.length - 1) ≠ d then kept ++ [d] else kept := by
              rw [bothStep]
              by_cases hx : at0 kept (kept.length - 1) ≠ d
              · rw [if_pos (.inr hx), if_pos hx]
              · rw [if_neg (fun h => h.elim hk0 hx), if_neg hx]
            generalize at0 kept (kept.length - 1) = l at hcl hst
            have hkl1 : 1 ≤ kept.length := by omega
            clear hk0
            by_cases hne : l = d
            · have hbn : (l != d) = false := by simp [hne]
              rw [if_neg (by simp [hne])] at hst
              have Hst := Lib.hid hst
              clear hst hne
              go_wp2_with fail
              have hml5 := hd3.len
              go_roundw
              case rel => exact ⟨j + 1, kept, by omega, by omega, by rw [Hrun.out, Hdr.out, bothRun, Hst.out], ho3, hd3, hn3, hsz4⟩
              case measure =>
                rw [hml5, Hml.out, Hqe.out]
                simp; omega
            · have hbn : (l != d) = true := by simp [hne]
              rw [if_pos hne] at hst
              have Hst := Lib.hid hst
              clear hst hne
              go_wp2_with (at_builtin; refine wpNums_append slInt _ _ rfl rfl _ kept d _ rfl ho3 hi rfl (by omega) (by decide) ?_; intro v' w5 ho' hc')
              have hbl := ho3.lt
              have hsz5 : w3.heap.size ≤ w5.heap.size := hc'.size
              have hd5 := hd3.chg hc' (fun e => by have := (hbl g e).2; omega) (fun k _ hk e => by have := (hbl k e).2; omega)
              have ho5 := ho'.mono (T := fun k => w1.heap.size ≤ k) (fun k _ hk => by
                rcases hk with hk | hk
                · exact (hbl k hk).2
                · omega)
              have hn5 := hn3.trans_chg hc' (fun k hk e => by have := (hbl k e).2; have := n01.size; omega)
              have hml5 := hd5.len
              go_roundw
              case rel => exact ⟨j + 1, kept ++ [d], by omega, by simp; omega, by rw [Hrun.out, Hdr.out, bothRun, Hst.out], ho5, hd5, hn5, by omega⟩
              case measure =>
                rw [hml5, Hml.out, Hqe.out]
                simp; omega
        · have e0 : D.drop j = [] := drop_end hlt
          rw [e0] at hcell Hlen
          have E0 := Lib.hid e0
          clear e0
          have hall := Hba.out kept (by rw [Hrun.out, E0.out, bothRun])
          have Hall := Lib.hid hall
          clear hall
          go_wp2_with fail
          refine Hlen.out.mono ?_
          rintro e w2 ⟨rfl, rfl⟩
          go_wp2_with fail
          refine (reverse _ _ _ wr ho (by omega)).mono ?_
          rintro e w3 ⟨rfl, ho3, hc3⟩
          have hn3 := hn.trans_chg hc3 (fun k hk e => by have := (ho.lt k e).2; have := n01.size; omega)
          go_wp2_with fail
          refine (implTv _ _ _ ho3.nums).mono ?_
          rcases hf : timesOk kept.reverse with _ | _
          · have Hf := Lib.hid hf
            clear hf
            rintro e w4 ⟨rfl, rfl⟩
            go_wp2_with fail
            go_ret
            exact ⟨_, rfl, by rw [both, Hr.out, Hmo.out, Hall.out, Hf.out]; exact OwnNums.nil _ _ _ _, hn3⟩
          · have Hf := Lib.hid hf
            clear hf
            rintro e w4 ⟨rfl, rfl⟩
            go_wp2_with fail
            go_ret
            exact ⟨_, rfl, by rw [both, Hr.out, Hmo.out, Hall.out, Hf.out]; exact ho3.mono fun k _ hk => by have := n01.size; omega, hn3⟩

end Go.Proofs.Ytfcdhmbooblpoaa
