/- The walk of the program's KeepSpans. -/
import Derived.Test.YtfcdhmbooblpoaaKeepLaw
namespace Go.Proofs.Ytfcdhmbooblpoaa
open Go.RowKit

def spanStep (span : Int) (kept : List Int) (d : Int) : List Int :=
  if kept.length = 0 ∨ at0 kept (kept.length - 1) / span ≠ d / span then kept ++ [d] else kept
def spanRun (span : Int) (many : Nat) : List Int → List Int → List Int
  | kept, [] => kept
  | kept, d :: D => if kept.length < many then spanRun span many (spanStep span kept d) D else kept
def spanOk (span : Int) : Bool := decide (1 ≤ span) && decide (span ≤ 9999)
def spans (xs : List Int) (span many : Int) : List Int :=
  if timesOk xs && manyOk many && spanOk span then (spanRun span many.toNat [] (desc xs)).reverse else []

def heapLen (g : Nat) (w : World) : Nat := match w.cell? ⟨g, 0, none⟩ with | some (.slice _ n _) => n | _ => 0
theorem HeapD.len {g : Nat} {S : Nat → Prop} {w : World} {D : List Int} (h : HeapD g S w D) : heapLen g w = D.length := by
  obtain ⟨a, c, h⟩ := h.cell
  simp [heapLen, h]

theorem ok_range {xs : List Int} (h : timesOk xs = true) : ∀ x ∈ xs, 0 ≤ x ∧ x ≤ 9999 := by
  simp only [timesOk, Bool.and_eq_true] at h
  have hu : ∀ (xs : List Int) (q : Int), tvFrom q xs = true → ∀ x ∈ xs, x ≤ 9999 := by
    intro xs
    induction xs with
    | nil => simp
    | cons y ys ih =>
      intro q h x hx
      rw [tvFrom] at h
      split at h
      · simp at h
      · rename_i hc
        simp only [List.mem_cons] at hx
        rcases hx with rfl | hx
        · omega
        · exact ih y h x hx
  intro x hx
  have := (tv_sorted xs _ h.2).2 x hx
  exact ⟨by omega, hu xs _ h.2 x hx⟩

theorem HeapD.new {g : Nat} {S : Nat → Prop} {w w' : World} {D : List Int} (h : HeapD g S w D) (c : New w w') : HeapD g S w' D := h.chg c (fun h => h) (fun _ _ _ h => h)

set_option maxHeartbeats 2000000 in
theorem keepSpans {S : Nat → Prop} (v : Value) (xs : List Int) (span many : Int) (w : World) (h : Ints S w v xs) :
    Calls Try.prog 26 #[v, .int .i64 span, .int .i64 many] w (Kept w (spans xs span many)) := by
  have h0 := h
  obtain ⟨a0, c0, rfl, -⟩ := h0
  rcases hr : timesOk xs with _ | _
  · have Hr := Lib.hid hr
    clear hr
    go_enter Try.func26, Try.ntmps26
    go_wp2_with fail
    refine (implTv _ xs _ h).mono ?_
    rw [Hr.out]
    rintro e w1 ⟨rfl, rfl⟩
    go_wp2_with fail
    go_ret
    exact ⟨_, rfl, by rw [spans, Hr.out]; exact OwnNums.nil _ _ _ _, New.refl _⟩
  · have hxl : xs.length ≤ 20 := by simp [timesOk] at hr; exact hr.1
    have hrange := ok_range hr
    rcases hmo : manyOk many with _ | _
    · have Hr := Lib.hid hr
      have Hmo := Lib.hid hmo
      clear hr hmo hrange
      go_enter Try.func26, Try.ntmps26
      go_wp2_with fail
      refine (implTv _ xs _ h).mono ?_
      rw [Hr.out]
      rintro e w1 ⟨rfl, rfl⟩
      go_wp2_with fail
      refine (manyValid many _).mono ?_
      rw [Hmo.out]
      rintro e w1 ⟨rfl, rfl⟩
      go_wp2_with fail
      go_ret
      exact ⟨_, rfl, by rw [spans, Hr.out, Hmo.out]; exact OwnNums.nil _ _ _ _, New.refl _⟩
    · have Hr := Lib.hid hr
      have Hmo := Lib.hid hmo
      have hm : 0 ≤ many ∧ many ≤ 20 := by simpa [manyOk] using hmo
      clear hr hmo
      by_cases hsp : spanOk span = true
      · have hsp' : 1 ≤ span ∧ span ≤ 9999 := by simpa [spanOk] using hsp
        obtain ⟨hs1, hs2⟩ := hsp'
        have Hsp := Lib.hid hsp
        clear hsp
        obtain ⟨m, rfl⟩ := Int.eq_ofNat_of_zero_le hm.1
        have hm20 : m ≤ 20 := by omega
        have Hrange := Lib.hid hrange
        clear hm hrange
        go_enter Try.func26, Try.ntmps26
        go_wp2_with fail
        refine (implTv _ xs _ h).mono ?_
        rw [Hr.out]
        rintro e w1 ⟨rfl, rfl⟩
        go_wp2_with fail
        refine (manyValid m _).mono ?_
        rw [Hmo.out]
        rintro e w1 ⟨rfl, rfl⟩
        go_wp2_with fail
        have hho := heapOf w.heap.size [.slice a0 xs.length c0] [xs] _ (lists_one h 22) (by simp [flat]; omega) (by simp)
        refine hho.mono ?_
        rintro e w1 ⟨g, rfl, hg, hD, n1⟩
        have hga : w.heap.size < g := by simp at hg; omega
        have n01 : New w w1 := ((New.refl w).alloc _).trans n1
        have hfl : flat [xs] = xs := by simp [flat]
        rw [hfl] at hD
        obtain ⟨hD, hgl⟩ := hD.bound
        have hdl : (desc xs).length = xs.length := (desc_perm xs).length_eq
        have hmem : ∀ x ∈ desc xs, 0 ≤ x ∧ x ≤ 9999 := fun x hx => Hrange.out x ((desc_perm xs).subset hx)
        have Hmem := Lib.hid hmem
        have Hdl := Lib.hid hdl
        generalize hDD : desc xs = D at hD Hdl Hmem
        have HDD := Lib.hid hDD
        clear hDD hho n1 hfl hdl hmem
        have fin : ∀ (kept : List Int) (wr w3 : World) (vk : Value), spanRun span m [] D = kept → OwnInts 3 (fun k => w1.heap.size ≤ k) w3 vk kept.reverse → New w w3 → Kept w (spans xs span (m : Int)) (.returned vk) w3 := by
          intro kept wr w3 vk e ho hn
          have e1 : spans xs span (m : Int) = kept.reverse := by rw [spans, Hr.out, Hmo.out, Hsp.out, HDD.out, ← e]; rfl
          rw [e1]
          exact ⟨vk, rfl, ho.mono fun k _ hk => by have := n01.size; omega, hn⟩
        have Fin := Lib.hid fin
        clear fin
        go_wp2_with fail
        go_loopw [7] (fun kv wr => ∃ (j : Nat) (kept : List Int), j ≤ D.length ∧ kept.length ≤ j ∧ kept.length ≤ m ∧ (∀ x ∈ kept, 0 ≤ x ∧ x ≤ 9999) ∧ spanRun span m [] D = spanRun span m kept (D.drop j) ∧ OwnInts 3 (fun k => w1.heap.size ≤ k) wr kv kept ∧ HeapD g (fun k => ((w.alloc (.cells #[.slice a0 xs.length c0] 22)).heap.size ≤ k ∧ k ≠ g) ∧ k < w1.heap.size) wr (D.drop j) ∧ New w wr ∧ w1.heap.size ≤ wr.heap.size) (fun _ wr => heapLen g wr)
        case atStart => exact ⟨0, [], Nat.zero_le _, Nat.le_refl _, Nat.zero_le _, by simp, rfl, OwnNums.nil _ _ _ _, hD, n01, Nat.le_refl _⟩
        case round =>
          obtain ⟨j, kept, hj, hkj, hkm, hkr, hrun, ho, hd, hn, hsz⟩ := hrel
          rename World => wr
          have Hrun := Lib.hid hrun
          have Hkr := Lib.hid hkr
          clear hrun hkr
          have hml := hd.len
          have Hml := Lib.hid hml
          clear hml
          obtain ⟨a, c, hcell⟩ := hd.cell
          obtain ⟨a', c', rfl, k1, k2⟩ := ho.shape
          have hlen := hLen a (D.drop j).length c wr
          have Hlen := Lib.hid hlen
          clear hlen
          have hD20 : D.length ≤ 20 := by rw [Hdl.out]; exact hxl
          by_cases hlt : j < D.length
          · obtain ⟨d, hdj⟩ := get_of hlt
            have hdr := drop_of hdj
            have hd' := hd
            rw [hdr] at hd'
            obtain ⟨hd0, hd1⟩ := Hmem.out d (List.mem_of_getElem? hdj)
            have hnx := heapNext g _ d (D.drop (j + 1)) wr hd' (by simp; omega)
            have Hnx := Lib.hid hnx
            have Hdr := Lib.hid hdr
            have hpos : (0 : Int) < ((D.drop j).length : Int) := by simp; omega
            have hqe : (D.drop j).length = D.length - j := by simp
            have Hqe := Lib.hid hqe
            generalize hq : (D.drop j).length = q at hcell Hlen hpos Hqe Hml
            have Hq := Lib.hid hq
            clear hdr hdj hd' hnx hq hqe
            by_cases hjm' : kept.length < m
            · go_wp2_with fail
              refine Hlen.out.mono ?_
              rintro e w2 ⟨rfl, rfl⟩
              go_wp2_with fail
              refine Hnx.out.mono ?_
              rintro e w3 ⟨rfl, hd3, hc3⟩
              have ho3 := ho.chg hc3 (fun k _ hk e => by omega)
              have hn3 := hn.trans_chg hc3 (fun k hk e => by simp at e; omega)
              have hi : Fits .i64 d := I64.mk (by omega) (by omega)
              have hsz3 := hc3.size
              clear ho hd hc3
              by_cases hk0 : kept.length = 0
              · have hst : spanStep span kept d = kept ++ [d] := by rw [spanStep, if_pos (.inl hk0)]
                have Hst := Lib.hid hst
                have hb0 : ((kept.length : Int) == 0) = true := by simp [hk0]
                clear hst hk0
                have hsz4 : w1.heap.size ≤ w3.heap.size := by omega
                go_wp2_with fail
                go_quiet (fail)
                have d4 : Drew w3 (w3.drewN nq) := ⟨_, rfl⟩
                have ho4 := ho3.new d4.new
                have hd4 := hd3.new d4.new
                have hn4 := hn3.trans d4.new
                go_wp2_with (at_builtin; refine wpNums_append slInt _ _ rfl rfl _ kept d _ rfl ho4 hi rfl (by omega) (by decide) ?_; intro v' w5 ho' hc')
                have hbl := ho4.lt
                have hsz5 : w3.heap.size ≤ w5.heap.size := hc'.size
                have hd5 := hd4.chg hc' (fun e => by have := (hbl g e).2; omega) (fun k _ hk e => by have := (hbl k e).2; omega)
                have ho5 := ho'.mono (T := fun k => w1.heap.size ≤ k) (fun k _ hk => by
                  rcases hk with hk | hk
                  · exact (hbl k hk).2
                  · simp at hk; omega)
                have hn5 := hn4.trans_chg hc' (fun k hk e => by have := (hbl k e).2; have := n01.size; omega)
                have hml5 := hd5.len
                go_roundw
                case rel => exact ⟨j + 1, kept ++ [d], by omega, by simp; omega, by simp; omega, (fun x hx => (List.mem_append.1 hx).elim (Hkr.out x) (fun h => by simp at h; omega)), by rw [Hrun.out, Hdr.out, spanRun, if_pos hjm', Hst.out], ho5, hd5, hn5, by omega⟩
                case measure =>
                  rw [hml5, Hml.out, Hqe.out]
                  simp; omega
              · obtain ⟨kb, kc, ek, -, -, -, -⟩ := ho3.1.head (by omega)
                simp only [Value.slice.injEq] at ek
                obtain ⟨rfl, -, rfl⟩ := ek
                have hll : kept.length - 1 < kept.length := by omega
                have hcl := ho3.1.cellAt (i := kept.length - 1) (u := .int .i64 (at0 kept (kept.length - 1))) (by rw [List.getElem?_map, at0_some hll]; rfl)
                have hlr := Hkr.out _ (at0_mem hll)
                have hb0 : ((kept.length : Int) == 0) = false := by simp [hk0]
                have hst : spanStep span kept d = if at0 kept (kept.length - 1) / span ≠ d / span then kept ++ [d] else kept := by
                  rw [spanStep]
                  by_cases hx : at0 kept (kept.length - 1) / span ≠ d / span
                  · rw [if_pos (.inr hx), if_pos hx]
                  · rw [if_neg (fun h => h.elim hk0 hx), if_neg hx]
                generalize at0 kept (kept.length - 1) = l at hcl hlr hst
                obtain ⟨hl0, hl1⟩ := hlr
                have hkl1 : 1 ≤ kept.length := by omega
                clear hk0
                by_cases hne : l / span = d / span
                · have hbn : (l / span != d / span) = false := by simp [hne]
                  rw [if_neg (by simp [hne])] at hst
                  have Hst := Lib.hid hst
                  clear hst hne
                  have hsz4 : w1.heap.size ≤ w3.heap.size := by omega
                  go_wp2_with fail
                  go_quiet (fail)
                  have d4 : Drew w3 (w3.drewN nq) := ⟨_, rfl⟩
                  have ho4 := ho3.new d4.new
                  have hd4 := hd3.new d4.new
                  have hn4 := hn3.trans d4.new
                  go_wp2_with fail
                  have hml5 := hd4.len
                  go_roundw
                  case rel => exact ⟨j + 1, kept, by omega, by omega, by omega, Hkr.out, by rw [Hrun.out, Hdr.out, spanRun, if_pos hjm', Hst.out], ho4, hd4, hn4, hsz4⟩
                  case measure =>
                    rw [hml5, Hml.out, Hqe.out]
                    simp; omega
                · have hbn : (l / span != d / span) = true := by simp [hne]
                  rw [if_pos hne] at hst
                  have Hst := Lib.hid hst
                  clear hst hne
                  have hsz4 : w1.heap.size ≤ w3.heap.size := by omega
                  go_wp2_with fail
                  go_quiet (fail)
                  have d4 : Drew w3 (w3.drewN nq) := ⟨_, rfl⟩
                  have ho4 := ho3.new d4.new
                  have hd4 := hd3.new d4.new
                  have hn4 := hn3.trans d4.new
                  go_wp2_with (at_builtin; refine wpNums_append slInt _ _ rfl rfl _ kept d _ rfl ho4 hi rfl (by omega) (by decide) ?_; intro v' w5 ho' hc')
                  have hbl := ho4.lt
                  have hsz5 : w3.heap.size ≤ w5.heap.size := hc'.size
                  have hd5 := hd4.chg hc' (fun e => by have := (hbl g e).2; omega) (fun k _ hk e => by have := (hbl k e).2; omega)
                  have ho5 := ho'.mono (T := fun k => w1.heap.size ≤ k) (fun k _ hk => by
                    rcases hk with hk | hk
                    · exact (hbl k hk).2
                    · simp at hk; omega)
                  have hn5 := hn4.trans_chg hc' (fun k hk e => by have := (hbl k e).2; have := n01.size; omega)
                  have hml5 := hd5.len
                  go_roundw
                  case rel => exact ⟨j + 1, kept ++ [d], by omega, by simp; omega, by simp; omega, (fun x hx => (List.mem_append.1 hx).elim (Hkr.out x) (fun h => by simp at h; omega)), by rw [Hrun.out, Hdr.out, spanRun, if_pos hjm', Hst.out], ho5, hd5, hn5, by omega⟩
                  case measure =>
                    rw [hml5, Hml.out, Hqe.out]
                    simp; omega
            · go_wp2_with fail
              refine Hlen.out.mono ?_
              rintro e w2 ⟨rfl, rfl⟩
              go_wp2_with fail
              refine (reverse _ _ _ wr ho (by omega)).mono ?_
              rintro e w3 ⟨rfl, ho3, hc3⟩
              go_wp2_with fail
              go_ret
              exact Fin.out kept wr w3 _ (by rw [Hrun.out, Hdr.out, spanRun, if_neg hjm']) ho3 (hn.trans_chg hc3 (fun k hk e => by have := (ho.lt k e).2; have := n01.size; omega))
          · have e0 : D.drop j = [] := drop_end hlt
            rw [e0] at hcell Hlen
            have E0 := Lib.hid e0
            clear e0
            go_wp2_with fail
            refine Hlen.out.mono ?_
            rintro e w2 ⟨rfl, rfl⟩
            go_wp2_with fail
            refine (reverse _ _ _ wr ho (by omega)).mono ?_
            rintro e w3 ⟨rfl, ho3, hc3⟩
            go_wp2_with fail
            go_ret
            exact Fin.out kept wr w3 _ (by rw [Hrun.out, E0.out, spanRun]) ho3 (hn.trans_chg hc3 (fun k hk e => by have := (ho.lt k e).2; have := n01.size; omega))
      · have hsp' : spanOk span = false := by simpa using hsp
        have hlo : span < 1 ∨ 9999 < span := by simp [spanOk] at hsp'; omega
        have Hsp := Lib.hid hsp'
        clear hsp hsp' hrange
        by_cases hlo1 : span < 1
        all_goals
          go_enter Try.func26, Try.ntmps26
          go_wp2_with fail
          refine (implTv _ xs _ h).mono ?_
          rw [Hr.out]
          rintro e w1 ⟨rfl, rfl⟩
          go_wp2_with fail
          refine (manyValid many _).mono ?_
          rw [Hmo.out]
          rintro e w1 ⟨rfl, rfl⟩
          go_wp2_with fail
          go_ret
          exact ⟨_, rfl, by rw [spans, Hr.out, Hmo.out, Hsp.out]; exact OwnNums.nil _ _ _ _, New.refl _⟩

end Go.Proofs.Ytfcdhmbooblpoaa
