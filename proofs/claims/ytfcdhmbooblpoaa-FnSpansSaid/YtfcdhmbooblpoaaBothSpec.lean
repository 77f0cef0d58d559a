/- The walks of the reference's l32Put and KeepBoth. -/
import Derived.Test.YtfcdhmbooblpoaaBoth
import Derived.Deep.DeepCutAuto
namespace Go.Proofs.Ytfcdhmbooblpoaa
open Go.RowKit

def putRun (n : Int) : Bool → List Int → List Int
  | done, [] => if done then [] else [n]
  | done, x :: r => (if done = false ∧ n ≤ x then [n] else []) ++ (if x ≠ n then [x] else []) ++ putRun n (done || decide (n ≤ x)) r
def put (xs : List Int) (n : Int) : List Int := putRun n false xs
theorem putRun_len (n : Int) : ∀ (xs : List Int) (b : Bool), (putRun n b xs).length ≤ xs.length + (if b then 0 else 1)
  | [], b => by cases b <;> simp [putRun]
  | x :: r, b => by
    have h1 := putRun_len n r (b || decide (n ≤ x))
    rw [putRun]
    simp only [List.length_append, List.length_cons]
    have h2 : (if x ≠ n then [x] else []).length ≤ 1 := by split <;> simp
    cases b
    · by_cases hle : n ≤ x
      · simp [hle] at h1 ⊢; simp at h2; omega
      · simp [hle] at h1 ⊢; simp at h2; omega
    · simp at h1 ⊢; simp at h2; omega
theorem put_len (xs : List Int) (n : Int) : (put xs n).length ≤ xs.length + 1 := by simpa [put] using putRun_len n xs false

set_option maxHeartbeats 2000000 in
theorem l32Put {S : Nat → Prop} (v : Value) (xs : List Int) (n : Int) (w : World) (h : Ints S w v xs) (hn : I64 n) (hl : xs.length ≤ 1000) :
    Calls Try.prog 42 #[v, .int .i64 n] w (Kept w (put xs n)) := by
  have h0 := h
  obtain ⟨a0, c0, rfl, x1, ⟨x2, -⟩, x3, x4⟩ := h0
  unfold maxLen at x2
  have n0 : New w (w.alloc (.cells #[] 3)) := (New.refl w).alloc _
  have o0 := (OwnNums.empty .i64 3 w).mono (T := fun k => w.heap.size ≤ k) (fun k _ hk => by omega)
  go_enter Try.func42, Try.ntmps42
  go_wp2_with fail
  go_loopw [5, 6, 7] (fun ov dn i wr => ∃ (k : Nat) (cur : List Int) (b : Bool), k ≤ xs.length ∧ i = .int .i64 k ∧ dn = .bool b ∧ cur.length ≤ 2 * k ∧ put xs n = cur ++ putRun n b (xs.drop k) ∧ OwnInts 3 (fun k => w.heap.size ≤ k) wr ov cur ∧ New w wr) (fun _ _ i _ => xs.length - (intOf i).toNat)
  case atStart => exact ⟨0, [], false, Nat.zero_le _, rfl, rfl, Nat.zero_le _, rfl, o0, n0⟩
  case round =>
    obtain ⟨k, cur, b, hk, rfl, rfl, hcl, hp, ho, hw⟩ := hrel
    rename World => wr
    have Hp := Lib.hid hp
    clear hp
    by_cases hlt : k < xs.length
    · obtain ⟨x, hx⟩ := get_of hlt
      rcases x4 with rfl | ⟨g, off, rfl, -, hb, hc⟩
      · simp at hlt
      have hcx : wr.cell? ⟨g, off + k, none⟩ = some (.int .i64 x) := hw.cell (hc k x hx)
      have hfit : Fits .i64 x := x3 x (List.mem_of_getElem? hx)
      have Hx := Lib.hid (drop_of hx)
      clear hc hx
      have hcut : ∀ (ov : Value) (cur1 : List Int) (wx : World), cur1 = cur ++ (if b = false ∧ n ≤ x then [n] else []) → OwnInts 3 (fun k => w.heap.size ≤ k) wx ov cur1 → New w wx → wx.cell? ⟨g, off + k, none⟩ = some (.int .i64 x) →
          cur1.length ≤ 2 * k + 1 ∧ put xs n = cur1 ++ ((if x ≠ n then [x] else []) ++ putRun n (b || decide (n ≤ x)) (xs.drop (k + 1))) := by
        intro ov cur1 wx e _ _ _
        refine ⟨by rw [e]; split <;> simp <;> omega, ?_⟩
        rw [Hp.out, Hx.out, putRun, e]; simp
      have Hcut := Lib.hid hcut
      clear hcut
      have hcell2 : ∀ wx : World, New wr wx → wx.cell? ⟨g, off + k, none⟩ = some (.int .i64 x) := fun wx hn => hn.cell hcx
      have Hcell2 := Lib.hid hcell2
      clear hcell2
      have hold : ∀ (T : Nat → Prop) (wx : World), Chg T wr wx → (∀ j, T j → w.heap.size ≤ j ) → wx.cell? ⟨g, off + k, none⟩ = some (.int .i64 x) := by
        intro T wx hc hT
        exact hc.cell hcx (fun hg => by have := hT g hg; omega)
      have Hold := Lib.hid hold
      clear hold
      cases b
      · by_cases hle : n ≤ x
        · have hp2 : put xs n = (cur ++ [n]) ++ ((if x ≠ n then [x] else []) ++ putRun n true (xs.drop (k + 1))) := by
            rw [Hp.out, Hx.out, putRun, if_pos ⟨rfl, hle⟩]
            simp [hle]
          have hle' : n ≤ x := hle
          have hblk := ho.lt
          have h1 := (show u5.ownBlock = u5.ownBlock from rfl)
          have hsto : ∀ (v5 : Value) (w5 : World), OwnInts 3 (fun k => u5.ownBlock = some k ∨ wr.heap.size < k) w5 v5 (cur ++ [n]) → Chg (fun k => u5.ownBlock = some k) wr w5 → OwnInts 3 (fun k => w.heap.size ≤ k) w5 v5 (cur ++ [n]) ∧ New w w5 ∧ w5.cell? ⟨g, off + k, none⟩ = some (.int .i64 x) := by
            intro v5 w5 ho5 hc5
            refine ⟨ho5.mono (fun k _ hk => ?_), hw.trans_chg hc5 (fun k hk e => by have := (hblk k e).2; omega), Hold.out _ w5 hc5 (fun j hj => (hblk j hj).2)⟩
            rcases hk with hk | hk
            · exact (hblk k hk).2
            · have := hw.size; omega
          have Hsto := Lib.hid hsto
          clear hsto h1 hblk
          by_cases hxn : x = n
          · have hbn : (x != n) = false := by simp [hxn]
            rw [if_neg (by simp [hxn])] at hp2
            have Hp2 := Lib.hid hp2
            clear hp2 hxn
            go_wp2_with (at_builtin; refine wpNums_append slInt _ _ rfl rfl _ cur n _ rfl ho hn rfl (by omega) (by decide) ?_; intro v5 w5 ho5 hc5; have hcx5 := (Hsto.out v5 w5 ho5 hc5).2.2)
            go_roundw
            case rel => exact ⟨k + 1, cur ++ [n], true, by omega, by go_num, rfl, by simp; omega, by rw [Hp2.out]; simp, (Hsto.out v5 w5 ho5 hc5).1, (Hsto.out v5 w5 ho5 hc5).2.1⟩
            case measure => simp [intOf]; omega
          · have hbn : (x != n) = true := by simp [hxn]
            rw [if_pos hxn] at hp2
            have Hp2 := Lib.hid hp2
            clear hp2 hxn
            go_wp2_with (first | (at_builtin; refine wpNums_append slInt _ _ rfl rfl _ cur n _ rfl ho hn rfl (by omega) (by decide) ?_; intro v5 w5 ho5 hc5; have hall := Hsto.out v5 w5 ho5 hc5; have hcx5 := hall.2.2; have ho6 := hall.1; have hw6 := hall.2.1; clear hall) | (at_builtin; refine wpNums_append slInt _ _ rfl rfl _ (cur ++ [n]) x _ rfl ho6 hfit rfl (by simp; omega) (by decide) ?_; intro v7 w7 ho7 hc7))
            have hbl7 := ho6.lt
            go_roundw
            case rel =>
              refine ⟨k + 1, cur ++ [n] ++ [x], true, by omega, by go_num, rfl, by simp; omega, by rw [Hp2.out]; simp, ?_, hw6.trans_chg hc7 (fun k hk e => by have := (hbl7 k e).2; omega)⟩
              exact ho7.mono fun k _ hk => by
                rcases hk with hk | hk
                · exact (hbl7 k hk).2
                · have := hw6.size; omega
            case measure => simp [intOf]; omega
        · have hp2 := (Hcut.out u5 cur wr (by rw [if_neg (by simp; omega)]; simp) ho hw hcx).2
          have hdec : (false || decide (n ≤ x)) = false := by simp; omega
          rw [hdec] at hp2
          have hle' : ¬ n ≤ x := hle
          have hlt' : x < n := by omega
          by_cases hxn : x = n
          · have hbn : (x != n) = false := by simp [hxn]
            rw [if_neg (by simp [hxn])] at hp2
            have Hp2 := Lib.hid hp2
            clear hp2 hxn
            go_wp2_with fail
            go_roundw
            case rel => exact ⟨k + 1, cur, false, by omega, by go_num, rfl, by first | omega | (simp; omega), by rw [Hp2.out]; simp, ho, hw⟩
            case measure => simp [intOf]; omega
          · have hbn : (x != n) = true := by simp [hxn]
            rw [if_pos hxn] at hp2
            have Hp2 := Lib.hid hp2
            clear hp2 hxn
            go_wp2_with (at_builtin; refine wpNums_append slInt _ _ rfl rfl _ (cur) x _ rfl ho hfit rfl (by first | omega | (simp; omega)) (by decide) ?_; intro v7 w7 ho7 hc7)
            have hbl7 := (ho).lt
            have hcl7 := Chg.size hc7
            go_roundw
            case rel =>
              refine ⟨k + 1, cur ++ [x], false, by omega, by go_num, rfl, by first | omega | (simp; omega), by rw [Hp2.out]; simp, ?_, (hw).trans_chg hc7 (fun k hk e => by have := (hbl7 k e).2; omega)⟩
              exact ho7.mono fun k _ hk => by
                rcases hk with hk | hk
                · exact (hbl7 k hk).2
                · have := (hw).size; omega
            case measure => simp [intOf]; omega
      · have hp2 := (Hcut.out u5 cur wr (by simp) ho hw hcx).2
        have hdec : (true || decide (n ≤ x)) = true := by simp
        rw [hdec] at hp2
        by_cases hxn : x = n
        · have hbn : (x != n) = false := by simp [hxn]
          rw [if_neg (by simp [hxn])] at hp2
          have Hp2 := Lib.hid hp2
          clear hp2 hxn
          go_wp2_with fail
          go_roundw
          case rel => exact ⟨k + 1, cur, true, by omega, by go_num, rfl, by first | omega | (simp; omega), by rw [Hp2.out]; simp, ho, hw⟩
          case measure => simp [intOf]; omega
        · have hbn : (x != n) = true := by simp [hxn]
          rw [if_pos hxn] at hp2
          have Hp2 := Lib.hid hp2
          clear hp2 hxn
          go_wp2_with (at_builtin; refine wpNums_append slInt _ _ rfl rfl _ (cur) x _ rfl ho hfit rfl (by first | omega | (simp; omega)) (by decide) ?_; intro v7 w7 ho7 hc7)
          have hbl7 := (ho).lt
          have hcl7 := Chg.size hc7
          go_roundw
          case rel =>
            refine ⟨k + 1, cur ++ [x], true, by omega, by go_num, rfl, by first | omega | (simp; omega), by rw [Hp2.out]; simp, ?_, (hw).trans_chg hc7 (fun k hk e => by have := (hbl7 k e).2; omega)⟩
            exact ho7.mono fun k _ hk => by
              rcases hk with hk | hk
              · exact (hbl7 k hk).2
              · have := (hw).size; omega
          case measure => simp [intOf]; omega
    · have hfin : put xs n = cur ++ if b then [] else [n] := by rw [Hp.out, drop_end hlt, putRun]
      have Hfin := Lib.hid hfin
      clear hfin
      cases b
      · go_wp2_with (at_builtin; refine wpNums_append slInt _ _ rfl rfl _ cur n _ rfl ho hn rfl (by omega) (by decide) ?_; intro v' w5 ho' hc')
        go_ret
        have hbl := ho.lt
        refine ⟨_, rfl, ?_, hw.trans_chg hc' (fun k hk e => by have := (hbl k e).2; omega)⟩
        rw [Hfin.out]
        exact ho'.mono fun k _ hk => by
          rcases hk with hk | hk
          · exact (hbl k hk).2
          · have := hw.size; omega
      · go_wp2_with fail
        go_ret
        refine ⟨_, rfl, ?_, hw⟩
        rw [Hfin.out]
        simpa using ho


def specBoth (xs ys : List Int) : List Int :=
  if timesOk xs && timesOk ys then (if 20 < (ys.foldl put xs).length then [] else ys.foldl put xs) else []
theorem fold_len : ∀ (ys xs : List Int), (ys.foldl put xs).length ≤ xs.length + ys.length
  | [], xs => by simp
  | y :: ys, xs => by
    have h1 := fold_len ys (put xs y)
    have h2 := put_len xs y
    simp only [List.foldl_cons, List.length_cons]; omega

set_option maxHeartbeats 2000000 in
theorem specKeepBoth {S T : Nat → Prop} (v u : Value) (xs ys : List Int) (w : World) (h : Ints S w v xs) (h' : Ints T w u ys) :
    Calls Try.prog 30 #[v, u] w (Kept w (specBoth xs ys)) := by
  have h0 := h
  obtain ⟨a0, c0, rfl, -⟩ := h0
  have h0 := h'
  obtain ⟨b0, d0, rfl, y1, ⟨y2, -⟩, y3, y4⟩ := h0
  unfold maxLen at y2
  rcases hr : timesOk xs with _ | _
  · have Hr := Lib.hid hr
    clear hr
    go_enter Try.func30, Try.ntmps30
    go_wp2_with fail
    refine (specTv_ok _ xs _ h).mono ?_
    rw [Hr.out]
    rintro e w1 ⟨rfl, d1⟩
    go_wp2_with fail
    go_ret
    rw [specBoth, Hr.out]
    exact (kept_empty w1).of_new d1.new
  · have hxl : xs.length ≤ 20 := by simp [timesOk] at hr; exact hr.1
    rcases hmo : timesOk ys with _ | _
    · have Hr := Lib.hid hr
      have Hmo := Lib.hid hmo
      clear hr hmo
      go_enter Try.func30, Try.ntmps30
      go_wp2_with fail
      refine (specTv_ok _ xs _ h).mono ?_
      rw [Hr.out]
      rintro e w1 ⟨rfl, d1⟩
      go_wp2_with fail
      refine (specTv_ok _ ys _ (h'.new d1.new)).mono ?_
      rw [Hmo.out]
      rintro e w2 ⟨rfl, d2⟩
      go_wp2_with fail
      go_ret
      rw [specBoth, Hr.out, Hmo.out]
      exact (kept_empty w2).of_new (d1.new.trans d2.new)
    · have hyl : ys.length ≤ 20 := by simp [timesOk] at hmo; exact hmo.1
      have Hr := Lib.hid hr
      have Hmo := Lib.hid hmo
      clear hr hmo
      go_enter Try.func30, Try.ntmps30
      go_wp2_with fail
      refine (specTv_ok _ xs _ h).mono ?_
      rw [Hr.out]
      rintro e w1 ⟨rfl, d1⟩
      go_wp2_with fail
      refine (specTv_ok _ ys _ (h'.new d1.new)).mono ?_
      rw [Hmo.out]
      rintro e w2 ⟨rfl, d2⟩
      have n2 := d1.new.trans d2.new
      have hx2 := (h.new n2).new ((New.refl w2).alloc (.cells #[] 3))
      go_wp2_with (at_builtin; refine wpRow_append slInt _ _ rfl rfl (.slice (some ⟨w2.heap.size, 0, none⟩) 0 0) 0 [] rfl (OwnNums.empty .i64 3 w2).1 _ _ _ (xs.map (Value.int .i64)) rfl hx2.src (oneCells _ _) (by unfold maxLen; omega) (by omega) ?_; intro v3 w3 o3 c3)
      have o4 := (OwnNums.of_append (xs := []) (ys := xs) o3 (by simp) h.fits).mono (T := fun k => w.heap.size ≤ k) (fun j _ hj => hj.elim (fun hj => by have e' := own_some hj; simp only at e'; have := n2.size; omega) (fun hj => by simp at hj; have := n2.size; omega))
      have n3 : New w w3 := (n2.trans ((New.refl w2).alloc _)).trans_chg c3 (fun j hj e => by have e' := own_some e; simp only at e'; have := n2.size; omega)
      rw [List.nil_append] at o4
      clear o3 c3 hx2
      go_loopw [5, 6] (fun ov i wr => ∃ (k : Nat) (cur : List Int), k ≤ ys.length ∧ i = .int .i64 k ∧ cur.length ≤ 20 + k ∧ ys.foldl put xs = (ys.drop k).foldl put cur ∧ OwnInts 3 (fun k => w.heap.size ≤ k) wr ov cur ∧ New w wr) (fun _ i _ => ys.length - (intOf i).toNat)
      case atStart => exact ⟨0, xs, Nat.zero_le _, rfl, by omega, rfl, o4, n3⟩
      case round =>
        obtain ⟨k, cur, hk, rfl, hcl, hp, ho, hw⟩ := hrel
        rename World => wr
        have Hp := Lib.hid hp
        clear hp
        by_cases hlt : k < ys.length
        · obtain ⟨y, hy⟩ := get_of hlt
          rcases y4 with rfl | ⟨g, off, rfl, -, hb, hc⟩
          · simp at hlt
          have hcy : wr.cell? ⟨g, off + k, none⟩ = some (.int .i64 y) := hw.cell (hc k y hy)
          have hfit : Fits .i64 y := y3 y (List.mem_of_getElem? hy)
          have Hy := Lib.hid (drop_of hy)
          have hput := l32Put u5 cur y wr ho.nums hfit (by omega)
          have Hput := Lib.hid hput
          have hpl := put_len cur y
          clear hc hy hput
          go_wp2_with fail
          refine Hput.out.mono ?_
          rintro e w5 ⟨v5, rfl, o5, n5⟩
          go_wp2_with fail
          go_roundw
          case rel => exact ⟨k + 1, put cur y, by omega, by go_num, by omega, by rw [Hp.out, Hy.out]; rfl, o5.mono (fun j _ hj => Nat.le_trans hw.size hj), hw.trans n5⟩
          case measure => simp [intOf]; omega
        · have hfin : ys.foldl put xs = cur := by rw [Hp.out, drop_end hlt]; rfl
          have hsb : specBoth xs ys = if 20 < cur.length then [] else cur := by rw [specBoth, Hr.out, Hmo.out, hfin]; rfl
          have Hsb := Lib.hid hsb
          clear hfin hsb
          obtain ⟨a', c', rfl, k1, k2⟩ := ho.shape
          by_cases h20 : 20 < cur.length
          · have h20' : (20 : Int) < (cur.length : Int) := by omega
            go_wp2_with fail
            go_ret
            rw [Hsb.out, if_pos h20]
            exact (kept_empty wr).of_new hw
          · have h20' : ¬ (20 : Int) < (cur.length : Int) := by omega
            go_wp2_with fail
            go_ret
            rw [Hsb.out, if_neg h20]
            exact ⟨_, rfl, ho, hw⟩

end Go.Proofs.Ytfcdhmbooblpoaa
