/- The keys of the set of holds, collected: maps.Keys, slices.AppendSeq, slices.Collect at holds. -/
import Derived.Test.YtapobonfnjgnoaaHoldSort
import Derived.Test.YtapobonfnjgnoaaRangeBox
import Derived.Shelf.SlIter.Collect
namespace Go.Proofs.Ytapobonfnjgnoaa
open Go.RowKit Go.Maps

/-- what has come so far -/
def Coll (D0 : DataW Value) (left : Lit → Bool) (ss : List HoldR) : Prop := ss.Nodup ∧ (∀ x ∈ ss, HFit x) ∧ ∀ x, HFit x → (x ∈ ss ↔ (has D0 (KL x) = true ∧ left (KL x) = false))
theorem Coll.start (D0 : DataW Value) : Coll D0 (has D0) [] := ⟨List.nodup_nil, by simp, fun x _ => by cases has D0 (KL x) <;> simp⟩
theorem Coll.step {D0 : DataW Value} {left : Lit → Bool} {ss : List HoldR} (h : Coll D0 left ss) {x : HoldR} (hx : HFit x) {y : DataW Value} (hlk : left (KL x) = true) (hat : ∀ zd, D0.atKey (KL x) zd = y) :
    Coll D0 (fun z => left z && !z.sameKey (KL x)) (ss ++ [x]) := by
  obtain ⟨h1, h2, h3⟩ := h
  have hhas : has D0 (KL x) = true := has_true_of_atKey hat
  have hnew : x ∉ ss := fun hm => by have := ((h3 x hx).1 hm).2; rw [hlk] at this; cases this
  refine ⟨List.nodup_append.2 ⟨h1, by simp, fun a ha b hb => by simp at hb; subst hb; exact fun e => hnew (e ▸ ha)⟩, fun z hz => ?_, fun z hz => ?_⟩
  · rcases List.mem_append.1 hz with hz | hz
    · exact h2 z hz
    · obtain rfl := List.mem_singleton.1 hz
      exact hx
  · by_cases e : z = x
    · subst e
      simp [hhas, WideAt.sameKey_self (KL_key hz)]
    · have hne : ¬ (KL z).sameKey (KL x) = true := fun hs => e (KL_inj hz hx (WideAt.sameKey_eq hs))
      simp [h3 z hz, e, hne]

def GiveS (os : List HoldR) (ss : List HoldR) : Prop := ss.Nodup ∧ (∀ x ∈ ss, HFit x) ∧ ∀ x, HFit x → (x ∈ ss ↔ x ∈ os)

set_option maxRecDepth 100000 in
set_option maxHeartbeats 2000000 in
theorem keysIn (n : Nat) (hn : 1 ≤ n) (l Bm b nn : Nat) (os : List HoldR) (J : List HoldR → World → Prop)
    (W : World) (hY : ∀ pre x W, J pre W → pre.length < os.length → YieldAt Fence.wide (n - 1) Try.prog l #[hv x] W fun e W' => e = .returned (.bool true) ∧ J (pre ++ [x]) W' ∧ KeepsWalks W W')
    (hJ : AbidesFrom W.heap.size J) (hm : W.cell? ⟨Bm, 0, none⟩ = some (.map (some b))) (hset : SetIn W b nn os) (h0 : J [] W) :
    CallsIn Fence.wide n Try.prog 57 #[.func (.yield l) #[] #[], .pointer (some ⟨Bm, 0, none⟩)] W fun e W' => (∃ v, e = .returned v) ∧ ∃ ss : List HoldR, GiveS os ss ∧ J ss W' := by
  obtain ⟨D0, hown, hhas, hsize⟩ := hset
  refine callsIn_of_wp Try.func57 rfl trivial ?_ rfl
  simp only [Try.ntmps57, List.size_toArray, List.length_cons, List.length_nil, Nat.reduceAdd, Nat.reduceSub, Array.replicate_succ, Array.replicate_zero, List.push_toArray, List.append_toArray, List.nil_append, List.cons_append]
  have Hhas := Lib.hid hhas
  have HY := Lib.hid hY
  have HJ := Lib.hid hJ
  clear hhas hY hJ
  gi_wp2_with (first
    | (gi_at_range; refine wpListIn_range_own _ rfl _ 53 rfl 25 67 KH under_set _ b nn _ rfl hown ?_; intro w0 hrg0 hg0 hs0)
    | gi_in)
  go_frame
  gi_loopw [3] (fun _ wr => ∃ (left : Lit → Bool) (cnt : Nat) (ss : List HoldR), wr.ranges Try.prog 25 unitElem b W.heap.size nn D0 left cnt ∧ ss.length + cnt ≤ Maps.size D0 ∧ Coll D0 left ss ∧ J ss wr)
    (fun _ wr => wr.rangeLeft b W.heap.size)
  case atStart =>
    exact ⟨_, _, [], hrg0, by simp, Coll.start D0, HJ.out [] W w0 none h0 hg0 (fun r e => by cases e)⟩
  case round =>
    obtain ⟨left, cnt, ss, hrg, hcs, hC, hJs⟩ := hrel
    gi_wp2_with (first
      | (gi_at_next; refine wpListIn_next_ranges _ rfl _ rfl 25 KH unitElem hv id (fun key kl hk => by obtain ⟨x, _, hx, _⟩ := key_inv hk; exact ⟨x, hx⟩) (fun v _ _ => ⟨v, rfl⟩) b W.heap.size nn _ _ _ rfl hrg ?_ ?_)
      | gi_in)
    · intro hc0 hl0
      gi_wp2
      go_end0
      exact ⟨⟨_, rfl⟩, ss, ⟨hC.1, hC.2.1, fun x hx => by rw [hC.2.2 x hx, Hhas.out x hx, hl0]; simp⟩, hJs⟩
    · intro x c kl yd yp w2 cnt2 hkey hlk hval hat hrg2 hlt hg2 hs2 hen
      obtain ⟨x', hfx, ex, rfl⟩ := key_inv hkey
      have hxe : x = x' := by
        obtain ⟨a, b⟩ := x
        obtain ⟨c, d⟩ := x'
        simp only [hv, Value.agg.injEq] at ex
        simp at ex
        rw [ex.1, ex.2]
      subst hxe
      have hJ2 : J ss w2 := HJ.out ss wr w2 (some W.heap.size) hJs hg2 (fun r e => by cases e; exact ⟨Nat.le_refl _, hrg.iter_walk⟩)
      have hJ3 : J ss (w2.alloc (.cells #[.string ⟨x.snap.toArray⟩, .string ⟨x.tag.toArray⟩] 25)) := HJ.out ss w2 _ none hJ2 (World.grownBy_alloc _ _ none) (fun r e => by cases e)
      obtain ⟨fn, tmps, assign, body, hy, hR⟩ := HY.out ss x _ hJ3 (by rw [hsize] at hcs; omega)
      have hrg4 := hrg2.of_walks (KeepsWalks.alloc w2 (.cells #[.string ⟨x.snap.toArray⟩, .string ⟨x.tag.toArray⟩] 25))
      have Hlt := Lib.hid hlt
      have HC := Lib.hid (hC.step hfx hlk hat)
      have Hcs := Lib.hid hcs
      have Hval := Lib.hid hval
      unfold hv at hen hy ⊢
      clear hs2 hJ2 hJs hC hkey hlk hat hval ex hcs hlt
      gi_wp2
      refine hR.mono ?_
      rintro e W3 ⟨rfl, hJ5, hk3⟩
      gi_wp2
      have hrg3 := hrg4.of_walks hk3
      go_roundw
      case rel => exact ⟨_, cnt2, ss ++ [x], hrg3, by have := Hcs.out; have := Hlt.out; simp; omega, HC.out, hJ5⟩
      case measure => rw [hrg3.left_eq, hrg.left_eq]; exact Hlt.out

theorem keysGive (n : Nat) (hn : 1 ≤ n) (Bm b nn : Nat) (os : List HoldR) (w : World) (hm : w.cell? ⟨Bm, 0, none⟩ = some (.map (some b))) (hset : SetIn w b nn os) :
    SeqGives Fence.wide n Try.prog 57 #[.pointer (some ⟨Bm, 0, none⟩)] hv (GiveS os) os.length w := fun l J W hW hJ hY h0 =>
  keysIn n hn l Bm b nn os J W hY hJ ((hW.cell (p := ⟨Bm, 0, none⟩) (World.block_lt_of_cell? w _ hm)).trans hm) (hset.new (New.of_below hW)) h0

def holdCells (ss : List HoldR) : List Value := ss.flatMap fun o => [.string ⟨o.snap.toArray⟩, .string ⟨o.tag.toArray⟩]
theorem two_cells (W : World) (x y : Value) (t : TypeId) : ∀ (j : Nat) u, [x, y][j]? = some u → (W.alloc (.cells #[x, y] t)).cell? ((⟨W.heap.size, 0, none⟩ : Addr).add j) = some u := by
  intro j u h
  have hb := heap_alloc_new W (.cells #[x, y] t)
  rw [addr_add]
  unfold World.cell?
  rw [hb]
  match j, h with
  | 0, h => simpa using h
  | 1, h => simpa using h
  | j + 2, h => simp at h

set_option maxRecDepth 100000 in
set_option maxHeartbeats 2000000 in
theorem appendIn (n : Nat) (hn : 3 ≤ n) (Bm b nn : Nat) (os : List HoldR) (w : World) (hm : w.cell? ⟨Bm, 0, none⟩ = some (.map (some b))) (hset : SetIn w b nn os) (hl : os.length ≤ 16) :
    CallsIn Fence.wide n Try.prog 60 #[.slice none 0 0, .func (.func 57) #[] #[.pointer (some ⟨Bm, 0, none⟩)]] w fun e w' =>
      ∃ (v : Value) (ss : List HoldR), e = .returned v ∧ GiveS os ss ∧ w'.ownsRow w.heap.size 25 2 v ss.length (holdCells ss) ∧ Below w.heap.size w w' := by
  have hne : (23 : TypeId) ≠ 25 := by decide
  obtain ⟨i0, hi, hz0, hz1, hz2⟩ := info_parts slHold.2.1
  refine callsIn_of_wp_marks Try.func60 rfl trivial ?_ rfl
  simp only [Try.ntmps60, List.size_toArray, List.length_cons, List.length_nil, Nat.reduceAdd, Nat.reduceSub, Array.replicate_succ, Array.replicate_zero, List.push_toArray, List.append_toArray, List.nil_append, List.cons_append]
  gi_wp2
  have hB0 : Below w.heap.size w (w.alloc (.cells #[.slice none 0 0] 23)) := (Below.refl _ w).alloc (Nat.le_refl _) _
  have hbx : Boxed (w.alloc (.cells #[.slice none 0 0] 23)) w.heap.size 23 (.slice none 0 0) := Boxed.new _ _ _
  have hsz : (w.alloc (.cells #[.slice none 0 0] 23)).heap.size = w.heap.size + 1 := by simp
  have n0 := New.of_below hB0
  refine rangeBoxed rfl (by omega) (gf := 57) (lb := #[.pointer (some ⟨Bm, 0, none⟩)]) rfl trivial (enters_of Try.func57 (by kernel_rfl) rfl)
    (keysGive (n - 1) (by omega) Bm b nn os _ (n0.cell hm) (hset.new n0)) (Below.refl _ _) rfl
    (fun pre W => (∃ v, Boxed W w.heap.size 23 v ∧ W.ownsRow w.heap.size 25 2 v pre.length (holdCells pre) ∧ True) ∧ Below w.heap.size w W)
    (OwnFrom.and (Own.from (holdsRow_own w.heap.size w.heap.size 23 25 2 List.length holdCells (fun _ _ => True)) _) (ownFrom_below (Nat.le_refl _) (by simp)))
    ⟨⟨_, hbx, World.ownsRow_nil _ _ _ _, trivial⟩, hB0⟩
    (fun x => .cells #[.string ⟨x.snap.toArray⟩, .string ⟨x.tag.toArray⟩] 25)
    (fun x bb => { tmps := #[.slice none 0 0, .func (.func 57) #[] #[.pointer (some ⟨Bm, 0, none⟩)], .pointer (some ⟨w.heap.size, 0, none⟩), undef, .slice none 0 0, .pointer (some ⟨bb, 0, none⟩), .func (.func 57) #[] #[.pointer (some ⟨Bm, 0, none⟩)], hv x, undef, undef, undef, undef, undef], defers := [] }) ?assign ?body ?done
  case assign =>
    intro l x W K hK
    unfold hv at hK ⊢
    gi_wp2_with gi_round_op_a
    exact hK
  case body =>
    rintro l pre x W bb ⟨⟨v, hbv, hrow, -⟩, hB⟩ hlen hbb hblk
    have hc := hbv.cell
    have hf := hbv.frozen
    have c0 : W.cell? ⟨bb, 0, none⟩ = some (.string ⟨x.snap.toArray⟩) := by unfold World.cell?; rw [hblk]; rfl
    have c1 : W.cell? ⟨bb, 1, none⟩ = some (.string ⟨x.tag.toArray⟩) := by unfold World.cell?; rw [hblk]; rfl
    have hBs : w.heap.size ≤ W.heap.size := hB.size
    unfold hv
    gi_wp2_with (first
      | (gi_at_builtin; refine wpListIn_append_own _ rfl _ _ 23 rfl w.heap.size 25 i0 _ 2 32 Try.underlying23 hi hz0 hz1 hz2 rfl (by decide) _ _ _ rfl (hrow.alloc _) ⟨W.heap.size, 0, none⟩ 1 1 [.string ⟨x.snap.toArray⟩, .string ⟨x.tag.toArray⟩] rfl rfl (two_cells W _ _ _) (by simp [Value.oneCell']) (by unfold maxLen; omega) (by omega) (by simp; omega) ?_
         intro v' w3 hown' hg3 hnil3
         obtain ⟨hv3, hv4, hr4, hk4, hb4⟩ := hbv.appended hne hrow hBs (Nat.le_refl _) hown' hg3
         have hc3 := hv3.cell
         have hf3 := hv3.frozen
         obtain ⟨g', cap', rfl⟩ := ownsRow_succ hown'
         go_frame)
      | gi_round_op_a)
    have hg3' : (W.alloc (.cells #[.string ⟨x.snap.toArray⟩, .string ⟨x.tag.toArray⟩] 25)).grownBy w3 v.ownBlock := hg3
    have hkw : KeepsWalks W (w3.setCell ⟨w.heap.size, 0, none⟩ (.slice (some ⟨g', 0, none⟩) (pre.length + 1) cap')) :=
      ((KeepsWalks.alloc W _).trans (KeepsWalks.of_grownBy hg3' (ownsRow_not_walk_a (hrow.alloc _)))).trans (KeepsWalks.setCell _ _ _)
    refine ⟨hk4, hkw, ⟨_, hv4, ?_, trivial⟩, hB.trans hb4⟩
    have e1 : holdCells (pre ++ [x]) = holdCells pre ++ [.string ⟨x.snap.toArray⟩, .string ⟨x.tag.toArray⟩] := by simp [holdCells]
    rw [e1, show (pre ++ [x]).length = pre.length + 1 by simp]
    exact hr4
  case done =>
    rintro D xs W hD hS ⟨⟨v, hbv, hrow, -⟩, hB⟩ hK
    have hc := hbv.cell
    gi_wp2
    refine ⟨by simp, .inl ⟨_, _, rfl, run_takeDeferred hK, ?_⟩⟩
    exact ⟨_, results_tmp rfl _ _ _, v, xs, rfl, hS, ownsRow_putObj hrow _ hK rfl, hB.trans (belowK_b (w := w) (Nat.le_refl _) W D _ _ (by rw [hsz] at hD; omega) hK rfl rfl)⟩

set_option maxRecDepth 4000 in
set_option maxHeartbeats 1000000 in
theorem collectHolds (Bm b nn : Nat) (os : List HoldR) (w : World) (hm : w.cell? ⟨Bm, 0, none⟩ = some (.map (some b))) (hset : SetIn w b nn os) (hl : os.length ≤ 16) :
    Calls Try.prog 55 #[.func (.func 57) #[] #[.pointer (some ⟨Bm, 0, none⟩)]] w fun e w' =>
      ∃ (v : Value) (ss : List HoldR), e = .returned v ∧ GiveS os ss ∧ w'.ownsRow w.heap.size 25 2 v ss.length (holdCells ss) ∧ Below w.heap.size w w' := by
  have Hc := Lib.hid ((callsIn_wide (n := 5)).1 (appendIn 5 (by omega) Bm b nn os w hm hset hl))
  clear hm hset
  go_enter Try.func55, Try.ntmps55
  go_wp2_with fail
  refine Hc.out.mono ?_
  rintro e w1 ⟨v, ss, rfl, h1, h2, h3⟩
  go_wp2_with fail
  go_ret
  exact ⟨v, ss, rfl, h1, h2, h3⟩

theorem fields_hold (w : World) : ∀ (ss : List HoldR) (S : Nat → Prop), (∀ x ∈ ss, HFit x) → Fields S w (holdCells ss) (holdFlds ss)
  | [], _, _ => trivial
  | x :: r, _, h => ⟨⟨rfl, (h x List.mem_cons_self).1⟩, ⟨rfl, (h x List.mem_cons_self).2⟩, fields_hold w r _ fun y hy => h y (List.mem_cons_of_mem _ hy)⟩
theorem own_of_row {w : World} {base : Nat} {v : Value} {ss : List HoldR} (h : w.ownsRow base 25 2 v ss.length (holdCells ss)) (hf : ∀ x ∈ ss, HFit x) : OwnHolds (fun j => base ≤ j) w v ss := by
  refine ⟨holdCells ss, ⟨⟨h.1, ?_⟩, fun k hk => (h.lt k hk).1⟩, fields_hold w ss _ hf⟩
  rcases h.2 with hn | ⟨gb, cap, cur, hv, hbg, rest⟩
  · exact .inl hn
  · exact .inr ⟨gb, cap, cur, hv, Nat.zero_le _, rest⟩

theorem sorted_same {ss ts : List HoldR} (h1 : ss.Pairwise (fun a b => hLt a b = true)) (h2 : ts.Pairwise (fun a b => hLt a b = true)) (h : ∀ x, x ∈ ss ↔ x ∈ ts) : ss = ts := by
  refine List.Perm.eq_of_pairwise (le := fun a b => hLt a b = true) ?_ h1 h2 ((List.perm_ext_iff_of_nodup (pw_nodup h1) (pw_nodup h2)).2 h)
  intro a b _ _ h3 h4
  rw [hLt_asymm h3] at h4
  cases h4

set_option maxRecDepth 4000 in
set_option maxHeartbeats 1000000 in
theorem insNil (w : World) :
    Calls Try.prog 63 #[.slice none 0 0, .int .i64 0, .int .i64 0, .func (.func 40) #[] #[]] w fun e w' => e = .returned (.tuple #[]) ∧ w = w' := by
  go_enter Try.func63, Try.ntmps63
  go_wp2_with fail
  refine wp_loop_rounds 1 ?_
  rw [rounds_succ]
  go_wp2_with fail
  go_end0
  exact ⟨rfl, rfl⟩

set_option maxRecDepth 4000 in
set_option maxHeartbeats 1000000 in
theorem pdqNil (l : Int) (w : World) :
    Calls Try.prog 61 #[.slice none 0 0, .int .i64 0, .int .i64 0, .int .i64 l, .func (.func 40) #[] #[]] w fun e w' => e = .returned (.tuple #[]) ∧ w = w' := by
  have Hi := Lib.hid (insNil w)
  go_enter Try.func61, Try.ntmps61
  go_wp2_with fail
  refine wp_loop_rounds 1 ?_
  rw [rounds_succ]
  go_wp2_with fail
  refine Hi.out.mono ?_
  rintro e w1 ⟨rfl, rfl⟩
  go_wp2_with fail
  (try simp only [Exit.inBlock, Exit.then]); refine bodyPost_ret (results_none rfl _ _ _) rfl ?_
  exact ⟨rfl, rfl⟩

set_option maxRecDepth 4000 in
set_option maxHeartbeats 1000000 in
theorem sortNil (w : World) :
    Calls Try.prog 56 #[.slice none 0 0, .func (.func 40) #[] #[]] w fun e w' => e = .returned (.tuple #[]) ∧ w = w' := by
  have Hp := Lib.hid (fun l => pdqNil l w)
  have Hl := Lib.hid (bitsLen 0 (by omega) w)
  go_enter Try.func56, Try.ntmps56
  go_wp2_with fail
  refine Hl.out.mono ?_
  rintro e w1 ⟨l, rfl, rfl⟩
  go_wp2_with fail
  refine (Hp.out l).mono ?_
  rintro e w1 ⟨rfl, rfl⟩
  go_wp2_with fail
  go_end0
  exact ⟨rfl, rfl⟩

def SortedPost (os : List HoldR) (w : World) (e : Ending) (w' : World) : Prop :=
  ∃ v ss, e = .returned v ∧ GiveS os ss ∧ ss.Pairwise (fun a b => hLt a b = true) ∧ OwnHolds (fun j => w.heap.size ≤ j) w' v ss ∧ New w w'

set_option maxRecDepth 4000 in
set_option maxHeartbeats 1000000 in
theorem sortedFunc (Bm b nn : Nat) (os : List HoldR) (w : World) (hnd : os.Nodup) (hm : w.cell? ⟨Bm, 0, none⟩ = some (.map (some b))) (hset : SetIn w b nn os) (hl : os.length ≤ 12) (hfit : ∀ x ∈ os, HFit x) :
    Calls Try.prog 50 #[.func (.func 57) #[] #[.pointer (some ⟨Bm, 0, none⟩)], .func (.func 40) #[] #[]] w (SortedPost os w) := by
  have Hc := Lib.hid (collectHolds Bm b nn os w hm hset (by omega))
  have Hfit := Lib.hid hfit
  have Hnd := Lib.hid hnd
  have Hsort := Lib.hid (fun (S : Nat → Prop) => @sortHolds S)
  have Hnil := Lib.hid sortNil
  clear hm hset hfit hnd
  go_enter Try.func50, Try.ntmps50
  go_wp2_with fail
  refine Hc.out.mono ?_
  rintro e w1 ⟨v, ss, rfl, h1, h2, h3⟩
  have n1 := New.of_below h3
  have ho := own_of_row h2 h1.2.1
  have hlen : ss.length ≤ 12 := by
    have hp : ss.Perm os := (List.perm_ext_iff_of_nodup h1.1 Hnd.out).2 fun x => ⟨fun hx => (h1.2.2 x (h1.2.1 x hx)).1 hx, fun hx => (h1.2.2 x (Hfit.out x hx)).2 hx⟩
    rw [hp.length_eq]; exact hl
  rcases h2.2 with ⟨rfl, hz⟩ | ⟨gb, cap, cur, rfl, hbg, hgb, -⟩
  · have hss : ss = [] := List.eq_nil_of_length_eq_zero hz
    subst hss
    have H1 := Lib.hid h1
    clear h1 h2 h3
    go_wp2_with fail
    refine (Hnil.out _).mono ?_
    rintro e w2 ⟨rfl, rfl⟩
    go_wp2_with fail
    go_ret
    exact ⟨_, [], rfl, H1.out, List.Pairwise.nil, ho, n1⟩
  · have H1 := Lib.hid h1
    have hcall := Hsort.out _ gb cap ss w1 ho h1.1 hlen
    have Hcall := Lib.hid hcall
    clear h1 h2 h3 hcall
    go_wp2_with fail
    refine Hcall.out.mono ?_
    rintro e w2 ⟨rfl, ds, hp, hpw, ho2, hc2⟩
    go_wp2_with fail
    go_ret
    have hl : ds.length = ss.length := hp.length_eq
    have g1 := H1.out
    refine ⟨_, ds, rfl, ⟨pw_nodup hpw, fun x hx => g1.2.1 x (hp.mem_iff.1 hx), fun x hx => by rw [hp.mem_iff]; exact g1.2.2 x hx⟩, hpw, ho2, n1.trans_chg hc2 (fun j hj e => by omega)⟩

set_option maxRecDepth 4000 in
set_option maxHeartbeats 1000000 in
theorem keysCall (b : Nat) (w : World) :
    Calls Try.prog 51 #[.map (some b)] w fun e w' => e = .returned (.func (.func 57) #[] #[.pointer (some ⟨w.heap.size, 0, none⟩)]) ∧ w' = w.alloc (.cells #[.map (some b)] 53) := by
  go_enter Try.func51, Try.ntmps51
  go_wp2_with fail
  go_ret
  exact ⟨rfl, rfl⟩

def SetSortedPost (ts : List HoldR) (w : World) (e : Ending) (w' : World) : Prop :=
  ∃ v, e = .returned v ∧ OwnHolds (fun j => w.heap.size ≤ j) w' v ts ∧ New w w'

set_option maxRecDepth 4000 in
set_option maxHeartbeats 1000000 in
theorem setSorted (b nn : Nat) (os ts : List HoldR) (w : World) (hnd : os.Nodup) (hset : SetIn w b nn os) (hl : os.length ≤ 12) (hfit : ∀ x ∈ os, HFit x) (hpw : ts.Pairwise (fun a b => hLt a b = true)) (hts : ∀ x, x ∈ ts ↔ x ∈ os) :
    Calls Try.prog 39 #[.map (some b), .func (.func 40) #[] #[]] w (SetSortedPost ts w) := by
  have n1 := (New.refl w).alloc (.cells #[.map (some b)] 53)
  have hb := heap_alloc_new w (.cells #[.map (some b)] 53)
  have hc : (w.alloc (.cells #[.map (some b)] 53)).cell? ⟨w.heap.size, 0, none⟩ = some (.map (some b)) := by unfold World.cell?; rw [hb]; rfl
  have Hs := Lib.hid (sortedFunc w.heap.size b nn os _ hnd hc (hset.new n1) hl hfit)
  have Hk := Lib.hid keysCall
  have Hfit := Lib.hid hfit
  have Hpw := Lib.hid hpw
  have Hts := Lib.hid hts
  clear hb hc hset hfit hpw hts hnd
  go_enter Try.func39, Try.ntmps39
  go_wp2_with fail
  refine (Hk.out _ _).mono ?_
  rintro e w1 ⟨rfl, rfl⟩
  go_wp2_with fail
  refine Hs.out.mono ?_
  rintro e w2 ⟨v, ss, rfl, hg, hss, ho, n2⟩
  have hsame : ss = ts := sorted_same hss Hpw.out fun x => by
    constructor
    · intro hx
      exact (Hts.out x).2 ((hg.2.2 x (hg.2.1 x hx)).1 hx)
    · intro hx
      have hxo := (Hts.out x).1 hx
      exact (hg.2.2 x (Hfit.out x hxo)).2 hxo
  subst hsame
  clear hg hss
  go_wp2_with fail
  go_ret
  exact ⟨v, rfl, ho.mono (fun j _ hj => by have := n1.size; omega), n1.trans n2⟩
end Go.Proofs.Ytapobonfnjgnoaa
