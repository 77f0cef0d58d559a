/- Several texts in one. -/
import Derived.Test.YtkffejommncinaaDoorBaseA
import Derived.Deep.LoopGhost
import Derived.StillTailTactics
import Derived.Test.YtkffejommncinaaDoorTextsA
import Derived.Deep.RegionHeld3
/- szIntS; lists that are equal place by place. -/
namespace Go.Proofs.YtkffejommncinaaDoor
open Go.RowKit

theorem szInts {S : Nat → Prop} (v : Value) (xs : List Int) (l : Int) (w : World) (h : Ints S w v xs) (hl0 : 0 ≤ l) (hl1 : l ≤ 1048576) :
    Calls Tryd.prog 59 #[v, .int .i64 l] w fun e w' => e = .returned (.int .i64 (if l < xs.length then -1 else l - xs.length)) ∧ w = w' := by
  obtain ⟨a, c, rfl, h1, ⟨h2, -⟩, -, -⟩ := h
  unfold maxLen at h2
  by_cases hlt : l < xs.length
  · rw [if_pos hlt]
    have h5 : l - (xs.length : Int) < 0 := by omega
    go_enter Tryd.func59, Tryd.ntmps59
    go_wp2
    go_ret
    exact ⟨rfl, rfl⟩
  · rw [if_neg hlt]
    have h5 : ¬ (l - (xs.length : Int) < 0) := by omega
    go_enter Tryd.func59, Tryd.ntmps59
    go_wp2
    go_ret
    exact ⟨rfl, rfl⟩



def eqLs (α : Type) [DecidableEq α] : List α → List α → Bool
  | x :: xs, y :: ys => if x = y then eqLs α xs ys else false
  | [], _ => true
  | _ :: _, [] => true
theorem eqLs_is {α : Type} [DecidableEq α] : ∀ (xs ys : List α), xs.length = ys.length → eqLs α xs ys = decide (xs = ys)
  | [], [], _ => by simp [eqLs]
  | x :: xs, y :: ys, h => by
    rw [eqLs, eqLs_is xs ys (by simpa using h)]
    by_cases e : x = y <;> simp [e]

end Go.Proofs.YtkffejommncinaaDoor

/- markText: the letter m and the decimal digits of a number. -/
namespace Go.Proofs.YtkffejommncinaaDoor
open Go.RowKit

theorem decs_small {n : Nat} (h : n < 10) : decs n = [UInt8.ofNat (48 + n)] := by rw [decs, dif_pos h]
theorem decs_big {n : Nat} (h : ¬ n < 10) : decs n = decs (n / 10) ++ [UInt8.ofNat (48 + n % 10)] := by rw [decs, dif_neg h]
theorem decs_len : ∀ (j n : Nat), n < 10 ^ (j + 1) → (decs n).length ≤ j + 1
  | 0, n, h => by rw [decs_small (by simpa using h)]; simp
  | j + 1, n, h => by
    by_cases h1 : n < 10
    · rw [decs_small h1]; simp
    · rw [decs_big h1]
      have := decs_len j (n / 10) (by rw [Nat.div_lt_iff_lt_mul (by omega)]; rw [Nat.pow_succ] at h; exact h)
      simp; omega

theorem dgRun (k : Nat) (hk : k < 10) (w' : World) (a : Addr) (hc : w'.cell? a = some (.int .u8 (48 + (k : Int)))) :
    (convert 22 9 (.slice (some a) 1 1)).run Tryd.prog w' = .ok (.string ⟨([UInt8.ofNat (48 + k)] : List UInt8).toArray⟩) w' := by
  have h48 : (UInt8.ofNat (48 + k)).toNat = 48 + k := by
    clear hc
    revert k
    decide +kernel
  exact run_convert_bytes_back (P := Tryd.prog) w' 22 9 5 a 1 [UInt8.ofNat (48 + k)] Tryd.underlying22 Tryd.underlying5 Tryd.underlying9 (by
    intro j hj
    have hj0 : j = 0 := by simpa using hj
    subst hj0
    simp only [List.getElem_cons_zero]
    rw [h48]
    have ha : a.add 0 = a := by simp [Addr.add]
    rw [ha, hc]
    simp)

theorem tAdd (a b : List UInt8) (ha : a.length ≤ 8388608) (hb : b.length ≤ 8388608) (W : World) :
    (binOp .add 9 (.string ⟨a.toArray⟩) (.string ⟨b.toArray⟩)).run Tryd.prog W = .ok (.string ⟨(a ++ b).toArray⟩) W := by
  rw [binOp_string_add]
  refine (run_string_add (P := Tryd.prog) (w := W) ⟨a.toArray⟩ ⟨b.toArray⟩ ?_ ?_).trans ?_
  · show ((a.toArray).size : Int) ≤ _
    simp
    omega
  · show ((b.toArray).size : Int) ≤ _
    simp
    omega
  · have : (⟨a.toArray⟩ : ByteArray) ++ ⟨b.toArray⟩ = ⟨(a ++ b).toArray⟩ := by
      apply ByteArray.ext
      simp
    rw [this]

set_option maxRecDepth 4000 in
set_option maxHeartbeats 1000000 in
theorem markText (k : Int) (w : World) (hk : k ≤ 1152921504606846976) :
    Calls Tryd.prog 56 #[.int .i64 k] w fun e w' => e = .returned (txt (markT k)) ∧ New w w' := by
  by_cases h0 : k ≤ 0
  · have hr : txt (markT k) = .string ⟨#[109, 48]⟩ := by
      unfold markT
      rw [show k.toNat = 0 by omega, decs_small (by omega)]
      rfl
    rw [hr]
    clear hr
    go_enter Tryd.func56, Tryd.ntmps56
    go_wp2_with fail
    go_ret
    exact ⟨rfl, New.refl _⟩
  · obtain ⟨K, rfl⟩ : ∃ K : Nat, k = K := ⟨k.toNat, by omega⟩
    have hlen := decs_len 18 K (by omega)
    have Hlen := Lib.hid hlen
    have hn0 : ¬ ((K : Int) ≤ 0) := h0
    unfold markT
    rw [Int.toNat_natCast]
    clear hlen
    go_enter Tryd.func56, Tryd.ntmps56
    go_wp2_with fail
    go_loopg [0, 3] K (fun gk s0 s3 wr => ∃ (m : Nat) (T : List UInt8), gk = m ∧ m ≤ K ∧ s0 = .int .i64 m ∧ s3 = .string ⟨T.toArray⟩ ∧ (decs K = if m = 0 then T else decs m ++ T) ∧ New w wr)
    case atStart => exact ⟨K, [], rfl, Nat.le_refl _, rfl, rfl, by rw [if_neg (by omega)]; simp, New.refl _⟩
    case round =>
      obtain ⟨m, T, hgk, hmK, rfl, rfl, hd, hn⟩ := hrel
      have hTl : T.length ≤ 19 := by
        have := Hlen.out
        rw [hd] at this
        split at this
        · exact this
        · rw [List.length_append] at this; omega
      have Hgk := Lib.hid hgk
      have Hd := Lib.hid hd
      clear hd hgk
      by_cases hm : m = 0
      · subst hm
        have hadd := tAdd [109] T (by simp) (by omega) wr
        go_wp2_with fail
        go_ret
        exact ⟨by rw [Hd.out]; rfl, hn⟩
      · have hpos : (m : Int) > 0 := by omega
        obtain ⟨q, hq⟩ : ∃ q, q = m / 10 := ⟨_, rfl⟩
        obtain ⟨d, hdd⟩ : ∃ d, d = m % 10 := ⟨_, rfl⟩
        have hd10 : d < 10 := by omega
        have q1 : IntKind.i64.wrap ((m : Int) / 10) = (q : Int) := by
          have : (m : Int) / 10 = (q : Int) := by omega
          rw [this]
          exact IntWalk.i64_in _ (by omega)
        have q2 : (m : Int).tmod 10 = (d : Int) := by
          rw [Int.tmod_eq_emod_of_nonneg (by omega)]
          omega
        have q3 : IntKind.i64.wrap (48 + (d : Int)) = 48 + (d : Int) := IntWalk.i64_in _ (by omega)
        have q4 : IntKind.u8.wrap (48 + (d : Int)) = 48 + (d : Int) := by
          clear q1 q2 q3 hdd
          revert d
          intro d hd
          exact (by decide +kernel : ∀ d : Nat, d < 10 → IntKind.u8.wrap (48 + (d : Int)) = 48 + (d : Int)) d hd
        have kb : (wr.alloc (.cells #[.int .u8 (48 + (d : Int))] 5)).cell? { block := wr.heap.size, off := 0 } = some (.int .u8 (48 + (d : Int))) := by
          have h := heap_alloc_new wr (.cells #[.int .u8 (48 + (d : Int))] 5)
          unfold World.cell?
          rw [h]; rfl
        have rb0 := dgRun d hd10 _ _ kb
        have hcat : (⟨([UInt8.ofNat (48 + d)] : List UInt8).toArray⟩ : ByteArray) ++ ⟨T.toArray⟩ = ⟨([UInt8.ofNat (48 + d)] ++ T).toArray⟩ := by
          apply ByteArray.ext
          simp
        have hstep : decs K = if q = 0 then [UInt8.ofNat (48 + d)] ++ T else decs q ++ ([UInt8.ofNat (48 + d)] ++ T) := by
          rw [Hd.out, if_neg hm]
          by_cases hs : m < 10
          · rw [if_pos (by omega), decs_small hs, show d = m by omega]
          · rw [if_neg (by omega), decs_big hs, ← hq, ← hdd, List.append_assoc]
        have Hstep := Lib.hid hstep
        have Hq := Lib.hid hq
        clear hq hdd hstep kb
        have hsum : ¬ (9223372036854775807 < ([UInt8.ofNat (48 + d)] : List UInt8).length + T.length) := by simp; omega
        generalize hX : ([UInt8.ofNat (48 + d)] : List UInt8) ++ T = X at *
        generalize hY : ([UInt8.ofNat (48 + d)] : List UInt8) = Y at *
        have Hcat := Lib.hid hcat
        clear hX hY hcat
        go_wp2_with fail
        go_roundg q
        case measure => rw [Hgk.out, Hq.out]; omega
        case rel => exact ⟨q, X, rfl, by rw [Hq.out]; omega, by go_num, by rw [Hcat.out], Hstep.out, hn.alloc _⟩
end Go.Proofs.YtkffejommncinaaDoor

/- Small things that the trees' texts use: texts written into fields, a cell of a row of numbers, slices.Clone. -/
namespace Go.Proofs.YtkffejommncinaaDoor
open Go.RowKit

theorem OwnRecs.putTxt {e sz : Nat} {S : Nat → Prop} {w : World} {b c n i : Nat} {fs : List Fld} {x y : List UInt8} (h : OwnRecs e sz S w (.slice (some ⟨b, 0, none⟩) n c) n fs) (hf : fs[i]? = some (.txt x)) (hy : y.length ≤ maxLen) :
    OwnRecs e sz S (w.setCell ⟨b, i, none⟩ (txt y)) (.slice (some ⟨b, 0, none⟩) n c) n (fs.set i (.txt y)) := by
  obtain ⟨us, h1, h2⟩ := h
  obtain ⟨u, hu, ho⟩ := h2.get hf
  refine ⟨us.set i (txt y), h1.set i _, ?_⟩
  have h3 := h2.chg (chg_set1 w b i (txt y)) (fun j _ hj e => hj.2 (by rw [e]; rfl))
  exact Fields.put (f := .txt x) (f' := .txt y) (T := fun _ => False) (Chg.refl _ _) (fun _ h => h.elim) (fun j hj => by simp [blk] at hj) h3 hu hf (fun S' _ => ⟨rfl, hy⟩)
theorem markT_len {k : Int} (hk : k ≤ 1152921504606846976) : (markT k).length ≤ maxLen := by
  have h : (decs k.toNat).length ≤ 19 := decs_len 18 k.toNat (by
    have : k.toNat ≤ 1152921504606846976 := by omega
    omega)
  unfold markT maxLen
  rw [List.length_cons]; omega
theorem OwnRecs.putBool {e sz : Nat} {S : Nat → Prop} {w : World} {b c n i : Nat} {fs : List Fld} {x y : Bool} (h : OwnRecs e sz S w (.slice (some ⟨b, 0, none⟩) n c) n fs) (hf : fs[i]? = some (.bool x)) :
    OwnRecs e sz S (w.setCell ⟨b, i, none⟩ (.bool y)) (.slice (some ⟨b, 0, none⟩) n c) n (fs.set i (.bool y)) := by
  obtain ⟨us, h1, h2⟩ := h
  obtain ⟨u, hu, ho⟩ := h2.get hf
  refine ⟨us.set i (.bool y), h1.set i _, ?_⟩
  have h3 := h2.chg (chg_set1 w b i (.bool y)) (fun j _ hj e => hj.2 (by rw [e]; rfl))
  exact Fields.put (f := .bool x) (f' := .bool y) (T := fun _ => False) (Chg.refl _ _) (fun _ h => h.elim) (fun j hj => by simp [blk] at hj) h3 hu hf (fun S' _ => rfl)
theorem cell_alloc (w : World) (c : Array Value) (e : TypeId) (i : Nat) : (w.alloc (.cells c e)).cell? ⟨w.heap.size, i, none⟩ = c[i]? := by
  simp only [World.cell?, heap_alloc_new]
  rfl

theorem Ints.cellAt {S : Nat → Prop} {w : World} {a : Option Addr} {n c : Nat} {xs : List Int} (h : Ints S w (.slice a n c) xs) {i : Nat} {x : Int} (hx : xs[i]? = some x) : ∃ b off, a = some ⟨b, off, none⟩ ∧ w.cell? ⟨b, off + i, none⟩ = some (.int .i64 x) := by
  obtain ⟨a', c', e, -, -, -, h4⟩ := h
  simp only [Value.slice.injEq] at e
  obtain ⟨rfl, -, -⟩ := e
  rcases h4 with rfl | ⟨b, off, rfl, -, -, hc⟩
  · simp at hx
  · exact ⟨b, off, rfl, hc i x hx⟩

set_option maxRecDepth 4000 in
set_option maxHeartbeats 400000 in
theorem slClone {S : Nat → Prop} (v : Value) (xs : List Int) (w : World) (h : Ints S w v xs) (hl : xs.length ≤ 1048576) :
    Calls Tryd.prog 79 #[v] w fun e w' => ∃ v', e = .returned v' ∧ New w w' ∧ OwnInts 3 (fun k => w.heap.size ≤ k) w' v' xs := by
  have h0 := h
  obtain ⟨a, c, rfl, h1, ⟨h2, h2'⟩, h3, h4⟩ := h
  unfold maxLen at h2
  rcases a with _ | ad
  · obtain rfl := h2' rfl
    obtain rfl : xs = [] := List.eq_nil_of_length_eq_zero (by omega)
    have hnil : (binOp .eql 26 (.slice none 0 0) (.slice none 0 0)).run Tryd.prog w = .ok (.bool true) w := by kernel_rfl
    go_enter Tryd.func79, Tryd.ntmps79
    go_wp2_with fail
    go_ret
    exact ⟨_, rfl, New.refl _, OwnNums.nil _ _ _ _⟩
  · clear h4
    have hnil : ∀ n : Nat, (binOp .eql 26 (.slice (some ad) n c) (.slice none 0 0)).run Tryd.prog w = .ok (.bool false) w := fun n => by kernel_rfl
    go_enter Tryd.func79, Tryd.ntmps79
    go_wp2_with first
      | fail
      | (refine wpRow_append slInt _ _ rfl rfl (.slice (some ⟨w.heap.size, 0, none⟩) 0 0) 0 [] rfl (Row.empty 3 1 w) (some ad) xs.length c (xs.map (Value.int .i64)) rfl (Nums.src (h0.new ((New.refl _).alloc _))) (oneCells _ _) ?_ ?_ ?_
         · unfold maxLen; omega
         · omega
         intro v1 w1 o1 c1)
    go_ret
    rw [Nat.zero_add, List.nil_append] at o1
    refine ⟨_, rfl, ((New.refl _).alloc _).trans_chg c1 (fun j hj e => by have e' := own_some e; simp only at e'; omega), ⟨o1.mono (fun j _ hj => ?_), h3⟩⟩
    rcases hj with hj | hj
    · have e' := own_some hj; simp only at e'; omega
    · simp at hj; omega

end Go.Proofs.YtkffejommncinaaDoor

/- append of one struct (or number) at a step of a region that draws its order. -/
namespace Go.Proofs.YtkffejommncinaaDoor
open Go.RowKit

theorem stepRow_appendRec {P : Program} {w : World} {ops : Array Oper} {o : Oper} {a : Act} {Q : Exit → Act → World → Prop} {K : Act → World → Prop} {E : Prop}
    {t e : TypeId} {z : Value} {sz bytes : Nat} (T : SliceOf P t e z sz bytes) (s x : Operand) (hgd : o.guard = none)
    (ho : o.op = .call { callee := .builtin .append, args := #[s, x], argTypes := #[t, t] })
    {S : Nat → Prop} (v : Value) (n : Nat) (xs us : List Value) (te : TypeId) (hs : a.eval s = v) (hrow : Row e sz S w v n xs) (hul : us.length = sz) (hu : ∀ u ∈ us, u.oneCell' = true)
    (hx : a.eval x = .slice (some ⟨w.heap.size, 0, none⟩) 1 1) (h63 : (n + 1) * bytes ≤ 140737488355328) (hb : 0 < bytes)
    (h : ∀ v' w', Row e sz (fun k => v.ownBlock = some k ∨ w.heap.size < k) w' v' (n + 1) (xs ++ us) → Chg (fun k => v.ownBlock = some k) w w' → K (a.put o.dst v') w') :
    if Region.wanted o (yielded ops a.tmps) = true then Oper.wp P o a (w.alloc (.cells us.toArray te)) K Q else E := by
  have hn : New w (w.alloc (.cells us.toArray te)) := (New.refl w).alloc _
  have hle : n + 1 ≤ 140737488355328 := Nat.le_trans (Nat.le_mul_of_pos_right _ hb) h63
  refine stepRow_append T s x hgd ho v n xs hs (hrow.new hn) (.some ⟨w.heap.size, 0, none⟩) 1 1 us hx ⟨by omega, by simp, fun ad e j u hu => ?_⟩ hu (by unfold maxLen; omega) h63 ?_
  · cases e
    rw [addr_add, Nat.zero_add]
    have hb := heap_alloc_new w (.cells us.toArray te)
    simp only [World.cell?, hb]
    simpa using hu
  intro v' w' hr hc
  refine h v' w' ?_ ?_
  · refine hr.mono fun j hj hh => ?_
    rcases hh with hh | hh
    · exact .inl hh
    · refine .inr ?_
      simp at hh; omega
  · exact ⟨hc.os.trans hn.os, hc.tape.trans hn.tape, hc.output.trans hn.output, Nat.le_trans hn.size hc.size, fun j hj hv => (hc.block j (Nat.lt_of_lt_of_le hj hn.size) hv).trans (hn.block j hj (fun h => h))⟩
end Go.Proofs.YtkffejommncinaaDoor

/- Items of a tree: the statements' helpers toItem, eqItem, szItem. -/
namespace Go.Proofs.YtkffejommncinaaDoor
open Go.RowKit

structure ItemR where
  path : List UInt8
  dir : Bool
  ids : List Int
  deriving DecidableEq
def ItemR.flds (o : ItemR) : List Fld := [.txt o.path, .bool o.dir, .nums o.ids]

/-- how much an item holds -/
def ItemR.size (o : ItemR) : Nat := o.path.length + o.ids.length
set_option maxRecDepth 4000 in
set_option maxHeartbeats 400000 in
theorem szItem {S : Nat → Prop} (o : ItemR) (u : Value) (l : Int) (w : World) (h : Ints S w u o.ids) (hp : o.path.length ≤ maxLen) (hl0 : 0 ≤ l) (hl1 : l ≤ 1048576) :
    Calls Tryd.prog 29 #[.agg #[txt o.path, .bool o.dir, u], .int .i64 l] w fun e w' => e = .returned (.int .i64 (if l < o.size then -1 else l - o.size)) ∧ New w w' := by
  unfold maxLen at hp
  unfold txt ItemR.size
  have hn : ∀ (W : World) (o : Obj), New W (W.alloc o) := fun W o => (New.refl W).alloc o
  have Hn := Lib.hid hn
  have hsz := fun (W : World) (n : New w W) (k : Int) h0 h1 => szInts u o.ids k W (h.new n) h0 h1
  have Hsz := Lib.hid hsz
  obtain ⟨a, c, rfl, h1, ⟨h2, -⟩, -, -⟩ := h
  unfold maxLen at h2
  clear hn hsz
  by_cases h5 : l < o.path.length
  · have h6 : l - (o.path.length : Int) < 0 := by omega
    have h7 : l < ((o.path.length + o.ids.length : Nat) : Int) := by omega
    rw [if_pos h7]
    go_enter Tryd.func29, Tryd.ntmps29
    go_wp2_with fail
    go_ret
    exact ⟨rfl, Hn.out _ _⟩
  · have h6 : ¬ (l - (o.path.length : Int) < 0) := by omega
    by_cases h7 : l - o.path.length < o.ids.length
    · have h8 : l < ((o.path.length + o.ids.length : Nat) : Int) := by omega
      rw [if_pos h8]
      go_enter Tryd.func29, Tryd.ntmps29
      go_wp2_with fail
      refine (Hsz.out _ (Hn.out _ _) _ (by omega) (by omega)).mono ?_
      rw [if_pos (by omega)]
      rintro e w1 ⟨rfl, rfl⟩
      go_wp2_with fail
      go_ret
      exact ⟨rfl, Hn.out _ _⟩
    · have h8 : ¬ (l < ((o.path.length + o.ids.length : Nat) : Int)) := by omega
      rw [if_neg h8]
      have h9 : ¬ (l - (o.path.length : Int) - (o.ids.length : Int) < 0) := by omega
      go_enter Tryd.func29, Tryd.ntmps29
      go_wp2_with fail
      refine (Hsz.out _ (Hn.out _ _) _ (by omega) (by omega)).mono ?_
      rw [if_neg (by omega)]
      rintro e w1 ⟨rfl, rfl⟩
      go_wp2_with fail
      go_ret
      exact ⟨ret_int (by omega), Hn.out _ _⟩

set_option maxRecDepth 4000 in
set_option maxHeartbeats 400000 in
theorem eqItem {S T : Nat → Prop} (o p : ItemR) (u t : Value) (w : World) (h : Ints S w u o.ids) (g : Ints T w t p.ids) :
    Calls Tryd.prog 31 #[.agg #[txt o.path, .bool o.dir, u], .agg #[txt p.path, .bool p.dir, t]] w fun e w' => e = .returned (.bool (decide (o = p))) ∧ New w w' := by
  obtain ⟨k, l, xs⟩ := o
  obtain ⟨k', l', ys⟩ := p
  simp only at h g ⊢
  unfold txt
  have hn : ∀ (W : World) (o o' : Obj), New W ((W.alloc o).alloc o') := fun W o o' => ((New.refl W).alloc o).alloc o'
  have Hn := Lib.hid hn
  have heq := fun (W : World) (n : New w W) => eqInts u t xs ys W (h.new n) (g.new n)
  have Heq := Lib.hid heq
  obtain ⟨a, c, rfl, h1, ⟨h2, -⟩, -, -⟩ := h
  obtain ⟨a', c', rfl, g1, ⟨g2, -⟩, -, -⟩ := g
  unfold maxLen at h2 g2
  clear hn heq
  by_cases hk : k = k'
  · subst hk
    by_cases hl : l = l'
    · subst hl
      by_cases hx : xs = ys
      · have hd : decide (ItemR.mk k l xs = ItemR.mk k l ys) = true := by simp [hx]
        have hd2 : decide (xs = ys) = true := by simp [hx]
        rw [hd]
        rw [hd2] at Heq
        clear hd hd2 hx
        go_enter Tryd.func31, Tryd.ntmps31
        go_wp2_with fail
        refine (Heq.out _ (Hn.out _ _ _)).mono ?_
        rintro e w1 ⟨rfl, d1⟩
        have n1 := (Hn.out w _ _).trans d1.new
        clear d1
        go_wp2_with fail
        go_ret
        exact ⟨rfl, n1⟩
      · have hd : decide (ItemR.mk k l xs = ItemR.mk k l ys) = false := by simp [hx]
        have hd2 : decide (xs = ys) = false := by simp [hx]
        rw [hd]
        rw [hd2] at Heq
        clear hd hd2 hx
        go_enter Tryd.func31, Tryd.ntmps31
        go_wp2_with fail
        refine (Heq.out _ (Hn.out _ _ _)).mono ?_
        rintro e w1 ⟨rfl, d1⟩
        have n1 := (Hn.out w _ _).trans d1.new
        clear d1
        go_wp2_with fail
        go_ret
        exact ⟨rfl, n1⟩
    · have hd : decide (ItemR.mk k l xs = ItemR.mk k l' ys) = false := by simp [hl]
      rw [hd]
      have hcs : (l = true ∧ l' = false) ∨ (l = false ∧ l' = true) := by revert hl; cases l <;> cases l' <;> simp
      clear hd hl
      rcases hcs with ⟨rfl, rfl⟩ | ⟨rfl, rfl⟩
      all_goals
        go_enter Tryd.func31, Tryd.ntmps31
        go_wp2_with fail
        go_ret
        exact ⟨rfl, Hn.out _ _ _⟩
  · have hd : decide (ItemR.mk k l xs = ItemR.mk k' l' ys) = false := by simp [hk]
    have hb : (k == k') = false := by simp [hk]
    have hb2 : (k != k') = true := by simp [hk]
    rw [hd]
    clear hd hk
    go_enter Tryd.func31, Tryd.ntmps31
    go_wp2_with fail
    go_ret
    exact ⟨rfl, Hn.out _ _ _⟩

def ToItemPost (o : ItemR) (w : World) (e : Ending) (w' : World) : Prop :=
  ∃ u, e = .returned (.agg #[txt o.path, .bool o.dir, u]) ∧ OwnInts 3 (fun j => w.heap.size ≤ j) w' u o.ids ∧ New w w'

set_option maxRecDepth 4000 in
set_option maxHeartbeats 400000 in
theorem toItem {S : Nat → Prop} (o : ItemR) (u : Value) (w : World) (h : Ints S w u o.ids) (hl : o.ids.length ≤ 1048576) :
    Calls Tryd.prog 30 #[.agg #[txt o.path, .bool o.dir, u]] w (ToItemPost o w) := by
  have hto := fun (W : World) (n : New w W) => toInts u o.ids W (h.new n) (by omega)
  have Hto := Lib.hid hto
  unfold txt
  obtain ⟨a, c, rfl, h1, ⟨h2, -⟩, -, -⟩ := h
  unfold maxLen at h2
  clear hto
  go_enter Tryd.func30, Tryd.ntmps30
  go_wp2_with fail
  refine (Hto.out _ ?_).mono ?_
  · exact (((New.refl w).alloc _).alloc _).alloc _
  rintro e w1 ⟨u', rfl, n1, o1⟩
  have hb1 : w1.heap[w.heap.size + 1]? = some (.cells #[.string ⟨#[]⟩, .bool false, .slice none 0 0] 28) := by
    refine n1.heap ?_
    have := heap_alloc_new (w.alloc (.cells #[.string ⟨o.path.toArray⟩, .bool o.dir, .slice a o.ids.length c] 46)) (.cells #[.string ⟨#[]⟩, .bool false, .slice none 0 0] 28)
    have h2 := (New.refl ((w.alloc (.cells #[.string ⟨o.path.toArray⟩, .bool o.dir, .slice a o.ids.length c] 46)).alloc (.cells #[.string ⟨#[]⟩, .bool false, .slice none 0 0] 28))).alloc (.cells #[.string ⟨o.path.toArray⟩, .bool o.dir, .slice none 0 0] 28)
    have h3 := h2.heap this
    simpa using h3
  have hb2 : w1.heap[w.heap.size + 1 + 1]? = some (.cells #[.string ⟨o.path.toArray⟩, .bool o.dir, .slice none 0 0] 28) := by
    refine n1.heap ?_
    have := heap_alloc_new ((w.alloc (.cells #[.string ⟨o.path.toArray⟩, .bool o.dir, .slice a o.ids.length c] 46)).alloc (.cells #[.string ⟨#[]⟩, .bool false, .slice none 0 0] 28)) (.cells #[.string ⟨o.path.toArray⟩, .bool o.dir, .slice none 0 0] 28)
    simpa using this
  have c20 : w1.cell? ⟨w.heap.size + 1 + 1, 0, none⟩ = some (.string ⟨o.path.toArray⟩) := by simp [World.cell?, hb2]
  have c21 : w1.cell? ⟨w.heap.size + 1 + 1, 1, none⟩ = some (.bool o.dir) := by simp [World.cell?, hb2]
  have c22 : w1.cell? ⟨w.heap.size + 1 + 1, 2, none⟩ = some (.slice none 0 0) := by simp [World.cell?, hb2]
  have f22 : w1.frozen? ⟨w.heap.size + 1 + 1, 2, none⟩ = false := by simp [World.frozen?, hb2]
  have c10 : w1.cell? ⟨w.heap.size + 1, 0, none⟩ = some (.string ⟨#[]⟩) := by simp [World.cell?, hb1]
  have c11 : w1.cell? ⟨w.heap.size + 1, 1, none⟩ = some (.bool false) := by simp [World.cell?, hb1]
  have c12 : w1.cell? ⟨w.heap.size + 1, 2, none⟩ = some (.slice none 0 0) := by simp [World.cell?, hb1]
  have f10 : w1.frozen? ⟨w.heap.size + 1, 0, none⟩ = false := by simp [World.frozen?, hb1]
  have f11 : w1.frozen? ⟨w.heap.size + 1, 1, none⟩ = false := by simp [World.frozen?, hb1]
  have f12 : w1.frozen? ⟨w.heap.size + 1, 2, none⟩ = false := by simp [World.frozen?, hb1]
  have hs1 := n1.size
  simp only [World.size_alloc] at hs1
  have Hb1 := Lib.hid hb1
  have Hb2 := Lib.hid hb2
  have hn1 : New w w1 := ((((New.refl w).alloc _).alloc _).alloc _).trans n1
  obtain ⟨a', ca', rfl, -, -⟩ := o1.shape
  clear hb1 hb2 n1
  go_wp2_with fail
  have cs : Chg (fun k => k = w.heap.size + 1 ∨ k = w.heap.size + 1 + 1) w1 ((((w1.setCell ⟨w.heap.size + 1 + 1, 2, none⟩ (.slice a' o.ids.length ca')).setCell ⟨w.heap.size + 1, 0, none⟩ (.string ⟨o.path.toArray⟩)).setCell ⟨w.heap.size + 1, 1, none⟩ (.bool o.dir)).setCell ⟨w.heap.size + 1, 2, none⟩ (.slice a' o.ids.length ca')) :=
    ((((Chg.refl _ _).setCell _ (fun _ => .inr rfl)).setCell _ (fun _ => .inl rfl)).setCell _ (fun _ => .inl rfl)).setCell _ (fun _ => .inl rfl)
  refine bodyPost_ret (v := .agg #[.string ⟨o.path.toArray⟩, .bool o.dir, .slice a' o.ids.length ca']) (by simp [results, Tryd.results30, go_sem, c10, c11, c12]) rfl ⟨_, rfl, ?_, hn1.trans_chg cs (fun j hj hh => by omega)⟩
  refine (o1.chg cs (fun j _ hj hh => ?_)).mono (fun j _ hj => ?_)
  · simp at hj; omega
  · simp at hj; omega
end Go.Proofs.YtkffejommncinaaDoor

/- A valid item: the program's itemValid, the reference's l5Item. -/
namespace Go.Proofs.YtkffejommncinaaDoor
open Go.RowKit

def idsIn (xs : List Int) : Bool := xs.all fun i => inB i 1 99
def itemOk (o : ItemR) : Bool := pathOk o.path && decide (o.ids.length ≤ 4) && (!o.dir || o.ids.isEmpty) && idsIn o.ids
theorem idsIn_cons (x : Int) (r : List Int) : idsIn (x :: r) = (inB x 1 99 && idsIn r) := by simp [idsIn]

set_option maxRecDepth 4000 in
set_option maxHeartbeats 1000000 in
theorem implItem {S : Nat → Prop} (o : ItemR) (u : Value) (w : World) (h : Ints S w u o.ids) (hp : o.path.length ≤ 1048576) :
    Calls Tryd.prog 51 #[.agg #[txt o.path, .bool o.dir, u]] w fun e w' => e = .returned (.bool (itemOk o)) ∧ New w w' := by
  obtain ⟨l, d, xs⟩ := o
  simp only at h hp ⊢
  unfold txt
  have hn : ∀ (W : World) (o : Obj), New W (W.alloc o) := fun W o => (New.refl W).alloc o
  have Hn := Lib.hid hn
  have hps : (⟨l.toArray⟩ : ByteArray).size ≤ 1048576 := by show l.toArray.size ≤ _; simpa using hp
  have cp := fun (W : World) => implPath ⟨l.toArray⟩ W (by omega)
  rw [show (⟨l.toArray⟩ : ByteArray).data.toList = l from rfl] at cp
  have hg := fun (W : World) (n : New w W) => h.new n
  have Hg := Lib.hid hg
  obtain ⟨a, c, rfl, h1, ⟨h2, -⟩, -, -⟩ := h
  unfold maxLen at h2
  clear hn hg
  rcases hpo : pathOk l with _ | _
  · have hr : itemOk ⟨l, d, xs⟩ = false := by simp [itemOk, hpo]
    rw [hpo] at cp
    have Cp := Lib.hid cp
    rw [hr]
    clear cp hr hpo
    go_enter Tryd.func51, Tryd.ntmps51
    go_wp2_with fail
    refine (Cp.out _).mono ?_
    rintro e w1 ⟨rfl, n1⟩
    have n2 := (Hn.out w _).trans n1
    go_wp2_with fail
    go_ret
    exact ⟨rfl, n2⟩
  · rw [hpo] at cp
    have Cp := Lib.hid cp
    by_cases hl4 : 4 < xs.length
    · have hr : itemOk ⟨l, d, xs⟩ = false := by simp [itemOk, hpo]; omega
      rw [hr]
      have hl4' : (4 : Int) < (xs.length : Int) := by omega
      clear cp hr hpo
      go_enter Tryd.func51, Tryd.ntmps51
      go_wp2_with fail
      refine (Cp.out _).mono ?_
      rintro e w1 ⟨rfl, n1⟩
      have b1 : w1.heap[w.heap.size]? = _ := n1.heap (heap_alloc_new w _)
      have c2 : w1.cell? ⟨w.heap.size, 2, none⟩ = some (.slice a xs.length c) := by simp [World.cell?, b1]
      have n2 := (Hn.out w _).trans n1
      clear b1 n1
      go_wp2_with fail
      go_ret
      exact ⟨rfl, n2⟩
    · have hl4' : ¬ (4 : Int) < (xs.length : Int) := by omega
      by_cases hd : d = true ∧ 0 < xs.length
      · obtain ⟨rfl, hx0⟩ := hd
        have hr : itemOk ⟨l, true, xs⟩ = false := by
          have : xs.isEmpty = false := by rw [List.isEmpty_eq_false_iff]; intro e; subst e; simp at hx0
          simp [itemOk, this]
        rw [hr]
        have hx0' : (0 : Int) < (xs.length : Int) := by omega
        clear cp hr hpo
        go_enter Tryd.func51, Tryd.ntmps51
        go_wp2_with fail
        refine (Cp.out _).mono ?_
        rintro e w1 ⟨rfl, n1⟩
        have b1 : w1.heap[w.heap.size]? = _ := n1.heap (heap_alloc_new w _)
        have c1 : w1.cell? ⟨w.heap.size, 1, none⟩ = some (.bool true) := by simp [World.cell?, b1]
        have c2 : w1.cell? ⟨w.heap.size, 2, none⟩ = some (.slice a xs.length c) := by simp [World.cell?, b1]
        have n2 := (Hn.out w _).trans n1
        clear b1 n1
        go_wp2_with fail
        go_ret
        exact ⟨rfl, n2⟩
      · have hr : itemOk ⟨l, d, xs⟩ = idsIn xs := by
          have h4 : decide (xs.length ≤ 4) = true := by simp; omega
          have h5 : (!d || xs.isEmpty) = true := by
            rcases d with _ | _
            · rfl
            · have : ¬ 0 < xs.length := fun h => hd ⟨rfl, h⟩
              have : xs = [] := List.eq_nil_of_length_eq_zero (by omega)
              simp [this]
          simp [itemOk, hpo, h4, h5]
        rw [hr]
        have hdd : d = false ∨ (d = true ∧ ¬ (0 : Int) < (xs.length : Int)) := by
          rcases d with _ | _
          · exact .inl rfl
          · exact .inr ⟨rfl, fun h => hd ⟨rfl, by omega⟩⟩
        clear cp hr hpo hd
        rcases hdd with rfl | ⟨rfl, hx0⟩
        · go_enter Tryd.func51, Tryd.ntmps51
          go_wp2_with fail
          refine (Cp.out _).mono ?_
          rintro e w1 ⟨rfl, n1⟩
          have b1 : w1.heap[w.heap.size]? = _ := n1.heap (heap_alloc_new w _)
          have c1 : w1.cell? ⟨w.heap.size, 1, none⟩ = some (.bool false) := by simp [World.cell?, b1]
          have c2 : w1.cell? ⟨w.heap.size, 2, none⟩ = some (.slice a xs.length c) := by simp [World.cell?, b1]
          have n2 := (Hn.out w _).trans n1
          clear b1 n1
          go_wp2_with fail
          go_loopg [28] xs.length (fun gk i wr => ∃ k : Nat, gk = xs.length - k ∧ k ≤ xs.length ∧ i = .int .i64 k ∧ w1 = wr ∧ idsIn xs = idsIn (xs.drop k))
          case atStart => exact ⟨0, rfl, Nat.zero_le _, rfl, rfl, rfl⟩
          case round =>
            obtain ⟨k, hgk, hk, rfl, rfl, he⟩ := hrel
            have Hgk := Lib.hid hgk
            have He := Lib.hid he
            clear hgk he
            by_cases hlt : k < xs.length
            · obtain ⟨x, hx⟩ := get_of hlt
              obtain ⟨b', off, rfl, kx⟩ := Ints.cellAt (Hg.out _ n2) hx
              have hd2 := He.out
              rw [drop_of hx, idsIn_cons] at hd2
              by_cases hb1 : x < 1
              · have hf : idsIn xs = false := by rw [hd2]; simp [inB]; omega
                have Hf := Lib.hid hf
                clear hf hd2 hx
                go_wp2_with fail
                go_ret
                exact ⟨ret_bool Hf.out.symm, n2⟩
              · by_cases hb2 : 99 < x
                · have hf : idsIn xs = false := by rw [hd2]; simp [inB]; omega
                  have Hf := Lib.hid hf
                  clear hf hd2 hx
                  go_wp2_with fail
                  go_ret
                  exact ⟨ret_bool Hf.out.symm, n2⟩
                · have hf : idsIn xs = idsIn (xs.drop (k + 1)) := by
                    have hin : inB x 1 99 = true := by simp [inB]; omega
                    rw [hd2, hin, Bool.true_and]
                  have Hf := Lib.hid hf
                  clear hf hd2 hx
                  go_wp2_with fail
                  go_roundg (xs.length - (k + 1))
                  case measure => rw [Hgk.out]; omega
                  case rel => exact ⟨k + 1, rfl, by omega, by go_num, rfl, Hf.out⟩
            · have hf : idsIn xs = true := by rw [He.out, drop_end hlt]; rfl
              have Hf := Lib.hid hf
              clear hf
              go_wp2_with fail
              go_ret
              exact ⟨ret_bool Hf.out.symm, n2⟩
        · obtain rfl : xs = [] := List.eq_nil_of_length_eq_zero (by omega)
          have he : idsIn [] = true := rfl
          rw [he]
          simp only [List.length_nil] at h1 hl4 hl4' hx0 ⊢
          go_enter Tryd.func51, Tryd.ntmps51
          go_wp2_with fail
          refine (Cp.out _).mono ?_
          rintro e w1 ⟨rfl, n1⟩
          have b1 : w1.heap[w.heap.size]? = _ := n1.heap (heap_alloc_new w _)
          have c1 : w1.cell? ⟨w.heap.size, 1, none⟩ = some (.bool true) := by simp [World.cell?, b1]
          have c2 : w1.cell? ⟨w.heap.size, 2, none⟩ = some (.slice a 0 c) := by simp [World.cell?, b1]
          have n2 := (Hn.out w _).trans n1
          clear b1 n1
          go_wp2_with fail
          go_loopg [28] 0 (fun gk i wr => i = .int .i64 0 ∧ w1 = wr)
          case atStart => exact ⟨rfl, rfl⟩
          case round =>
            obtain ⟨rfl, rfl⟩ := hrel
            go_wp2_with fail
            go_ret
            exact ⟨rfl, n2⟩

set_option maxRecDepth 4000 in
set_option maxHeartbeats 1000000 in
theorem specItem {S : Nat → Prop} (o : ItemR) (u : Value) (w : World) (h : Ints S w u o.ids) (hp : o.path.length ≤ 1048576) :
    Calls Tryd.prog 53 #[.agg #[txt o.path, .bool o.dir, u]] w fun e w' => e = .returned (.bool (itemOk o)) ∧ New w w' := by
  obtain ⟨l, d, xs⟩ := o
  simp only at h hp ⊢
  unfold txt
  have hps : (⟨l.toArray⟩ : ByteArray).size ≤ 1048576 := by show l.toArray.size ≤ _; simpa using hp
  have cp := fun (W : World) => specPath ⟨l.toArray⟩ W (by omega)
  rw [show (⟨l.toArray⟩ : ByteArray).data.toList = l from rfl] at cp
  have Cp := Lib.hid cp
  have hg := fun (W : World) (n : New w W) => h.new n
  have Hg := Lib.hid hg
  obtain ⟨a, c, rfl, h1, ⟨h2, -⟩, -, -⟩ := h
  unfold maxLen at h2
  have n0 : New w (w.alloc (.cells #[.string ⟨l.toArray⟩, .bool d, .slice a xs.length c] 28)) := (New.refl w).alloc _
  have hce : decide (xs.length ≤ 4) = decide ((xs.length : Int) ≤ 4) := decide_eq_decide.2 (by omega)
  have Hce := Lib.hid hce
  clear cp hg hce
  by_cases hd : d = true ∧ 0 < xs.length
  · obtain ⟨rfl, hx0⟩ := hd
    have hr : itemOk ⟨l, true, xs⟩ = false := by
      have : xs.isEmpty = false := by rw [List.isEmpty_eq_false_iff]; intro e; subst e; simp at hx0
      simp [itemOk, this]
    rw [hr]
    have hx0' : (0 : Int) < (xs.length : Int) := by omega
    have k1 : (w.alloc (.cells #[.string ⟨l.toArray⟩, .bool true, .slice a xs.length c] 28)).cell? ⟨w.heap.size, 1, none⟩ = some (.bool true) := by rw [cell_alloc]; rfl
    have k2 : (w.alloc (.cells #[.string ⟨l.toArray⟩, .bool true, .slice a xs.length c] 28)).cell? ⟨w.heap.size, 2, none⟩ = some (.slice a xs.length c) := by rw [cell_alloc]; rfl
    clear hr
    go_enter Tryd.func53, Tryd.ntmps53
    go_wp2_with fail
    generalize w.alloc (.cells #[.string ⟨l.toArray⟩, .bool true, .slice a xs.length c] 28) = w1 at *
    go_loopg [3] 0 (fun gk i wr => i = .int .i64 0 ∧ w1 = wr)
    case atStart => exact ⟨rfl, rfl⟩
    case round =>
      obtain ⟨rfl, rfl⟩ := hrel
      go_wp2_with fail
      go_ret
      exact ⟨rfl, n0⟩
  · have hr : itemOk ⟨l, d, xs⟩ = (idsIn xs && (pathOk l && decide ((xs.length : Int) ≤ 4))) := by
      have h5 : (!d || xs.isEmpty) = true := by
        rcases d with _ | _
        · rfl
        · have : ¬ 0 < xs.length := fun h => hd ⟨rfl, h⟩
          have : xs = [] := List.eq_nil_of_length_eq_zero (by omega)
          simp [this]
      rw [← Hce.out]
      simp only [itemOk, h5, Bool.and_true]
      rw [Bool.and_comm]
    rw [hr]
    have k0 : (w.alloc (.cells #[.string ⟨l.toArray⟩, .bool d, .slice a xs.length c] 28)).cell? ⟨w.heap.size, 0, none⟩ = some (.string ⟨l.toArray⟩) := by rw [cell_alloc]; rfl
    have k1 : (w.alloc (.cells #[.string ⟨l.toArray⟩, .bool d, .slice a xs.length c] 28)).cell? ⟨w.heap.size, 1, none⟩ = some (.bool d) := by rw [cell_alloc]; rfl
    have k2 : (w.alloc (.cells #[.string ⟨l.toArray⟩, .bool d, .slice a xs.length c] 28)).cell? ⟨w.heap.size, 2, none⟩ = some (.slice a xs.length c) := by rw [cell_alloc]; rfl
    have hdd : ∀ k, k < xs.length → d = false := fun k hk => by
      rcases d with _ | _
      · rfl
      · exact absurd ⟨rfl, by omega⟩ hd
    have Hdd := Lib.hid hdd
    clear hr hdd hd
    go_enter Tryd.func53, Tryd.ntmps53
    go_wp2_with fail
    generalize w.alloc (.cells #[.string ⟨l.toArray⟩, .bool d, .slice a xs.length c] 28) = w1 at *
    go_loopg [3] xs.length (fun gk i wr => ∃ k : Nat, gk = xs.length - k ∧ k ≤ xs.length ∧ i = .int .i64 k ∧ w1 = wr ∧ idsIn xs = idsIn (xs.drop k))
    case atStart => exact ⟨0, rfl, Nat.zero_le _, rfl, rfl, rfl⟩
    case round =>
      obtain ⟨k, hgk, hk, rfl, rfl, he⟩ := hrel
      have Hgk := Lib.hid hgk
      have He := Lib.hid he
      clear hgk he
      by_cases hlt : k < xs.length
      · obtain rfl := Hdd.out k hlt
        obtain ⟨x, hx⟩ := get_of hlt
        obtain ⟨b', off, rfl, kx⟩ := Ints.cellAt (Hg.out _ n0) hx
        have hd2 := He.out
        rw [drop_of hx, idsIn_cons] at hd2
        rcases hin : inB x 1 99 with _ | _
        · have Hin := Lib.hid hin
          have hf : idsIn xs = false := by rw [hd2, hin]; rfl
          have Hf := Lib.hid hf
          clear hf hd2 hx hin
          go_wp2_with fail
          refine (in_is Hin.out _).mono ?_
          rintro e w2 ⟨rfl, rfl⟩
          go_wp2_with fail
          go_ret
          exact ⟨ret_bool (by rw [Hf.out]; rfl), n0⟩
        · have Hin := Lib.hid hin
          have hf : idsIn xs = idsIn (xs.drop (k + 1)) := by rw [hd2, hin, Bool.true_and]
          have Hf := Lib.hid hf
          clear hf hd2 hx hin
          go_wp2_with fail
          refine (in_is Hin.out _).mono ?_
          rintro e w2 ⟨rfl, rfl⟩
          go_wp2_with fail
          go_roundg (xs.length - (k + 1))
          case measure => rw [Hgk.out]; omega
          case rel => exact ⟨k + 1, rfl, by omega, by go_num, rfl, Hf.out⟩
      · have hf : idsIn xs = true := by rw [He.out, drop_end hlt]; rfl
        have Hf := Lib.hid hf
        clear hf
        rcases hpo : pathOk l with _ | _
        · rw [hpo] at Cp
          have Hpo := Lib.hid hpo
          clear hpo
          go_wp2_with fail
          refine (Cp.out _).mono ?_
          rintro e w2 ⟨rfl, n2⟩
          go_wp2_with fail
          go_ret
          exact ⟨ret_bool (by rw [Hf.out, Hpo.out]; rfl), n0.trans n2⟩
        · rw [hpo] at Cp
          have Hpo := Lib.hid hpo
          clear hpo
          go_wp2_with fail
          refine (Cp.out _).mono ?_
          rintro e w2 ⟨rfl, n2⟩
          have k2' := n2.cell k2
          go_wp2_with fail
          go_ret
          exact ⟨ret_bool (by rw [Hf.out, Hpo.out]; rfl), n0.trans n2⟩
end Go.Proofs.YtkffejommncinaaDoor

/- Slices of items: szItemS, eqItemS, sameTree, toItemS. -/
namespace Go.Proofs.YtkffejommncinaaDoor
open Go.RowKit

def itemFlds (os : List ItemR) : List Fld := os.flatMap ItemR.flds
/-- a slice that reads as items -/
def Items (S : Nat → Prop) (w : World) (v : Value) (os : List ItemR) : Prop := Recs 3 S w v os.length (itemFlds os)
def OwnItems (S : Nat → Prop) (w : World) (v : Value) (os : List ItemR) : Prop := OwnRecs 28 3 S w v os.length (itemFlds os)
theorem Items.at {S : Nat → Prop} {w : World} {v : Value} {os : List ItemR} (h : Items S w v os) {i : Nat} {o : ItemR} (ho : os[i]? = some o) :
    ∃ b off c u, v = .slice (some ⟨b, off, none⟩) os.length c ∧ b < w.heap.size ∧ w.cell? ⟨b, off + i * 3, none⟩ = some (txt o.path) ∧ w.cell? ⟨b, off + i * 3 + 1, none⟩ = some (.bool o.dir) ∧ w.cell? ⟨b, off + i * 3 + 2, none⟩ = some u ∧
      o.path.length ≤ maxLen ∧ Ints S w u o.ids := by
  obtain ⟨b, off, c, rfl, hS, hb, hc⟩ := h.head (by have := (List.getElem?_eq_some_iff.1 ho).1; omega)
  have g := fun j hj => flds_get ItemR.flds 3 (fun _ => rfl) os (j := j) ho hj
  obtain ⟨u0, c0, r0, l0⟩ := hc (i * 3 + 0) (.txt o.path) (g 0 (by omega))
  obtain ⟨u1, c1, r1⟩ := hc (i * 3 + 1) (.bool o.dir) (g 1 (by omega))
  obtain ⟨u2, c2, r2⟩ := hc (i * 3 + 2) (.nums o.ids) (g 2 (by omega))
  subst r0
  have r1' : u1 = .bool o.dir := r1
  subst r1'
  exact ⟨b, off, c, u2, rfl, hb, c0, c1, c2, l0, r2⟩

def SzPostI (os : List ItemR) (w : World) (e : Ending) (w' : World) : Prop :=
  ∃ r : Int, e = .returned (.int .i64 r) ∧ r ≤ 1048576 ∧ (0 ≤ r → os.length ≤ 1048576 ∧ ∀ o ∈ os, o.size ≤ 1048576) ∧ New w w'

set_option maxRecDepth 4000 in
set_option maxHeartbeats 400000 in
theorem szItems {S : Nat → Prop} (v : Value) (os : List ItemR) (w : World) (h : Items S w v os) :
    Calls Tryd.prog 24 #[v, .int .i64 1048576] w (SzPostI os w) := by
  have h0 := h
  obtain ⟨-, a, c, rfl, h1, h2, -⟩ := h
  unfold maxLen at h2
  by_cases hl : 1048576 < os.length
  · have h5 : (1048576 : Int) - (os.length : Int) < 0 := by omega
    go_enter Tryd.func24, Tryd.ntmps24
    go_wp2
    go_ret
    exact ⟨-1, rfl, by omega, fun h => by omega, New.refl _⟩
  · have h5 : ¬ ((1048576 : Int) - (os.length : Int) < 0) := by omega
    have hat := fun (W : World) (n : New w W) (k : Nat) (o : ItemR) (ho : os[k]? = some o) => Items.at (Recs.new h0 n) ho
    have Hat := Lib.hid hat
    clear hat
    go_enter Tryd.func24, Tryd.ntmps24
    go_wp2
    go_loopg [1, 5] os.length (fun gk s1 s5 wr => ∃ (k : Nat) (r : Int), gk = os.length - k ∧ k ≤ os.length ∧ s5 = .int .i64 k ∧ s1 = .int .i64 r ∧ 0 ≤ r ∧ r ≤ 1048576 ∧ (∀ o ∈ os.take k, o.size ≤ 1048576) ∧ New w wr)
    case atStart => exact ⟨0, 1048576 - os.length, by omega, by omega, rfl, rfl, by omega, by omega, by simp, New.refl _⟩
    case round =>
      obtain ⟨k, r, hgk, hk, rfl, rfl, hr0, hr1, hall, hn⟩ := hrel
      have Hgk := Lib.hid hgk
      have Hall := Lib.hid hall
      clear hgk hall
      by_cases hlt : k < os.length
      · obtain ⟨o, ho⟩ := get_of hlt
        obtain ⟨b, off, c', u, e1, hb, c0, c1, c2, lp, r2⟩ := Hat.out wr hn k o ho
        simp only [Value.slice.injEq] at e1
        obtain ⟨rfl, -, rfl⟩ := e1
        have hsz := szItem o u r wr r2 lp hr0 hr1
        unfold txt at c0 hsz
        have Hsz := Lib.hid hsz
        have Ho := Lib.hid ho
        clear hsz ho
        go_wp2_with fail
        refine Hsz.out.mono ?_
        by_cases hb1 : r < o.size
        · rw [if_pos hb1]
          rintro e w1 ⟨rfl, n1⟩
          go_wp2_with fail
          go_ret
          exact ⟨-1, rfl, by omega, fun h => by omega, hn.trans n1⟩
        · rw [if_neg hb1]
          rintro e w1 ⟨rfl, n1⟩
          have hge : ¬ (r - (o.size : Int) < 0) := by omega
          have hos : o.size ≤ 1048576 := by omega
          go_wp2_with fail
          go_roundg (os.length - (k + 1))
          case measure => rw [Hgk.out]; omega
          case rel =>
            refine ⟨k + 1, r - o.size, rfl, by omega, by go_num, rfl, by omega, by omega, fun x hx => ?_, hn.trans n1⟩
            rw [List.take_succ_eq_append_getElem hlt, List.mem_append, List.mem_singleton] at hx
            rcases hx with hx | rfl
            · exact Hall.out x hx
            · have := (List.getElem?_eq_some_iff.1 Ho.out).2
              rw [this]; exact hos
      · go_wp2_with fail
        go_ret
        refine ⟨r, rfl, hr1, fun _ => ⟨by omega, fun o ho => ?_⟩, hn⟩
        have := Hall.out
        rw [List.take_of_length_le (by omega)] at this
        exact this o ho

set_option maxRecDepth 4000 in
set_option maxHeartbeats 400000 in
theorem sameItem {S T : Nat → Prop} (o p : ItemR) (u t : Value) (w : World) (h : Ints S w u o.ids) (g : Ints T w t p.ids) :
    Calls Tryd.prog 14 #[.agg #[txt o.path, .bool o.dir, u], .agg #[txt p.path, .bool p.dir, t]] w fun e w' => e = .returned (.bool (decide (o = p))) ∧ New w w' := by
  obtain ⟨k, l, xs⟩ := o
  obtain ⟨k', l', ys⟩ := p
  simp only at h g ⊢
  unfold txt
  have hn : ∀ (W : World) (o o' : Obj), New W ((W.alloc o).alloc o') := fun W o o' => ((New.refl W).alloc o).alloc o'
  have Hn := Lib.hid hn
  have heq := fun (W : World) (n : New w W) => sameInts u t xs ys W (h.new n) (g.new n)
  have Heq := Lib.hid heq
  obtain ⟨a, c, rfl, h1, ⟨h2, -⟩, -, -⟩ := h
  obtain ⟨a', c', rfl, g1, ⟨g2, -⟩, -, -⟩ := g
  unfold maxLen at h2 g2
  clear hn heq
  by_cases hk : k = k'
  · subst hk
    by_cases hl : l = l'
    · subst hl
      by_cases hx : xs = ys
      · have hd : decide (ItemR.mk k l xs = ItemR.mk k l ys) = true := by simp [hx]
        have hd2 : decide (xs = ys) = true := by simp [hx]
        rw [hd]
        rw [hd2] at Heq
        clear hd hd2 hx
        go_enter Tryd.func14, Tryd.ntmps14
        go_wp2_with fail
        refine (Heq.out _ (Hn.out _ _ _)).mono ?_
        rintro e w1 ⟨rfl, d1⟩
        have n1 := (Hn.out w _ _).trans d1.new
        clear d1
        go_wp2_with fail
        go_ret
        exact ⟨rfl, n1⟩
      · have hd : decide (ItemR.mk k l xs = ItemR.mk k l ys) = false := by simp [hx]
        have hd2 : decide (xs = ys) = false := by simp [hx]
        rw [hd]
        rw [hd2] at Heq
        clear hd hd2 hx
        go_enter Tryd.func14, Tryd.ntmps14
        go_wp2_with fail
        refine (Heq.out _ (Hn.out _ _ _)).mono ?_
        rintro e w1 ⟨rfl, d1⟩
        have n1 := (Hn.out w _ _).trans d1.new
        clear d1
        go_wp2_with fail
        go_ret
        exact ⟨rfl, n1⟩
    · have hd : decide (ItemR.mk k l xs = ItemR.mk k l' ys) = false := by simp [hl]
      rw [hd]
      have hcs : (l = true ∧ l' = false) ∨ (l = false ∧ l' = true) := by revert hl; cases l <;> cases l' <;> simp
      clear hd hl
      rcases hcs with ⟨rfl, rfl⟩ | ⟨rfl, rfl⟩
      all_goals
        go_enter Tryd.func14, Tryd.ntmps14
        go_wp2_with fail
        go_ret
        exact ⟨rfl, Hn.out _ _ _⟩
  · have hd : decide (ItemR.mk k l xs = ItemR.mk k' l' ys) = false := by simp [hk]
    have hb : (k == k') = false := by simp [hk]
    have hb2 : (k != k') = true := by simp [hk]
    rw [hd]
    clear hd hk
    go_enter Tryd.func14, Tryd.ntmps14
    go_wp2_with fail
    go_ret
    exact ⟨rfl, Hn.out _ _ _⟩

set_option maxRecDepth 4000 in
set_option maxHeartbeats 400000 in
theorem eqItems {S T : Nat → Prop} (v u : Value) (xs ys : List ItemR) (w : World) (h : Items S w v xs) (g : Items T w u ys) :
    Calls Tryd.prog 26 #[v, u] w fun e w' => e = .returned (.bool (decide (xs = ys))) ∧ New w w' := by
  have h0 := h
  have g0 := g
  obtain ⟨-, a, c, rfl, h1, h2, -⟩ := h
  obtain ⟨-, a', c', rfl, g1, g2, -⟩ := g
  unfold maxLen at h2 g2
  by_cases hl : xs.length = ys.length
  · have e0 := eqLs_is xs ys hl
    have E0 := Lib.hid e0
    have hne : (((xs.length : Int) != (ys.length : Int))) = false := by simp [hl]
    have Hl := Lib.hid hl
    have hat := fun (W : World) (n : New w W) (k : Nat) (o : ItemR) (ho : xs[k]? = some o) => Items.at (Recs.new h0 n) ho
    have gat := fun (W : World) (n : New w W) (k : Nat) (o : ItemR) (ho : ys[k]? = some o) => Items.at (Recs.new g0 n) ho
    have Hat := Lib.hid hat
    have Gat := Lib.hid gat
    clear e0 hl hat gat
    go_enter Tryd.func26, Tryd.ntmps26
    go_wp2
    go_loopg [5] xs.length (fun gk i wr => ∃ (k : Nat), gk = xs.length - k ∧ k ≤ xs.length ∧ i = .int .i64 k ∧ New w wr ∧ eqLs ItemR xs ys = eqLs ItemR (xs.drop k) (ys.drop k))
    case atStart => exact ⟨0, by omega, Nat.zero_le _, rfl, New.refl _, rfl⟩
    case round =>
      obtain ⟨k, hgk, hk, rfl, hw, he⟩ := hrel
      have Hgk := Lib.hid hgk
      have He := Lib.hid he
      clear he hgk
      by_cases hlt : k < xs.length
      · obtain ⟨x, hx⟩ := get_of hlt
        have hlt2 : k < ys.length := by rw [← Hl.out]; exact hlt
        obtain ⟨y, hy⟩ := get_of hlt2
        obtain ⟨b, off, cb, r, e1, -, c0, c1, c2, -, r2⟩ := Hat.out wr hw k x hx
        obtain ⟨b', off', cb', r', e2, -, d0, d1, d2, -, s2⟩ := Gat.out wr hw k y hy
        simp only [Value.slice.injEq] at e1 e2
        obtain ⟨rfl, -, rfl⟩ := e1
        obtain ⟨rfl, -, rfl⟩ := e2
        have Hx := Lib.hid (drop_of hx)
        have Hy := Lib.hid (drop_of hy)
        have n3 : New wr (wr.drewN 1) := (New.refl _).drewN 1
        have hcall := eqItem x y r r' (wr.drewN 1) (r2.new n3) (s2.new n3)
        unfold txt at c0 d0 hcall
        have C0 : (wr.drewN 1).cell? ⟨b, off + k * 3, none⟩ = some (.string ⟨x.path.toArray⟩) := c0
        have C1 : (wr.drewN 1).cell? ⟨b, off + k * 3 + 1, none⟩ = some (.bool x.dir) := c1
        have C2 : (wr.drewN 1).cell? ⟨b, off + k * 3 + 2, none⟩ = some r := c2
        have D0 : (wr.drewN 1).cell? ⟨b', off' + k * 3, none⟩ = some (.string ⟨y.path.toArray⟩) := d0
        have D1 : (wr.drewN 1).cell? ⟨b', off' + k * 3 + 1, none⟩ = some (.bool y.dir) := d1
        have D2 : (wr.drewN 1).cell? ⟨b', off' + k * 3 + 2, none⟩ = some r' := d2
        have Hcall := Lib.hid hcall
        clear hcall hx hy r2 s2 c0 c1 c2 d0 d1 d2
        by_cases hxy : x = y
        · have hd : decide (x = y) = true := by simp [hxy]
          rw [hd] at Hcall
          have Hxy := Lib.hid hxy
          clear hd hxy
          go_wp2
          refine wp_region_still_tail 8 (by kernel_rfl) (by kernel_rfl) ?_
          simp only [List.take_succ_cons, List.take_zero, List.drop_succ_cons, List.drop_zero]
          change wpStill _ _ (wr.drewN 1) (fun a' => wpList _ _ _ _ a' (wr.drewN 1)) _ _
          generalize hw3 : wr.drewN 1 = w3 at *
          have Hw3 := Lib.hid hw3
          clear hw3
          iterate 8 still_step
          refine wpStill_nil ?_
          go_wp2_with fail
          refine Hcall.out.mono ?_
          rintro e w4 ⟨rfl, n4⟩
          go_wp2_with fail
          go_roundg (xs.length - (k + 1))
          case measure => rw [Hgk.out]; omega
          case rel => exact ⟨k + 1, rfl, by omega, by go_num, (hw.trans n3).trans n4, by rw [He.out, Hx.out, Hy.out, eqLs, if_pos Hxy.out]⟩
        · have hd : decide (x = y) = false := by simp [hxy]
          rw [hd] at Hcall
          have Hxy := Lib.hid hxy
          clear hd hxy
          go_wp2
          refine wp_region_still_tail 8 (by kernel_rfl) (by kernel_rfl) ?_
          simp only [List.take_succ_cons, List.take_zero, List.drop_succ_cons, List.drop_zero]
          change wpStill _ _ (wr.drewN 1) (fun a' => wpList _ _ _ _ a' (wr.drewN 1)) _ _
          generalize hw3 : wr.drewN 1 = w3 at *
          have Hw3 := Lib.hid hw3
          clear hw3
          iterate 8 still_step
          refine wpStill_nil ?_
          go_wp2_with fail
          refine Hcall.out.mono ?_
          rintro e w4 ⟨rfl, n4⟩
          go_wp2_with fail
          go_ret
          exact ⟨ret_bool (by rw [← E0.out, He.out, Hx.out, Hy.out, eqLs, if_neg Hxy.out]), (hw.trans n3).trans n4⟩
      · go_wp2
        go_ret
        exact ⟨ret_bool (by rw [← E0.out, He.out, drop_end hlt]; simp [eqLs]), hw⟩
  · have hne : (((xs.length : Int) != (ys.length : Int))) = true := by simp; omega
    have Hl := Lib.hid hl
    clear hl
    go_enter Tryd.func26, Tryd.ntmps26
    go_wp2
    go_ret
    exact ⟨ret_bool (by simp; intro e; exact Hl.out (by rw [e])), New.refl _⟩
set_option maxRecDepth 4000 in
set_option maxHeartbeats 400000 in
theorem sameTree {S T : Nat → Prop} (v u : Value) (xs ys : List ItemR) (w : World) (h : Items S w v xs) (g : Items T w u ys) :
    Calls Tryd.prog 20 #[v, u] w fun e w' => e = .returned (.bool (decide (xs = ys))) ∧ New w w' := by
  have h0 := h
  have g0 := g
  obtain ⟨-, a, c, rfl, h1, h2, -⟩ := h
  obtain ⟨-, a', c', rfl, g1, g2, -⟩ := g
  unfold maxLen at h2 g2
  by_cases hl : xs.length = ys.length
  · have e0 := eqLs_is xs ys hl
    have E0 := Lib.hid e0
    have hne : (((xs.length : Int) != (ys.length : Int))) = false := by simp [hl]
    have Hl := Lib.hid hl
    have hat := fun (W : World) (n : New w W) (k : Nat) (o : ItemR) (ho : xs[k]? = some o) => Items.at (Recs.new h0 n) ho
    have gat := fun (W : World) (n : New w W) (k : Nat) (o : ItemR) (ho : ys[k]? = some o) => Items.at (Recs.new g0 n) ho
    have Hat := Lib.hid hat
    have Gat := Lib.hid gat
    clear e0 hl hat gat
    go_enter Tryd.func20, Tryd.ntmps20
    go_wp2
    go_loopg [5] xs.length (fun gk i wr => ∃ (k : Nat), gk = xs.length - k ∧ k ≤ xs.length ∧ i = .int .i64 k ∧ New w wr ∧ eqLs ItemR xs ys = eqLs ItemR (xs.drop k) (ys.drop k))
    case atStart => exact ⟨0, by omega, Nat.zero_le _, rfl, New.refl _, rfl⟩
    case round =>
      obtain ⟨k, hgk, hk, rfl, hw, he⟩ := hrel
      have Hgk := Lib.hid hgk
      have He := Lib.hid he
      clear he hgk
      by_cases hlt : k < xs.length
      · obtain ⟨x, hx⟩ := get_of hlt
        have hlt2 : k < ys.length := by rw [← Hl.out]; exact hlt
        obtain ⟨y, hy⟩ := get_of hlt2
        obtain ⟨b, off, cb, r, e1, -, c0, c1, c2, -, r2⟩ := Hat.out wr hw k x hx
        obtain ⟨b', off', cb', r', e2, -, d0, d1, d2, -, s2⟩ := Gat.out wr hw k y hy
        simp only [Value.slice.injEq] at e1 e2
        obtain ⟨rfl, -, rfl⟩ := e1
        obtain ⟨rfl, -, rfl⟩ := e2
        have Hx := Lib.hid (drop_of hx)
        have Hy := Lib.hid (drop_of hy)
        have n3 : New wr (wr.drewN 1) := (New.refl _).drewN 1
        have hcall := sameItem x y r r' (wr.drewN 1) (r2.new n3) (s2.new n3)
        unfold txt at c0 d0 hcall
        have C0 : (wr.drewN 1).cell? ⟨b, off + k * 3, none⟩ = some (.string ⟨x.path.toArray⟩) := c0
        have C1 : (wr.drewN 1).cell? ⟨b, off + k * 3 + 1, none⟩ = some (.bool x.dir) := c1
        have C2 : (wr.drewN 1).cell? ⟨b, off + k * 3 + 2, none⟩ = some r := c2
        have D0 : (wr.drewN 1).cell? ⟨b', off' + k * 3, none⟩ = some (.string ⟨y.path.toArray⟩) := d0
        have D1 : (wr.drewN 1).cell? ⟨b', off' + k * 3 + 1, none⟩ = some (.bool y.dir) := d1
        have D2 : (wr.drewN 1).cell? ⟨b', off' + k * 3 + 2, none⟩ = some r' := d2
        have Hcall := Lib.hid hcall
        clear hcall hx hy r2 s2 c0 c1 c2 d0 d1 d2
        by_cases hxy : x = y
        · have hd : decide (x = y) = true := by simp [hxy]
          rw [hd] at Hcall
          have Hxy := Lib.hid hxy
          clear hd hxy
          go_wp2
          refine wp_region_still_tail 8 (by kernel_rfl) (by kernel_rfl) ?_
          simp only [List.take_succ_cons, List.take_zero, List.drop_succ_cons, List.drop_zero]
          change wpStill _ _ (wr.drewN 1) (fun a' => wpList _ _ _ _ a' (wr.drewN 1)) _ _
          generalize hw3 : wr.drewN 1 = w3 at *
          have Hw3 := Lib.hid hw3
          clear hw3
          iterate 8 still_step
          refine wpStill_nil ?_
          go_wp2_with fail
          refine Hcall.out.mono ?_
          rintro e w4 ⟨rfl, n4⟩
          go_wp2_with fail
          go_roundg (xs.length - (k + 1))
          case measure => rw [Hgk.out]; omega
          case rel => exact ⟨k + 1, rfl, by omega, by go_num, (hw.trans n3).trans n4, by rw [He.out, Hx.out, Hy.out, eqLs, if_pos Hxy.out]⟩
        · have hd : decide (x = y) = false := by simp [hxy]
          rw [hd] at Hcall
          have Hxy := Lib.hid hxy
          clear hd hxy
          go_wp2
          refine wp_region_still_tail 8 (by kernel_rfl) (by kernel_rfl) ?_
          simp only [List.take_succ_cons, List.take_zero, List.drop_succ_cons, List.drop_zero]
          change wpStill _ _ (wr.drewN 1) (fun a' => wpList _ _ _ _ a' (wr.drewN 1)) _ _
          generalize hw3 : wr.drewN 1 = w3 at *
          have Hw3 := Lib.hid hw3
          clear hw3
          iterate 8 still_step
          refine wpStill_nil ?_
          go_wp2_with fail
          refine Hcall.out.mono ?_
          rintro e w4 ⟨rfl, n4⟩
          go_wp2_with fail
          go_ret
          exact ⟨ret_bool (by rw [← E0.out, He.out, Hx.out, Hy.out, eqLs, if_neg Hxy.out]), (hw.trans n3).trans n4⟩
      · go_wp2
        go_ret
        exact ⟨ret_bool (by rw [← E0.out, He.out, drop_end hlt]; simp [eqLs]), hw⟩
  · have hne : (((xs.length : Int) != (ys.length : Int))) = true := by simp; omega
    have Hl := Lib.hid hl
    clear hl
    go_enter Tryd.func20, Tryd.ntmps20
    go_wp2
    go_ret
    exact ⟨ret_bool (by simp; intro e; exact Hl.out (by rw [e])), New.refl _⟩

theorem slItem : SliceOf Tryd.prog 23 28 (.agg #[.string ByteArray.empty, .bool false, .slice none 0 0]) 3 48 := by refine ⟨by kernel_rfl, by kernel_rfl, rfl, by decide⟩

def ToItemsPost (os : List ItemR) (w : World) (e : Ending) (w' : World) : Prop :=
  ∃ v, e = .returned v ∧ OwnItems (fun j => w.heap.size ≤ j) w' v os ∧ New w w'

set_option maxRecDepth 4000 in
set_option maxHeartbeats 400000 in
theorem toItems {S : Nat → Prop} (v : Value) (os : List ItemR) (w : World) (h : Items S w v os) (hl : os.length ≤ 1048576) (hall : ∀ o ∈ os, o.size ≤ 1048576) :
    Calls Tryd.prog 25 #[v] w (ToItemsPost os w) := by
  have h0 := h
  obtain ⟨-, a, c, rfl, h1, h2, -⟩ := h
  unfold maxLen at h2
  have hat := fun (W : World) (n : New w W) (k : Nat) (o : ItemR) (ho : os[k]? = some o) => Items.at (Recs.new h0 n) ho
  have Hat := Lib.hid hat
  have Hall := Lib.hid hall
  clear hat hall
  go_enter Tryd.func25, Tryd.ntmps25
  go_wp2_with (at_make; refine wpRow_make slItem _ _ rfl rfl .i64 .i64 os.length rfl rfl (by omega) (by unfold maxLen; omega) ?_; intro w1 hrow hn1 hlt1)
  go_loopg [4] os.length (fun gk i wr => ∃ (k : Nat) (us : List Value), gk = os.length - k ∧ k ≤ os.length ∧ i = .int .i64 k ∧ us.length = os.length * 3 ∧ New w wr ∧ Row 28 3 (fun j => j = w.heap.size) wr (.slice (some ⟨w.heap.size, 0, none⟩) os.length os.length) os.length us ∧
    Fields (fun j => w.heap.size < j) wr (us.take (k * 3)) (itemFlds (os.take k)))
  case atStart => exact ⟨0, _, by omega, by omega, rfl, by simpa using hrow.1.1, hn1, hrow, by simp [itemFlds, Fields]⟩
  case round =>
    obtain ⟨k, us, hgk, hk, rfl, hul, hn, hr, hf⟩ := hrel
    have Hgk := Lib.hid hgk
    have Hul := Lib.hid hul
    clear hgk hul
    by_cases hlt : k < os.length
    · obtain ⟨o, ho⟩ := get_of hlt
      obtain ⟨b, off, c', u, e1, hb, c0, c1, c2, lp, r2⟩ := Hat.out wr hn k o ho
      simp only [Value.slice.injEq] at e1
      obtain ⟨rfl, -, rfl⟩ := e1
      have hos := Hall.out o (List.mem_of_getElem? ho)
      have htake : os.take (k + 1) = os.take k ++ [o] := by
        obtain ⟨hk', e⟩ := List.getElem?_eq_some_iff.1 ho
        rw [List.take_succ_eq_append_getElem hk', e]
      have Htake := Lib.hid htake
      have hcall := toItem o u wr r2 (by unfold ItemR.size at hos; omega)
      unfold txt at c0 hcall
      have Hcall := Lib.hid hcall
      have hix : ∀ j, j < 3 → k * 3 + j < us.length := fun j hj => by rw [Hul.out]; omega
      have Hix := Lib.hid hix
      clear hcall ho r2 htake hix
      go_wp2_with fail
      refine Hcall.out.mono ?_
      rintro e w2 ⟨u', rfl, o1, n2⟩
      unfold txt
      obtain ⟨a', ca', rfl, -, -⟩ := o1.shape
      have hr2 := hr.new n2
      obtain ⟨x0, hx0⟩ := get_of (Hix.out 0 (by omega))
      obtain ⟨x1, hx1⟩ := get_of (Hix.out 1 (by omega))
      obtain ⟨x2, hx2⟩ := get_of (Hix.out 2 (by omega))
      have g0 := hr2.cellAt hx0
      have g1 := hr2.cellAt hx1
      have g2 := hr2.cellAt hx2
      have f0 := hr2.frozenAt (k * 3)
      have f1 := hr2.frozenAt (k * 3 + 1)
      have f2 := hr2.frozenAt (k * 3 + 2)
      rw [Nat.add_zero] at g0
      have hf2' := (hf.old).new n2
      have hnn := hn.trans n2
      have hsz := hn.size
      have hsz2 := n2.size
      have hposr : w.heap.size < wr.heap.size := hr.lt w.heap.size rfl
      clear hx0 hx1 hx2 hr hf
      go_wp2_with fail
      have hr3 := ((hr2.set (k * 3) (.string ⟨o.path.toArray⟩)).set (k * 3 + 1) (.bool o.dir)).set (k * 3 + 2) (.slice a' o.ids.length ca')
      have cs := chg_set3 w2 w.heap.size (k * 3) (k * 3 + 1) (k * 3 + 2) (.string ⟨o.path.toArray⟩) (.bool o.dir) (.slice a' o.ids.length ca')
      go_roundg (os.length - (k + 1))
      case measure => rw [Hgk.out]; omega
      case rel =>
        refine ⟨k + 1, _, rfl, by omega, by go_num, by simp [Hul.out], hnn.trans_chg cs (fun j hj hh => by omega), hr3, ?_⟩
        have e3 : (k + 1) * 3 = k * 3 + 3 := by omega
        have hpos : w.heap.size < wr.heap.size := by
          exact hposr
        rw [e3, take_set3 (Hix.out 2 (by omega)), Htake.out]
        unfold itemFlds
        rw [List.flatMap_append]
        have f1 : Fields (fun j => wr.heap.size ≤ j) w2 [.string ⟨o.path.toArray⟩, .bool o.dir, .slice a' o.ids.length ca'] o.flds := by
          exact ⟨⟨rfl, lp⟩, rfl, (OwnI.of o1).mono (fun j _ hj => ⟨⟨hj, by simp [blk]⟩, by simp [blk]⟩), trivial⟩
        have f2 := Fields.append f1 hf2' (fun j hj hT => by omega)
        refine (f2.chg cs (fun j _ hj hh => by rcases hj with hj | hj <;> omega)).mono (fun j _ hj => by rcases hj with hj | hj <;> omega)
    · go_wp2_with fail
      go_ret
      have hf' := hf
      rw [List.take_of_length_le (by rw [Hul.out]; omega), List.take_of_length_le (by omega)] at hf'
      exact ⟨_, rfl, ⟨us, hr.mono (fun j _ hj => by omega), hf'.mono (fun j _ hj => ⟨by omega, by simp [Value.ownBlock]; omega⟩)⟩, hn⟩

end Go.Proofs.YtkffejommncinaaDoor

/- Slices of strings: eqStringS, sameTexts, markStringS, heldStringS. -/
namespace Go.Proofs.YtkffejommncinaaDoor
open Go.RowKit

def strFlds (os : List (List UInt8)) : List Fld := os.map .txt
/-- a slice that reads as texts -/
def Strs (S : Nat → Prop) (w : World) (v : Value) (os : List (List UInt8)) : Prop := Recs 1 S w v os.length (strFlds os)
def OwnStrs (S : Nat → Prop) (w : World) (v : Value) (os : List (List UInt8)) : Prop := OwnRecs 9 1 S w v os.length (strFlds os)
theorem strFlds_get {os : List (List UInt8)} {j : Nat} {o : List UInt8} (h : os[j]? = some o) : (strFlds os)[j]? = some (.txt o) := by simp [strFlds, h]
theorem len_strFlds (os : List (List UInt8)) : (strFlds os).length = os.length := by simp [strFlds]
theorem sizes_str : ∀ os : List (List UInt8), sizes (strFlds os) = os.length
  | [] => rfl
  | o :: r => by
    show sizes ([.txt o] ++ strFlds r) = _
    rw [sizes_append, sizes_str r]
    simp [sizes, Fld.size]; omega
theorem Strs.at {S : Nat → Prop} {w : World} {v : Value} {os : List (List UInt8)} (h : Strs S w v os) {i : Nat} {o : List UInt8} (ho : os[i]? = some o) :
    ∃ b off c, v = .slice (some ⟨b, off, none⟩) os.length c ∧ b < w.heap.size ∧ w.cell? ⟨b, off + i, none⟩ = some (txt o) ∧ o.length ≤ maxLen := by
  obtain ⟨b, off, c, rfl, hS, hb, hc⟩ := h.head (by have := (List.getElem?_eq_some_iff.1 ho).1; omega)
  obtain ⟨u0, c0, r0, l0⟩ := hc i (.txt o) (strFlds_get ho)
  subst r0
  exact ⟨b, off, c, rfl, hb, c0, l0⟩

end Go.Proofs.YtkffejommncinaaDoor
