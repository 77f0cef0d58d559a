/- Several texts in one. -/
import Derived.Test.YtkffejommncinaaDoorRows
import Derived.WalkKit
import Derived.WalkSpells
import Derived.WalkLawsBesides
import Derived.BigQuiet
import Derived.Deep.QuietTactic
import Derived.Lib.Hide
import Derived.Maps.AppendAt
import Derived.Lib.Strings
import Derived.Lib.IndexBytes
import Derived.Deep.LoopGhost
/- Base of this seat's proofs: how one world changes into another, and how slices of numbers read; nothing here speaks of one Go function. -/
namespace Go.Proofs.YtkffejommncinaaDoor
open Go.RowKit

/-- Of the blocks that were there, only those in S may have changed. -/
structure Chg (S : Nat → Prop) (w w' : World) : Prop where
  os : w'.os = w.os
  tape : w'.tape = w.tape
  output : w'.output = w.output
  size : w.heap.size ≤ w'.heap.size
  block : ∀ k, k < w.heap.size → ¬ S k → w'.heap[k]? = w.heap[k]?

/-- No block that was there has changed. -/
def New (w w' : World) : Prop := Chg (fun _ => False) w w'

theorem Chg.refl (S : Nat → Prop) (w : World) : Chg S w w := ⟨rfl, rfl, rfl, Nat.le_refl _, fun _ _ _ => rfl⟩
theorem New.refl (w : World) : New w w := Chg.refl _ w

theorem Chg.mono {S T : Nat → Prop} {w w' : World} (h : Chg S w w') (hs : ∀ k, k < w.heap.size → S k → T k) : Chg T w w' :=
  ⟨h.os, h.tape, h.output, h.size, fun k hk hn => h.block k hk fun hS => hn (hs k hk hS)⟩

theorem Chg.trans {S : Nat → Prop} {w w1 w2 : World} (h : Chg S w w1) (g : Chg S w1 w2) : Chg S w w2 :=
  ⟨g.os.trans h.os, g.tape.trans h.tape, g.output.trans h.output, Nat.le_trans h.size g.size,
    fun k hk hn => (g.block k (Nat.lt_of_lt_of_le hk h.size) hn).trans (h.block k hk hn)⟩

theorem New.trans {w w1 w2 : World} (h : New w w1) (g : New w1 w2) : New w w2 := Chg.trans h g
theorem New.chg {w w' : World} (h : New w w') (S : Nat → Prop) : Chg S w w' := Chg.mono h fun _ _ hf => hf.elim
theorem New.size {w w' : World} (h : New w w') : w.heap.size ≤ w'.heap.size := Chg.size h

/-- A change of T, where what of T was there already is in S. -/
theorem Chg.step {S T : Nat → Prop} {w w1 w2 : World} (h : Chg S w w1) (g : Chg T w1 w2) (ht : ∀ k, k < w.heap.size → T k → S k) : Chg S w w2 :=
  ⟨g.os.trans h.os, g.tape.trans h.tape, g.output.trans h.output, Nat.le_trans h.size g.size,
    fun k hk hn => (g.block k (Nat.lt_of_lt_of_le hk h.size) (fun hT => hn (ht k hk hT))).trans (h.block k hk hn)⟩

/-- A change of what was made since w is no change of w's own blocks. -/
theorem New.trans_chg {S : Nat → Prop} {w w1 w2 : World} (h : New w w1) (g : Chg S w1 w2) (hs : ∀ k, k < w.heap.size → ¬ S k) : New w w2 :=
  ⟨g.os.trans h.os, g.tape.trans h.tape, g.output.trans h.output, Nat.le_trans h.size g.size,
    fun k hk hn => (g.block k (Nat.lt_of_lt_of_le hk h.size) (hs k hk)).trans (Chg.block h k hk hn)⟩

theorem Chg.drewN {S : Nat → Prop} {w w1 : World} (h : Chg S w w1) (n : Nat) : Chg S w (w1.drewN n) := ⟨h.os, h.tape, h.output, h.size, h.block⟩
theorem Chg.drew {S : Nat → Prop} {w w1 : World} (h : Chg S w w1) : Chg S w w1.drew := ⟨h.os, h.tape, h.output, h.size, h.block⟩
theorem New.drewN {w w1 : World} (h : New w w1) (n : Nat) : New w (w1.drewN n) := Chg.drewN h n
theorem New.drew {w w1 : World} (h : New w w1) : New w w1.drew := Chg.drew h

theorem Chg.alloc {S : Nat → Prop} {w w1 : World} (h : Chg S w w1) (o : Obj) : Chg S w (w1.alloc o) :=
  ⟨h.os, h.tape, h.output, by have := h.size; simp; omega, fun k hk hn => by
    rw [Below.heap_alloc _ _ _ (Nat.lt_of_lt_of_le hk h.size)]; exact h.block k hk hn⟩
theorem New.alloc {w w1 : World} (h : New w w1) (o : Obj) : New w (w1.alloc o) := Chg.alloc h o

theorem Chg.setCell {S : Nat → Prop} {w w1 : World} (h : Chg S w w1) {a : Addr} (v : Value) (ha : a.block < w.heap.size → S a.block) : Chg S w (w1.setCell a v) :=
  ⟨h.os, h.tape, h.output, by have := h.size; simp; omega, fun k hk hn => by
    rw [Below.heap_setCell _ _ _ _ (fun e => hn (by rw [e]; exact ha (by omega)))]; exact h.block k hk hn⟩
theorem New.setCell {w w1 : World} (h : New w w1) {a : Addr} (v : Value) (ha : w.heap.size ≤ a.block) : New w (w1.setCell a v) := Chg.setCell h v fun hl => by omega

theorem Chg.grown {S : Nat → Prop} {w w1 w2 : World} {row : Option Nat} (h : Chg S w w1) (g : w1.grownBy w2 row) (hr : ∀ k, row = some k → k < w.heap.size → S k) : Chg S w w2 :=
  ⟨g.os.trans h.os, g.tape.trans h.tape, g.output.trans h.output, Nat.le_trans h.size g.size, fun k hk hn =>
    (g.block k (Nat.lt_of_lt_of_le hk h.size) (fun e => hn (hr k e.symm hk))).trans (h.block k hk hn)⟩
theorem New.grown {w w1 w2 : World} {row : Option Nat} (h : New w w1) (g : w1.grownBy w2 row) (hr : ∀ k, row = some k → w.heap.size ≤ k) : New w w2 :=
  Chg.grown h g fun k e hk => by have := hr k e; omega

theorem New.below {w w' : World} (h : New w w') : Below w.heap.size w w' := ⟨h.os, h.tape, h.output, h.size, fun k hk => Chg.block h k hk (fun hf => hf)⟩
theorem New.of_below {w w' : World} (h : Below w.heap.size w w') : New w w' := ⟨h.os, h.tape, h.output, h.size, fun k hk _ => h.block k hk⟩
theorem New.of_drewN {w w' : World} (h : ∃ n, w' = w.drewN n) : New w w' := by obtain ⟨n, rfl⟩ := h; exact (New.refl w).drewN n

theorem Chg.cell {S : Nat → Prop} {w w' : World} (h : Chg S w w') {b o : Nat} {v : Value} (hc : w.cell? ⟨b, o, none⟩ = some v) (hn : ¬ S b) : w'.cell? ⟨b, o, none⟩ = some v := by
  have hb := World.block_lt_of_cell? w _ hc
  rw [World.cell?_of_block (w := w) (h.block b hb hn)]; exact hc
theorem New.cell {w w' : World} (h : New w w') {b o : Nat} {v : Value} (hc : w.cell? ⟨b, o, none⟩ = some v) : w'.cell? ⟨b, o, none⟩ = some v := Chg.cell h hc fun hf => hf
theorem Chg.heap {S : Nat → Prop} {w w' : World} (h : Chg S w w') {b : Nat} {o : Obj} (hc : w.heap[b]? = some o) (hn : ¬ S b) : w'.heap[b]? = some o := by
  have hb := (Array.getElem?_eq_some_iff.1 hc).1
  rw [h.block b hb hn]; exact hc
theorem New.heap {w w' : World} (h : New w w') {b : Nat} {o : Obj} (hc : w.heap[b]? = some o) : w'.heap[b]? = some o := Chg.heap h hc fun hf => hf

theorem cell_set_some {w : World} {p q : Addr} {x v : Value} (h : w.cell? q = some v) : ∃ v', (w.setCell p x).cell? q = some v' := by
  by_cases e : p = q
  · subst e; exact ⟨x, World.cell?_setCell_same w p x h⟩
  · exact ⟨v, by rw [World.cell?_setCell_other _ _ _ _ e]; exact h⟩

/-- A number that fits its kind. -/
def Fits (k : IntKind) (x : Int) : Prop := (Lit.int k x).wf = true
def I64 (x : Int) : Prop := Fits .i64 x
theorem I64.bd {x : Int} (h : I64 x) : -9223372036854775808 ≤ x ∧ x ≤ 9223372036854775807 := by
  unfold I64 Fits at h
  simp [Lit.wf, IntKind.min, IntKind.max, IntKind.signed, IntKind.bits] at h; omega
theorem I64.mk {x : Int} (h1 : -9223372036854775808 ≤ x) (h2 : x ≤ 9223372036854775807) : I64 x := by
  unfold I64 Fits
  simp [Lit.wf, IntKind.min, IntKind.max, IntKind.signed, IntKind.bits]; omega
theorem Fits.u8 {x : Int} (h : Fits .u8 x) : 0 ≤ x ∧ x ≤ 255 := by
  unfold Fits at h
  simp [Lit.wf, IntKind.min, IntKind.max, IntKind.signed, IntKind.bits] at h; omega

/-- A slice value that reads as the numbers xs; its cells lie in a block of S. -/
def Nums (k : IntKind) (S : Nat → Prop) (w : World) (v : Value) (xs : List Int) : Prop :=
  ∃ a c, v = .slice a xs.length c ∧ xs.length ≤ c ∧ (c ≤ maxLen ∧ (a = none → c = 0)) ∧ (∀ x ∈ xs, Fits k x) ∧
    (xs = [] ∨ ∃ b off, a = some ⟨b, off, none⟩ ∧ S b ∧ b < w.heap.size ∧ ∀ i x, xs[i]? = some x → w.cell? ⟨b, off + i, none⟩ = some (.int k x))
abbrev Ints (S : Nat → Prop) (w : World) (v : Value) (xs : List Int) : Prop := Nums .i64 S w v xs
def Any : Nat → Prop := fun _ => True

theorem Nums.chg {k : IntKind} {S T : Nat → Prop} {w w' : World} {v : Value} {xs : List Int} (h : Nums k S w v xs) (g : Chg T w w') (hd : ∀ k, k < w.heap.size → S k → ¬ T k) : Nums k S w' v xs := by
  obtain ⟨a, c, rfl, h1, h2, h3, h4⟩ := h
  refine ⟨a, c, rfl, h1, h2, h3, ?_⟩
  rcases h4 with h4 | ⟨b, off, rfl, hs, hb, hc⟩
  · exact .inl h4
  · exact .inr ⟨b, off, rfl, hs, Nat.lt_of_lt_of_le hb g.size, fun i x hx => g.cell (hc i x hx) (hd b hb hs)⟩
theorem Nums.new {k : IntKind} {S : Nat → Prop} {w w' : World} {v : Value} {xs : List Int} (h : Nums k S w v xs) (g : New w w') : Nums k S w' v xs := h.chg g fun _ _ _ hf => hf
theorem Nums.mono {k : IntKind} {S T : Nat → Prop} {w : World} {v : Value} {xs : List Int} (h : Nums k S w v xs) (hd : ∀ k, k < w.heap.size → S k → T k) : Nums k T w v xs := by
  obtain ⟨a, c, rfl, h1, h2, h3, h4⟩ := h
  refine ⟨a, c, rfl, h1, h2, h3, ?_⟩
  rcases h4 with h4 | ⟨b, off, rfl, hs, hb, hc⟩
  · exact .inl h4
  · exact .inr ⟨b, off, rfl, hd b hb hs, hb, hc⟩
/-- what it reads as lies below the heap's end -/
theorem Nums.old {k : IntKind} {S : Nat → Prop} {w : World} {v : Value} {xs : List Int} (h : Nums k S w v xs) : Nums k (fun j => S j ∧ j < w.heap.size) w v xs := h.mono fun _ hk hs => ⟨hs, hk⟩
theorem Nums.nil (k : IntKind) (S : Nat → Prop) (w : World) : Nums k S w (.slice none 0 0) [] := ⟨none, 0, rfl, Nat.le_refl _, ⟨Nat.zero_le _, fun _ => rfl⟩, by simp, .inl rfl⟩
theorem Nums.fits {k : IntKind} {S : Nat → Prop} {w : World} {v : Value} {xs : List Int} (h : Nums k S w v xs) : ∀ x ∈ xs, Fits k x := by obtain ⟨_, _, _, _, _, h3, _⟩ := h; exact h3
theorem Nums.len {k : IntKind} {S : Nat → Prop} {w : World} {v : Value} {xs : List Int} (h : Nums k S w v xs) : xs.length ≤ maxLen := by obtain ⟨_, _, _, h1, ⟨h2, _⟩, _⟩ := h; omega

theorem nums_of_cells {k : IntKind} {w : World} (x : Addr) (n c : Nat) (zs : List Int) (hl : n ≤ c) (hm : c ≤ maxLen) (hz : zs.length = c)
    (hc : ∀ i, i < zs.length → w.cell? (x.add i) = some (.int k (zs.getD i 0))) (hw : ∀ n ∈ zs, (Lit.int k n).wf = true) : Nums k Any w (.slice (some x) n c) (zs.take n) := by
  have hln : (zs.take n).length = n := by simp; omega
  refine ⟨.some x, c, by rw [hln], by omega, ⟨hm, by simp⟩, fun y hy => hw y (List.mem_of_mem_take hy), ?_⟩
  by_cases h0 : n = 0
  · left; subst h0; rfl
  · right
    obtain ⟨b, off, spot⟩ := x
    have h1 := hc 0 (by omega)
    have hspot : spot = none := by simpa [Addr.add] using World.cell?_spot h1
    subst hspot
    refine ⟨b, off, rfl, trivial, World.block_lt_of_cell? w _ h1, fun i y hy => ?_⟩
    have hi : i < n := by have := (List.getElem?_eq_some_iff.1 hy).1; omega
    have h2 := hc i (by omega)
    rw [List.getElem?_take_of_lt hi] at hy
    rw [Addr.add_lit] at h2
    simpa [List.getD, hy] using h2

/-! ### Rows that the call made itself -/

theorem own_some {a : Addr} {n c j : Nat} (e : Value.ownBlock (.slice (some a) n c) = some j) : j = a.block := by simp [Value.ownBlock] at e; exact e.symm

/-- A slice that is nil or lies at the head of a block of the call's own, in S: n elements of sz cells each; xs: their cells. -/
def Row (e sz : Nat) (S : Nat → Prop) (w : World) (v : Value) (n : Nat) (xs : List Value) : Prop :=
  w.ownsRow 0 e sz v n xs ∧ ∀ k, v.ownBlock = some k → S k

theorem Row.lt {e sz : Nat} {S : Nat → Prop} {w : World} {v : Value} {n : Nat} {xs : List Value} (h : Row e sz S w v n xs) : ∀ k, v.ownBlock = some k → k < w.heap.size :=
  fun k hk => (h.1.lt k hk).2
theorem Row.nil (e sz : Nat) (S : Nat → Prop) (w : World) : Row e sz S w (.slice none 0 0) 0 [] := ⟨World.ownsRow_nil _ _ _ _, fun k hk => by simp [Value.ownBlock] at hk⟩
theorem Row.mono {e sz : Nat} {S T : Nat → Prop} {w : World} {v : Value} {n : Nat} {xs : List Value} (h : Row e sz S w v n xs) (hs : ∀ k, k < w.heap.size → S k → T k) : Row e sz T w v n xs :=
  ⟨h.1, fun k hk => hs k (h.lt k hk) (h.2 k hk)⟩
theorem Row.own {e sz : Nat} {S : Nat → Prop} {w : World} {v : Value} {n : Nat} {xs : List Value} (h : Row e sz S w v n xs) : Row e sz (fun k => v.ownBlock = some k ∧ S k ∧ k < w.heap.size) w v n xs :=
  ⟨h.1, fun k hk => ⟨hk, h.2 k hk, h.lt k hk⟩⟩
theorem Row.chg {e sz : Nat} {S T : Nat → Prop} {w w' : World} {v : Value} {n : Nat} {xs : List Value} (h : Row e sz S w v n xs) (g : Chg T w w') (hd : ∀ k, k < w.heap.size → S k → ¬ T k) : Row e sz S w' v n xs := by
  refine ⟨⟨h.1.1, ?_⟩, h.2⟩
  rcases h.1.2 with hn | ⟨b, cap, cur, rfl, hb, hh, rest⟩
  · exact .inl hn
  · have hlt := (Array.getElem?_eq_some_iff.1 hh).1
    exact .inr ⟨b, cap, cur, rfl, hb, g.heap hh (hd b hlt (h.2 b rfl)), rest⟩
theorem Row.new {e sz : Nat} {S : Nat → Prop} {w w' : World} {v : Value} {n : Nat} {xs : List Value} (h : Row e sz S w v n xs) (g : New w w') : Row e sz S w' v n xs := h.chg g fun _ _ _ hf => hf

/-- What a slice type is: its element's type, zero value, cells and bytes. -/
def SliceOf (P : Program) (t e : TypeId) (z : Value) (size bytes : Nat) : Prop :=
  P.underlying t = some (.slice e) ∧ (P.info? e).map (fun i => (i.zero, i.size, i.bytes)) = some (some z, size, bytes) ∧ z.cells.size = size ∧ 0 < size

section
variable {P : Program} {w : World} {ops : Array Oper} {rest : List Oper} {o : Oper} {a : Act} {Q : Exit → Act → World → Prop}

/-- What is appended: nothing, or cells that lie at an address. -/
def Src (w : World) (ao : Option Addr) (m c size : Nat) (news : List Value) : Prop :=
  news.length = m * size ∧ (ao = none → m = 0 ∧ c = 0) ∧ ∀ ad, ao = some ad → ∀ j u, news[j]? = some u → w.cell? (ad.add j) = some u

theorem run_append_src {t ty e : TypeId} {z : Value} {size bytes : Nat} (T : SliceOf P t e z size bytes)
    {S : Nat → Prop} {v : Value} {n : Nat} {xs : List Value} (hrow : Row e size S w v n xs) {ao : Option Addr} {m c : Nat} {news : List Value} (hsrc : Src w ao m c size news) (h1 : ∀ u ∈ news, u.oneCell' = true)
    (h63 : n + m ≤ maxLen) (hbytes : (n + m) * bytes ≤ 140737488355328) :
    ∃ v' w', (Builtin.append_ #[t, t] ty #[v, .slice ao m c]).run P w = .ok v' w' ∧ Row e size (fun k => v.ownBlock = some k ∨ k = w.heap.size) w' v' (n + m) (xs ++ news) ∧ Chg (fun k => v.ownBlock = some k) w w' ∧ (v'.ownBlock = none → v.ownBlock = none ∧ m = 0) := by
  obtain ⟨t1, t2, t3, t4⟩ := T
  obtain ⟨i, hi, hz0, hz1, hz2⟩ := info_parts t2
  obtain ⟨s1, s2, s3⟩ := hsrc
  cases ao with
  | none =>
    obtain ⟨rfl, rfl⟩ := s2 rfl
    obtain rfl : news = [] := List.eq_nil_of_length_eq_zero (by simpa using s1)
    refine ⟨v, w, run_append_owned_none w 0 t ty e i size t1 hi v n xs hrow.1, ?_, Chg.refl _ _, fun h => ⟨h, rfl⟩⟩
    simp only [Nat.add_zero, List.append_nil]
    exact ⟨hrow.1, fun k hk => .inl hk⟩
  | some ad =>
    obtain ⟨v', w', hr, h2, h3, h4, h5⟩ := run_append_own_at (P := P) w 0 t ty e i z size bytes t1 hi hz0 hz1 hz2 t3 t4 v n xs hrow.1 ad m c news s1 (s3 ad rfl) h1 h63 hbytes (Nat.zero_le _)
    refine ⟨v', w', hr, ⟨h2, fun k hk => ?_⟩, (Chg.refl _ w).grown h3 fun k e _ => e, ?_⟩
    · rcases h5 with e | e
      · exact .inl (e ▸ hk)
      · rw [e] at hk; exact .inr (Option.some.inj hk).symm
    · intro hn
      rcases h2.2 with ⟨rfl, h0⟩ | ⟨g, cap, cur, rfl, _⟩
      · obtain ⟨e1, e2⟩ := h4.1 rfl
        exact ⟨by rw [e1]; rfl, e2⟩
      · simp [Value.ownBlock] at hn

/-- 'append' onto the call's own row, at one operation. -/
theorem wpOp_append {t e : TypeId} {z : Value} {size bytes : Nat} (T : SliceOf P t e z size bytes) (s x : Operand)
    (ho : o.op = .call { callee := .builtin .append, args := #[s, x], argTypes := #[t, t] })
    {S : Nat → Prop} (v : Value) (n : Nat) (xs : List Value) (hs : a.eval s = v) (hrow : Row e size S w v n xs)
    (ao : Option Addr) (m c : Nat) (news : List Value) (hx : a.eval x = .slice ao m c) (hsrc : Src w ao m c size news) (h1 : ∀ u ∈ news, u.oneCell' = true)
    (h63 : n + m ≤ maxLen) (hbytes : (n + m) * bytes ≤ 140737488355328) {K : Act → World → Prop}
    (h : ∀ v' w', Row e size (fun k => v.ownBlock = some k ∨ k = w.heap.size) w' v' (n + m) (xs ++ news) → Chg (fun k => v.ownBlock = some k) w w' → K (a.put o.dst v') w') :
    o.wp P a w K Q := by
  obtain ⟨v', w', hr, h2, h3, -⟩ := run_append_src (P := P) (w := w) (ty := o.type) T hrow hsrc h1 h63 hbytes
  unfold Oper.wp execOp
  simp only [ho, resolve, invoke, builtin, Sem.run_bind, Sem.run_pure, Result.andThen_ok, List.map_toArray, List.map_cons, List.map_nil, hs, hx, hr]
  exact h v' w' h2 h3

/-- .. in a plain region. -/
theorem wpRow_append {t e : TypeId} {z : Value} {size bytes : Nat} (T : SliceOf P t e z size bytes) (s x : Operand) (hgd : o.guard = none)
    (ho : o.op = .call { callee := .builtin .append, args := #[s, x], argTypes := #[t, t] })
    {S : Nat → Prop} (v : Value) (n : Nat) (xs : List Value) (hs : a.eval s = v) (hrow : Row e size S w v n xs)
    (ao : Option Addr) (m c : Nat) (news : List Value) (hx : a.eval x = .slice ao m c) (hsrc : Src w ao m c size news) (h1 : ∀ u ∈ news, u.oneCell' = true)
    (h63 : n + m ≤ maxLen) (hbytes : (n + m) * bytes ≤ 140737488355328)
    (h : ∀ v' w', Row e size (fun k => v.ownBlock = some k ∨ k = w.heap.size) w' v' (n + m) (xs ++ news) → Chg (fun k => v.ownBlock = some k) w w' → wpList P ops Q rest (a.put o.dst v') w') :
    wpList P ops Q (o :: rest) a w :=
  wpList_plain hgd fun _ hK => wpOp_append T s x ho v n xs hs hrow ao m c news hx hsrc h1 h63 hbytes fun v' w' h2 h3 => hK _ _ (h v' w' h2 h3)

/-- .. as a step of a region that draws its order. -/
theorem stepRow_append {t e : TypeId} {z : Value} {size bytes : Nat} (T : SliceOf P t e z size bytes) (s x : Operand) (hgd : o.guard = none)
    (ho : o.op = .call { callee := .builtin .append, args := #[s, x], argTypes := #[t, t] })
    {S : Nat → Prop} (v : Value) (n : Nat) (xs : List Value) (hs : a.eval s = v) (hrow : Row e size S w v n xs)
    (ao : Option Addr) (m c : Nat) (news : List Value) (hx : a.eval x = .slice ao m c) (hsrc : Src w ao m c size news) (h1 : ∀ u ∈ news, u.oneCell' = true)
    (h63 : n + m ≤ maxLen) (hbytes : (n + m) * bytes ≤ 140737488355328) {K : Act → World → Prop} {E : Prop}
    (h : ∀ v' w', Row e size (fun k => v.ownBlock = some k ∨ k = w.heap.size) w' v' (n + m) (xs ++ news) → Chg (fun k => v.ownBlock = some k) w w' → K (a.put o.dst v') w') :
    if Region.wanted o (yielded ops a.tmps) = true then Oper.wp P o a w K Q else E := by
  have hw : Region.wanted o (yielded ops a.tmps) = true := by simp [Region.wanted, hgd]
  rw [if_pos hw]
  exact wpOp_append T s x ho v n xs hs hrow ao m c news hx hsrc h1 h63 hbytes h

/-- 'make([]T, n)'. -/
theorem wpRow_make {t e : TypeId} {z : Value} {size bytes : Nat} (T : SliceOf P t e z size bytes) (l c : Operand) (hg : o.guard = none) (hop : o.op = Op.makeSlice t l c)
    (kl kc : IntKind) (n : Nat) (hl : a.eval l = .int kl n) (hc : a.eval c = .int kc n) (b2 : bytes * n ≤ 281474976710656) (b3 : n ≤ maxLen)
    (hK : ∀ w', Row e size (fun k => k = w.heap.size) w' (.slice (some ⟨w.heap.size, 0, none⟩) n n) n (madeCells z.cells (n * size)).toList → New w w' → w.heap.size < w'.heap.size → wpList P ops Q rest (a.put o.dst (.slice (some ⟨w.heap.size, 0, none⟩) n n)) w') :
    wpList P ops Q (o :: rest) a w := by
  obtain ⟨t1, t2, t3, t4⟩ := T
  obtain ⟨i, hi, hz0, hz1, hz2⟩ := info_parts t2
  refine wpList_make_full w hg l c t hop 0 e i z size t1 hi hz0 hz1 kl kc n n n hl hc rfl rfl (by rw [hz2]; exact b2) b3 (Nat.zero_le _) ?_
  intro w' hown hgr
  refine hK w' ⟨hown, fun k hk => by simp [Value.ownBlock] at hk; exact hk.symm⟩ ((New.refl w).grown hgr (by simp)) ?_
  have := (hown.lt w.heap.size rfl).2
  exact this
end

/-- Its cells, one by one. -/
theorem Row.cellAt {e sz : Nat} {S : Nat → Prop} {w : World} {g n cap : Nat} {xs : List Value} (h : Row e sz S w (.slice (some ⟨g, 0, none⟩) n cap) n xs) {i : Nat} {u : Value} (hu : xs[i]? = some u) : w.cell? ⟨g, i, none⟩ = some u := by
  obtain ⟨⟨h1, h2⟩, _⟩ := h
  rcases h2 with ⟨hv, _⟩ | ⟨g', cap', cur, hv, _, hh, _, _, hs, ht⟩
  · simp at hv
  · simp only [Value.slice.injEq, Option.some.injEq, Addr.mk.injEq] at hv
    obtain ⟨⟨rfl, _, _⟩, _, rfl⟩ := hv
    rw [← ht, List.getElem?_take] at hu
    split at hu
    · simpa [World.cell?, hh] using hu
    · simp at hu
theorem Row.frozenAt {e sz : Nat} {S : Nat → Prop} {w : World} {g n cap : Nat} {xs : List Value} (h : Row e sz S w (.slice (some ⟨g, 0, none⟩) n cap) n xs) (i : Nat) : w.frozen? ⟨g, i, none⟩ = false := by
  obtain ⟨⟨h1, h2⟩, _⟩ := h
  rcases h2 with ⟨hv, _⟩ | ⟨g', cap', cur, hv, _, hh, _, _, hs, ht⟩
  · simp at hv
  · simp only [Value.slice.injEq, Option.some.injEq, Addr.mk.injEq] at hv
    obtain ⟨⟨rfl, _, _⟩, _, rfl⟩ := hv
    simp [World.frozen?, hh]
/-- A store into the row. -/
theorem Row.set {e sz : Nat} {S : Nat → Prop} {w : World} {g n cap : Nat} {xs : List Value} (h : Row e sz S w (.slice (some ⟨g, 0, none⟩) n cap) n xs) (i : Nat) (u : Value) :
    Row e sz S (w.setCell ⟨g, i, none⟩ u) (.slice (some ⟨g, 0, none⟩) n cap) n (xs.set i u) := by
  obtain ⟨⟨h1, h2⟩, hS⟩ := h
  rcases h2 with ⟨hv, _⟩ | ⟨g', cap', cur, hv, hb, hh, hn, hm, hs, ht⟩
  · simp at hv
  · simp only [Value.slice.injEq, Option.some.injEq, Addr.mk.injEq] at hv
    obtain ⟨⟨rfl, _, _⟩, _, rfl⟩ := hv
    refine ⟨⟨by simpa using h1, .inr ⟨g, cap, cur.setIfInBounds i u, rfl, Nat.zero_le _, ?_, hn, hm, by simpa using hs, ?_⟩⟩, hS⟩
    · simp [World.setCell, Array.getElem?_modify, hh]
    · rw [Array.toList_setIfInBounds, ← ht, List.take_set]
theorem Row.head {e sz : Nat} {S : Nat → Prop} {w : World} {v : Value} {n : Nat} {xs : List Value} (h : Row e sz S w v n xs) (hn : 0 < n) : ∃ g cap, v = .slice (some ⟨g, 0, none⟩) n cap ∧ S g ∧ g < w.heap.size ∧ n ≤ cap ∧ cap ≤ maxLen := by
  have hlt := h.lt
  obtain ⟨⟨h1, h2⟩, hS⟩ := h
  rcases h2 with ⟨_, rfl⟩ | ⟨g, cap, cur, rfl, _, _, h4, h5, _⟩
  · omega
  · exact ⟨g, cap, rfl, hS g rfl, hlt g rfl, h4, h5⟩
theorem Row.shape {e sz : Nat} {S : Nat → Prop} {w : World} {v : Value} {n : Nat} {xs : List Value} (h : Row e sz S w v n xs) : ∃ a cap, v = .slice a n cap ∧ n ≤ cap ∧ cap ≤ maxLen ∧ xs.length = n * sz ∧ (a = none → cap = 0) := by
  obtain ⟨⟨h1, h2⟩, hS⟩ := h
  rcases h2 with ⟨rfl, rfl⟩ | ⟨g, cap, cur, rfl, _, _, h4, h5, _⟩
  · exact ⟨none, 0, rfl, Nat.le_refl _, Nat.zero_le _, h1, fun _ => rfl⟩
  · exact ⟨_, cap, rfl, h4, h5, h1, by simp⟩

theorem Row.empty (e sz : Nat) (w : World) : Row e sz (fun k => k = w.heap.size) (w.alloc (.cells #[] e)) (.slice (some ⟨w.heap.size, 0, none⟩) 0 0) 0 [] :=
  ⟨World.ownsRow_made w #[] 0 (Nat.zero_le _) (Nat.zero_le _) (by simp), fun k hk => by simp [Value.ownBlock] at hk; exact hk.symm⟩

theorem Row.cases {e sz : Nat} {S : Nat → Prop} {w : World} {v : Value} {n : Nat} {xs : List Value} (h : Row e sz S w v n xs) : (v = .slice none 0 0 ∧ n = 0) ∨ ∃ g cap, v = .slice (.some ⟨g, 0, none⟩) n cap ∧ S g ∧ g < w.heap.size ∧ n ≤ cap ∧ cap ≤ maxLen := by
  have hlt := h.lt
  obtain ⟨⟨h1, h2⟩, hS⟩ := h
  rcases h2 with h2 | ⟨g, cap, cur, rfl, _, _, h4, h5, _⟩
  · exact .inl h2
  · exact .inr ⟨g, cap, rfl, hS g rfl, hlt g rfl, h4, h5⟩

/-- A row of numbers of the call's own. -/
def OwnNums (k : IntKind) (e : TypeId) (S : Nat → Prop) (w : World) (v : Value) (xs : List Int) : Prop := Row e 1 S w v xs.length (xs.map (Value.int k)) ∧ ∀ x ∈ xs, Fits k x
abbrev OwnInts (e : TypeId) (S : Nat → Prop) (w : World) (v : Value) (xs : List Int) : Prop := OwnNums .i64 e S w v xs

theorem OwnNums.nums {k : IntKind} {e : TypeId} {S : Nat → Prop} {w : World} {v : Value} {xs : List Int} (h : OwnNums k e S w v xs) : Nums k S w v xs := by
  obtain ⟨h, hx⟩ := h
  by_cases h0 : 0 < xs.length
  · obtain ⟨g, cap, rfl, hS, hlt, h1, h2⟩ := h.head h0
    refine ⟨_, cap, rfl, h1, ⟨h2, by simp⟩, hx, .inr ⟨g, 0, rfl, hS, hlt, fun i x hxi => ?_⟩⟩
    rw [Nat.zero_add]
    exact h.cellAt (by simp [hxi])
  · obtain rfl : xs = [] := List.eq_nil_of_length_eq_zero (by omega)
    obtain ⟨a, cap, rfl, h1, h2, _, h5⟩ := h.shape
    exact ⟨a, cap, rfl, h1, ⟨h2, h5⟩, hx, .inl rfl⟩
theorem OwnNums.chg {k : IntKind} {e : TypeId} {S T : Nat → Prop} {w w' : World} {v : Value} {xs : List Int} (h : OwnNums k e S w v xs) (g : Chg T w w') (hd : ∀ k, k < w.heap.size → S k → ¬ T k) : OwnNums k e S w' v xs := ⟨h.1.chg g hd, h.2⟩
theorem OwnNums.new {k : IntKind} {e : TypeId} {S : Nat → Prop} {w w' : World} {v : Value} {xs : List Int} (h : OwnNums k e S w v xs) (g : New w w') : OwnNums k e S w' v xs := ⟨h.1.new g, h.2⟩
theorem OwnNums.mono {k : IntKind} {e : TypeId} {S T : Nat → Prop} {w : World} {v : Value} {xs : List Int} (h : OwnNums k e S w v xs) (hs : ∀ k, k < w.heap.size → S k → T k) : OwnNums k e T w v xs := ⟨h.1.mono hs, h.2⟩
theorem OwnNums.mono' {k : IntKind} {e : TypeId} {S T : Nat → Prop} {w : World} {v : Value} {xs : List Int} (h : OwnNums k e S w v xs) (hs : ∀ j, v.ownBlock = some j → T j) : OwnNums k e T w v xs := ⟨⟨h.1.1, hs⟩, h.2⟩
theorem OwnNums.old {k : IntKind} {e : TypeId} {S : Nat → Prop} {w : World} {v : Value} {xs : List Int} (h : OwnNums k e S w v xs) : OwnNums k e (fun j => S j ∧ j < w.heap.size) w v xs := h.mono fun _ hk hs => ⟨hs, hk⟩
theorem OwnNums.nil (k : IntKind) (e : TypeId) (S : Nat → Prop) (w : World) : OwnNums k e S w (.slice none 0 0) [] := ⟨Row.nil _ _ _ _, by simp⟩

theorem OwnNums.empty (k : IntKind) (e : TypeId) (w : World) : OwnNums k e (fun k => k = w.heap.size) (w.alloc (.cells #[] e)) (.slice (some ⟨w.heap.size, 0, none⟩) 0 0) [] := ⟨Row.empty _ _ _, by simp⟩
theorem OwnNums.shape {k : IntKind} {e : TypeId} {S : Nat → Prop} {w : World} {v : Value} {xs : List Int} (h : OwnNums k e S w v xs) : ∃ a cap, v = .slice a xs.length cap ∧ xs.length ≤ cap ∧ cap ≤ maxLen := by
  obtain ⟨a, cap, e, h1, h2, _⟩ := h.1.shape; exact ⟨a, cap, e, h1, h2⟩
theorem OwnNums.lt {k : IntKind} {e : TypeId} {S : Nat → Prop} {w : World} {v : Value} {xs : List Int} (h : OwnNums k e S w v xs) : ∀ j, v.ownBlock = some j → j < w.heap.size ∧ S j := fun j hj => ⟨h.1.lt j hj, h.1.2 j hj⟩

/-- 'append(v, x)' onto the call's own row of numbers: x lies in the newest block. -/
theorem wpNums_append {P : Program} {w : World} {ops : Array Oper} {rest : List Oper} {o : Oper} {a : Act} {Q : Exit → Act → World → Prop}
    {k : IntKind} {t e : TypeId} {z : Value} {bytes : Nat} (T : SliceOf P t e z 1 bytes) (s x : Operand) (hgd : o.guard = none)
    (ho : o.op = .call { callee := .builtin .append, args := #[s, x], argTypes := #[t, t] })
    {S : Nat → Prop} (v : Value) (xs : List Int) (y : Int) (te : TypeId) (hs : a.eval s = v) (hrow : OwnNums k e S w v xs) (hy : Fits k y)
    (hx : a.eval x = .slice (some ⟨w.heap.size, 0, none⟩) 1 1) (h63 : (xs.length + 1) * bytes ≤ 140737488355328) (hb : 0 < bytes)
    (h : ∀ v' w', OwnNums k e (fun k => v.ownBlock = some k ∨ w.heap.size < k) w' v' (xs ++ [y]) → Chg (fun k => v.ownBlock = some k) w w' → wpList P ops Q rest (a.put o.dst v') w') :
    wpList P ops Q (o :: rest) a (w.alloc (.cells #[.int k y] te)) := by
  have hn : New w (w.alloc (.cells #[.int k y] te)) := (New.refl w).alloc _
  have hle : xs.length + 1 ≤ 140737488355328 := Nat.le_trans (Nat.le_mul_of_pos_right _ hb) h63
  refine wpRow_append T s x hgd ho v xs.length _ hs (hrow.1.new hn) (.some ⟨w.heap.size, 0, none⟩) 1 1 [.int k y] hx ⟨rfl, by simp, fun ad e => by cases e; exact cell_one_new _ _ _⟩ (by simp [Value.oneCell']) (by unfold maxLen; omega) h63 ?_
  intro v' w' hr hc
  refine h v' w' ⟨?_, ?_⟩ ?_
  · have e1 : (xs ++ [y]).map (Value.int k) = xs.map (Value.int k) ++ [.int k y] := by simp
    rw [e1, List.length_append]
    refine hr.mono fun j hj hh => ?_
    rcases hh with hh | hh
    · exact .inl hh
    · refine .inr ?_
      simp at hh; omega
  · intro z hz
    simp only [List.mem_append, List.mem_singleton] at hz
    rcases hz with hz | rfl
    · exact hrow.2 z hz
    · exact hy
  · exact ⟨hc.os.trans hn.os, hc.tape.trans hn.tape, hc.output.trans hn.output, Nat.le_trans hn.size hc.size, fun j hj hv => (hc.block j (Nat.lt_of_lt_of_le hj hn.size) hv).trans (hn.block j hj (fun h => h))⟩

theorem oneCells (k : IntKind) (xs : List Int) : ∀ u ∈ xs.map (Value.int k), u.oneCell' = true := by
  intro u hu
  obtain ⟨_, _, rfl⟩ := List.mem_map.1 hu
  rfl
theorem addr_add (b off i : Nat) : (⟨b, off, none⟩ : Addr).add i = ⟨b, off + i, none⟩ := Addr.add_lit _ _ _
/-- A slice that reads as numbers, as what is appended. -/
theorem Nums.src {k : IntKind} {S : Nat → Prop} {w : World} {ao : Option Addr} {m c : Nat} {xs : List Int} (h : Nums k S w (.slice ao m c) xs) : Src w ao m c 1 (xs.map (Value.int k)) := by
  obtain ⟨a, c', e, h1, ⟨h2, h2'⟩, h3, h4⟩ := h
  simp only [Value.slice.injEq] at e
  obtain ⟨rfl, rfl, rfl⟩ := e
  refine ⟨by simp, fun e => ?_, fun ad had j u hu => ?_⟩
  · have := h2' e
    omega
  · rcases h4 with rfl | ⟨b, off, rfl, _, _, hc⟩
    · simp at hu
    · cases had
      rw [addr_add]
      simp only [List.getElem?_map, Option.map_eq_some_iff] at hu
      obtain ⟨x, hx, rfl⟩ := hu
      exact hc j x hx
theorem Nums.take {k : IntKind} {S : Nat → Prop} {w : World} {a : Option Addr} {n c : Nat} {xs : List Int} (h : Nums k S w (.slice a n c) xs) (m : Nat) (hm : m ≤ n) : Nums k S w (.slice a m c) (xs.take m) := by
  obtain ⟨a', c', e, h1, h2, h3, h4⟩ := h
  simp only [Value.slice.injEq] at e
  obtain ⟨rfl, rfl, rfl⟩ := e
  have hl : (xs.take m).length = m := by simp; omega
  refine ⟨a, c, by rw [hl], by omega, h2, fun x hx => h3 x (List.mem_of_mem_take hx), ?_⟩
  rcases h4 with rfl | ⟨b, off, rfl, hs, hb, hc⟩
  · exact .inl (by simp)
  · refine .inr ⟨b, off, rfl, hs, hb, fun i x hx => hc i x ?_⟩
    rw [List.getElem?_take] at hx
    split at hx
    · exact hx
    · simp at hx
theorem Nums.drop {k : IntKind} {S : Nat → Prop} {w : World} {b off : Nat} {n c : Nat} {xs : List Int} (h : Nums k S w (.slice (.some ⟨b, off, none⟩) n c) xs) (m : Nat) (hm : m ≤ n) :
    Nums k S w (.slice (if c = m then .some ⟨b, off, none⟩ else .some ⟨b, off + m, none⟩) (n - m) (c - m)) (xs.drop m) := by
  obtain ⟨a', c', e, h1, ⟨h2, h2'⟩, h3, h4⟩ := h
  simp only [Value.slice.injEq] at e
  obtain ⟨rfl, rfl, rfl⟩ := e
  have hl : (xs.drop m).length = xs.length - m := by simp
  refine ⟨_, c - m, by rw [hl], by omega, ⟨by omega, by split <;> simp⟩, fun x hx => h3 x (List.mem_of_mem_drop hx), ?_⟩
  by_cases hmn : m = xs.length
  · left; subst hmn; simp
  · rw [if_neg (by omega)]
    rcases h4 with rfl | ⟨b', off', e, hs, hb, hc⟩
    · left; simp
    · simp only [Option.some.injEq, Addr.mk.injEq] at e
      obtain ⟨rfl, rfl, _⟩ := e
      refine .inr ⟨b, off + m, rfl, hs, hb, fun i x hx => ?_⟩
      rw [List.getElem?_drop] at hx
      rw [Nat.add_assoc]
      exact hc (m + i) x hx

/-- What append makes of numbers. -/
theorem OwnNums.of_append {k : IntKind} {e : TypeId} {S : Nat → Prop} {w : World} {v : Value} {n : Nat} {xs ys : List Int} (h : Row e 1 S w v n (xs.map (Value.int k) ++ ys.map (Value.int k))) (hx : ∀ x ∈ xs, Fits k x) (hy : ∀ x ∈ ys, Fits k x) : OwnNums k e S w v (xs ++ ys) := by
  have hn : n = (xs ++ ys).length := by have := h.1.1; simp at this; simp; omega
  subst hn
  refine ⟨by rw [List.map_append]; exact h, fun x hx' => ?_⟩
  rcases List.mem_append.1 hx' with h | h
  · exact hx x h
  · exact hy x h

/-- Some draws, nothing else. -/
def Drew (w w' : World) : Prop := ∃ n, w' = w.drewN n
theorem Drew.refl (w : World) : Drew w w := ⟨0, rfl⟩
theorem Drew.trans {w w1 w2 : World} (h : Drew w w1) (g : Drew w1 w2) : Drew w w2 := by
  obtain ⟨n, rfl⟩ := h; obtain ⟨m, rfl⟩ := g; exact ⟨n + m, by simp⟩
theorem Drew.drewN {w w1 : World} (h : Drew w w1) (n : Nat) : Drew w (w1.drewN n) := h.trans ⟨n, rfl⟩
theorem Drew.drew {w w1 : World} (h : Drew w w1) : Drew w w1.drew := h.trans ⟨1, rfl⟩
theorem Drew.new {w w' : World} (h : Drew w w') : New w w' := New.of_drewN h
theorem Drew.heap {w w' : World} (h : Drew w w') : w'.heap = w.heap := by obtain ⟨n, rfl⟩ := h; rfl
theorem Drew.cell {w w' : World} (h : Drew w w') (a : Addr) : w'.cell? a = w.cell? a := by obtain ⟨n, rfl⟩ := h; rfl
theorem Drew.frozen {w w' : World} (h : Drew w w') (a : Addr) : w'.frozen? a = w.frozen? a := by obtain ⟨n, rfl⟩ := h; rfl

theorem quiet_of_drew {P : Program} {f : FuncId} {args : Array Value} {w : World} {n : Nat} {v : Value}
    (h : Calls P f args (w.drewN n) fun e w' => e = .returned v ∧ Drew (w.drewN n) w') : Calls P f args (w.drewN n) fun e w'' => e = .returned v ∧ ∃ m, w'' = w.drewN m :=
  Calls.quiet_of h
theorem quiet_of_eq {P : Program} {f : FuncId} {args : Array Value} {w : World} {n : Nat} {v : Value}
    (h : Calls P f args (w.drewN n) fun e w' => e = .returned v ∧ w.drewN n = w') : Calls P f args (w.drewN n) fun e w'' => e = .returned v ∧ ∃ m, w'' = w.drewN m :=
  h.mono fun _ _ ⟨he, hm⟩ => ⟨he, n, hm.symm⟩

theorem ret_bool {a b : Bool} (h : a = b) : Ending.returned (.bool a) = .returned (.bool b) := by rw [h]
theorem ret_int {k : IntKind} {a b : Int} (h : a = b) : Ending.returned (.int k a) = .returned (.int k b) := by rw [h]

theorem drop_of {α : Type} {xs : List α} {k : Nat} {x : α} (h : xs[k]? = some x) : xs.drop k = x :: xs.drop (k + 1) := by
  obtain ⟨hk, rfl⟩ := List.getElem?_eq_some_iff.1 h
  exact List.drop_eq_getElem_cons hk
theorem get_of {α : Type} {xs : List α} {k : Nat} (h : k < xs.length) : ∃ x, xs[k]? = some x := ⟨xs[k], List.getElem?_eq_getElem h⟩
theorem drop_end {α : Type} {xs : List α} {k : Nat} (h : ¬ k < xs.length) : xs.drop k = [] := List.drop_eq_nil_of_le (by omega)

end Go.Proofs.YtkffejommncinaaDoor

/- Walks of the small functions on slices of numbers that the statements use: toIntS, eqIntS, sameInts, markIntS, heldIntS. -/
namespace Go.Proofs.YtkffejommncinaaDoor
open Go.RowKit

theorem slInt : SliceOf Tryd.prog 26 3 (.int .i64 0) 1 8 := by refine ⟨by kernel_rfl, by kernel_rfl, rfl, by decide⟩

theorem set_prefix {xs : List Value} {cur : List Value} {k : Nat} {x : Value} (hl : cur.length = xs.length) (hc : cur.take k = xs.take k) (hx : xs[k]? = some x) : (cur.set k x).take (k + 1) = xs.take (k + 1) := by
  obtain ⟨hk, rfl⟩ := List.getElem?_eq_some_iff.1 hx
  rw [List.take_succ_eq_append_getElem (by simp; omega), List.take_succ_eq_append_getElem hk]
  simp [hc, List.take_set_of_le]

set_option maxRecDepth 4000 in
set_option maxHeartbeats 400000 in
theorem toInts {S : Nat → Prop} (v : Value) (xs : List Int) (w : World) (h : Ints S w v xs) (hr : xs.length ≤ 17592186044416) :
    Calls Tryd.prog 60 #[v] w fun e w' => ∃ v', e = .returned v' ∧ New w w' ∧ OwnInts 3 (fun k => w.heap.size ≤ k) w' v' xs := by
  have h0 := h
  obtain ⟨a, c, rfl, h1, h2, h3, h4⟩ := h
  replace h2 := h2.1
  unfold maxLen at h2
  go_enter Tryd.func60, Tryd.ntmps60
  go_wp2_with (at_make; refine wpRow_make slInt _ _ rfl rfl .i64 .i64 xs.length rfl rfl (by omega) (by unfold maxLen; omega) ?_; intro w1 hrow hn hlt)
  go_loopw [4] (fun i wr => ∃ (k : Nat) (cur : List Value), k ≤ xs.length ∧ i = .int .i64 k ∧ New w wr ∧ Row 3 1 (fun k => k = w.heap.size) wr (.slice (some ⟨w.heap.size, 0, none⟩) xs.length xs.length) xs.length cur ∧ cur.length = xs.length ∧ cur.take k = (xs.map (Value.int .i64)).take k) (fun i _ => xs.length - (intOf i).toNat)
  case atStart => exact ⟨0, _, Nat.zero_le _, rfl, hn, hrow, by simpa using hrow.1.1, by simp⟩
  case round =>
    obtain ⟨k, cur, hk, rfl, hw, hrw, hl, hcur⟩ := hrel
    rename World => wr
    have Hl := Lib.hid hl
    have Hcur := Lib.hid hcur
    clear hl hcur
    by_cases hlt : k < xs.length
    · obtain ⟨x, hx⟩ := get_of hlt
      rcases h4 with rfl | ⟨b, off, rfl, _, hb, hc⟩
      · simp at hlt
      have hcell : wr.cell? ⟨b, off + k, none⟩ = some (.int .i64 x) := hw.cell (hc k x hx)
      have hcell2 : ∃ u, wr.cell? ⟨w.heap.size, k, none⟩ = some u := by
        obtain ⟨u, hu⟩ := get_of (show k < cur.length by rw [Hl.out]; exact hlt)
        exact ⟨u, hrw.cellAt hu⟩
      obtain ⟨u, hcu⟩ := hcell2
      have hfr := hrw.frozenAt k
      have Hx := Lib.hid hx
      clear hc hx
      go_wp2
      go_roundw
      case rel => exact ⟨k + 1, cur.set k (.int .i64 x), by omega, by go_num, hw.setCell _ (by simp), hrw.set _ _, by simp [Hl.out], set_prefix (by simp [Hl.out]) Hcur.out (by simp [Hx.out])⟩
      case measure => simp [intOf]; omega
    · go_wp2
      go_ret
      have e1 : cur = xs.map (Value.int .i64) := by
        have := Hcur.out
        rwa [List.take_of_length_le (by rw [Hl.out]; omega), List.take_of_length_le (by simp; omega)] at this
      refine ⟨_, rfl, hw, ?_, h3⟩
      rw [← e1]
      exact hrw.mono fun k _ hk => by omega

/-- are two lists equal from here on -/
def eqFrom : List Int → List Int → Bool
  | x :: xs, y :: ys => if x = y then eqFrom xs ys else false
  | [], _ => true
  | _ :: _, [] => true
theorem eqFrom_is : ∀ (xs ys : List Int), xs.length = ys.length → eqFrom xs ys = decide (xs = ys)
  | [], [], _ => by simp [eqFrom]
  | x :: xs, y :: ys, h => by
    rw [eqFrom, eqFrom_is xs ys (by simpa using h)]
    by_cases e : x = y <;> simp [e]

set_option maxRecDepth 4000 in
set_option maxHeartbeats 400000 in
theorem eqInts {S T : Nat → Prop} (v u : Value) (xs ys : List Int) (w : World) (h : Ints S w v xs) (g : Ints T w u ys) :
    Calls Tryd.prog 61 #[v, u] w fun e w' => e = .returned (.bool (decide (xs = ys))) ∧ Drew w w' := by
  obtain ⟨a, c, rfl, h1, h2, h3, h4⟩ := h
  obtain ⟨a', c', rfl, g1, g2, g3, g4⟩ := g
  replace h2 := h2.1
  replace g2 := g2.1
  unfold maxLen at h2 g2
  by_cases hl : xs.length = ys.length
  · have e0 := eqFrom_is xs ys hl
    have E0 := Lib.hid e0
    have hne : (((xs.length : Int) != (ys.length : Int))) = false := by simp [hl]
    have Hl := Lib.hid hl
    clear e0 hl
    go_enter Tryd.func61, Tryd.ntmps61
    go_wp2
    go_loopw [5] (fun i wr => ∃ (k : Nat), k ≤ xs.length ∧ i = .int .i64 k ∧ Drew w wr ∧ eqFrom xs ys = eqFrom (xs.drop k) (ys.drop k)) (fun i _ => xs.length - (intOf i).toNat)
    case atStart => exact ⟨0, Nat.zero_le _, rfl, Drew.refl _, rfl⟩
    case round =>
      obtain ⟨k, hk, rfl, hw, he⟩ := hrel
      rename World => wr
      have He := Lib.hid he
      clear he
      by_cases hlt : k < xs.length
      · obtain ⟨x, hx⟩ := get_of hlt
        have hlt2 : k < ys.length := by rw [← Hl.out]; exact hlt
        obtain ⟨y, hy⟩ := get_of hlt2
        rcases h4 with rfl | ⟨b, off, rfl, _, hb, hc⟩
        · simp at hlt
        rcases g4 with rfl | ⟨b', off', rfl, _, hb', hc'⟩
        · simp at hlt2
        have hcx : wr.cell? ⟨b, off + k, none⟩ = some (.int .i64 x) := by rw [hw.cell]; exact hc k x hx
        have hcy : wr.cell? ⟨b', off' + k, none⟩ = some (.int .i64 y) := by rw [hw.cell]; exact hc' k y hy
        have Hx := Lib.hid (drop_of hx)
        have Hy := Lib.hid (drop_of hy)
        clear hc hx hc' hy
        by_cases hxy : x = y
        · subst hxy
          go_wp2
          go_quiet (fail)
          go_wp2
          go_roundw
          case rel => exact ⟨k + 1, by omega, by go_num, hw.drewN _, by rw [He.out, Hx.out, Hy.out]; simp [eqFrom]⟩
          case measure => simp [intOf]; omega
        · have hxy' : (x != y) = true := by simpa using hxy
          go_wp2
          go_quiet (fail)
          go_wp2
          go_ret
          exact ⟨ret_bool (by rw [← E0.out, He.out, Hx.out, Hy.out]; simp [eqFrom, hxy]), hw.drewN _⟩
      · go_wp2
        go_ret
        exact ⟨ret_bool (by rw [← E0.out, He.out, drop_end hlt]; simp [eqFrom]), hw⟩
  · have hne : (((xs.length : Int) != (ys.length : Int))) = true := by simp; omega
    have Hl := Lib.hid hl
    clear hl
    go_enter Tryd.func61, Tryd.ntmps61
    go_wp2
    go_ret
    exact ⟨ret_bool (by simp; intro e; exact Hl.out (by rw [e])), Drew.refl _⟩
set_option maxRecDepth 4000 in
set_option maxHeartbeats 400000 in
theorem sameInts {S T : Nat → Prop} (v u : Value) (xs ys : List Int) (w : World) (h : Ints S w v xs) (g : Ints T w u ys) :
    Calls Tryd.prog 45 #[v, u] w fun e w' => e = .returned (.bool (decide (xs = ys))) ∧ Drew w w' := by
  obtain ⟨a, c, rfl, h1, h2, h3, h4⟩ := h
  obtain ⟨a', c', rfl, g1, g2, g3, g4⟩ := g
  replace h2 := h2.1
  replace g2 := g2.1
  unfold maxLen at h2 g2
  by_cases hl : xs.length = ys.length
  · have e0 := eqFrom_is xs ys hl
    have E0 := Lib.hid e0
    have hne : (((xs.length : Int) != (ys.length : Int))) = false := by simp [hl]
    have Hl := Lib.hid hl
    clear e0 hl
    go_enter Tryd.func45, Tryd.ntmps45
    go_wp2
    go_loopw [5] (fun i wr => ∃ (k : Nat), k ≤ xs.length ∧ i = .int .i64 k ∧ Drew w wr ∧ eqFrom xs ys = eqFrom (xs.drop k) (ys.drop k)) (fun i _ => xs.length - (intOf i).toNat)
    case atStart => exact ⟨0, Nat.zero_le _, rfl, Drew.refl _, rfl⟩
    case round =>
      obtain ⟨k, hk, rfl, hw, he⟩ := hrel
      rename World => wr
      have He := Lib.hid he
      clear he
      by_cases hlt : k < xs.length
      · obtain ⟨x, hx⟩ := get_of hlt
        have hlt2 : k < ys.length := by rw [← Hl.out]; exact hlt
        obtain ⟨y, hy⟩ := get_of hlt2
        rcases h4 with rfl | ⟨b, off, rfl, _, hb, hc⟩
        · simp at hlt
        rcases g4 with rfl | ⟨b', off', rfl, _, hb', hc'⟩
        · simp at hlt2
        have hcx : wr.cell? ⟨b, off + k, none⟩ = some (.int .i64 x) := by rw [hw.cell]; exact hc k x hx
        have hcy : wr.cell? ⟨b', off' + k, none⟩ = some (.int .i64 y) := by rw [hw.cell]; exact hc' k y hy
        have Hx := Lib.hid (drop_of hx)
        have Hy := Lib.hid (drop_of hy)
        clear hc hx hc' hy
        by_cases hxy : x = y
        · subst hxy
          go_wp2
          go_quiet (fail)
          go_wp2
          go_roundw
          case rel => exact ⟨k + 1, by omega, by go_num, hw.drewN _, by rw [He.out, Hx.out, Hy.out]; simp [eqFrom]⟩
          case measure => simp [intOf]; omega
        · have hxy' : (x != y) = true := by simpa using hxy
          go_wp2
          go_quiet (fail)
          go_wp2
          go_ret
          exact ⟨ret_bool (by rw [← E0.out, He.out, Hx.out, Hy.out]; simp [eqFrom, hxy]), hw.drewN _⟩
      · go_wp2
        go_ret
        exact ⟨ret_bool (by rw [← E0.out, He.out, drop_end hlt]; simp [eqFrom]), hw⟩
  · have hne : (((xs.length : Int) != (ys.length : Int))) = true := by simp; omega
    have Hl := Lib.hid hl
    clear hl
    go_enter Tryd.func45, Tryd.ntmps45
    go_wp2
    go_ret
    exact ⟨ret_bool (by simp; intro e; exact Hl.out (by rw [e])), Drew.refl _⟩

/-- k, k + 1, .. : what markIntS writes -/
def upTo (k : Int) (n : Nat) : List Int := (List.range n).map fun (i : Nat) => k + (i : Int)
@[simp] theorem length_upTo (k : Int) (n : Nat) : (upTo k n).length = n := by simp [upTo]
theorem upTo_get {k : Int} {n i : Nat} (h : i < n) : (upTo k n)[i]? = some (k + i) := by simp [upTo, h]
theorem upTo_fits {k : Int} {n : Nat} (h0 : 0 ≤ k) (h1 : k + n ≤ 4611686018427387904) : ∀ x ∈ upTo k n, I64 x := by
  intro x hx
  simp only [upTo, List.mem_map, List.mem_range] at hx
  obtain ⟨i, hi, rfl⟩ := hx
  exact I64.mk (by omega) (by omega)

set_option maxRecDepth 4000 in
set_option maxHeartbeats 400000 in
theorem markInts {S : Nat → Prop} (v : Value) (xs : List Int) (k : Int) (w : World) (h : OwnInts 3 S w v xs) (hk0 : 0 ≤ k) (hk1 : k ≤ 1152921504606846976) (hr : xs.length ≤ 1152921504606846976) :
    Calls Tryd.prog 57 #[v, .int .i64 k] w fun e w' => e = .returned (.int .i64 (k + xs.length)) ∧ Chg (fun j => v.ownBlock = some j) w w' ∧ OwnInts 3 S w' v (upTo k xs.length) := by
  have h0 := h
  obtain ⟨a, c, rfl, h1, h2, -⟩ := h.1.shape
  unfold maxLen at h2
  have hup := upTo_fits (n := xs.length) hk0 (by omega)
  have Hup := Lib.hid hup
  clear hup
  go_enter Tryd.func57, Tryd.ntmps57
  go_wp2
  go_loopw [1, 5] (fun q i wr => ∃ (j : Nat) (cur : List Value), j ≤ xs.length ∧ i = .int .i64 j ∧ q = .int .i64 (k + j) ∧ Chg (fun b => Value.ownBlock (.slice a xs.length c) = some b) w wr ∧ Row 3 1 S wr (.slice a xs.length c) xs.length cur ∧ cur.length = xs.length ∧ cur.take j = ((upTo k xs.length).map (Value.int .i64)).take j) (fun _ i _ => xs.length - (intOf i).toNat)
  case atStart => exact ⟨0, _, Nat.zero_le _, rfl, by simp, Chg.refl _ _, h.1, by simp, by simp⟩
  case round =>
    obtain ⟨j, cur, hj, rfl, rfl, hw, hrw, hl, hcur⟩ := hrel
    rename World => wr
    have Hl := Lib.hid hl
    have Hcur := Lib.hid hcur
    clear hl hcur
    by_cases hlt : j < xs.length
    · obtain ⟨g, cap, e1, hSg, hg, _, _⟩ := hrw.head (by omega)
      simp only [Value.slice.injEq] at e1
      obtain ⟨rfl, -, rfl⟩ := e1
      have hcell2 : ∃ u, wr.cell? ⟨g, j, none⟩ = some u := by
        obtain ⟨u, hu⟩ := get_of (show j < cur.length by rw [Hl.out]; exact hlt)
        exact ⟨u, hrw.cellAt hu⟩
      obtain ⟨u, hcu⟩ := hcell2
      have hfr := hrw.frozenAt j
      go_wp2
      go_roundw
      case rel => exact ⟨j + 1, cur.set j (.int .i64 (k + j)), by omega, by go_num, by go_num, hw.setCell _ (fun _ => rfl), hrw.set _ _, by simp [Hl.out], set_prefix (by simp [Hl.out]) Hcur.out (by simp [upTo_get hlt])⟩
      case measure => simp [intOf]; omega
    · go_wp2
      go_ret
      have e1 : cur = (upTo k xs.length).map (Value.int .i64) := by
        have := Hcur.out
        rwa [List.take_of_length_le (by rw [Hl.out]; omega), List.take_of_length_le (by simp; omega)] at this
      have e2 : j = xs.length := by omega
      refine ⟨ret_int (by rw [e2]), hw, ?_, Hup.out⟩
      rw [← e1, length_upTo]
      exact hrw

set_option maxRecDepth 4000 in
set_option maxHeartbeats 400000 in
theorem heldInts {S : Nat → Prop} (v : Value) (n : Nat) (k : Int) (w : World) (h : Ints S w v (upTo k n)) (hk0 : 0 ≤ k) (hk1 : k ≤ 1152921504606846976) (hr : n ≤ 1152921504606846976) :
    Calls Tryd.prog 58 #[v, .int .i64 k] w fun e w' => e = .returned (.int .i64 (k + n)) ∧ w = w' := by
  obtain ⟨a, c, rfl, h1, h2, h3, h4⟩ := h
  replace h2 := h2.1
  unfold maxLen at h2
  rw [length_upTo] at h1 ⊢
  go_enter Tryd.func58, Tryd.ntmps58
  go_wp2
  go_loop [1, 5] (fun q i => ∃ (j : Nat), j ≤ n ∧ i = .int .i64 j ∧ q = .int .i64 (k + j)) (fun _ i => n - (intOf i).toNat)
  case atStart => exact ⟨0, Nat.zero_le _, rfl, by simp⟩
  case round =>
    obtain ⟨j, hj, rfl, rfl⟩ := hrel
    by_cases hlt : j < n
    · rcases h4 with h4 | ⟨b, off, rfl, _, hb, hc⟩
      · have := congrArg List.length h4; simp at this; omega
      have hcell := hc j _ (upTo_get hlt)
      clear hc
      go_wp2
      go_round
      case rel => exact ⟨j + 1, by omega, by go_num, by go_num⟩
      case measure => simp [intOf]; omega
    · go_wp2
      go_ret
      have e2 : j = n := by omega
      exact ⟨ret_int (by rw [e2]), rfl⟩

end Go.Proofs.YtkffejommncinaaDoor

/- Walks of bytesValid and FileValid, the program's; lists of rows of the call's own. -/
namespace Go.Proofs.YtkffejommncinaaDoor
open Go.RowKit

def bytesOk : List Int → Bool
  | [] => true
  | x :: r => if x < 0 ∨ 255 < x then false else bytesOk r
def fileOk (xs : List Int) : Bool := decide (xs.length ≤ 32) && bytesOk xs

theorem bytesOk_mem : ∀ (xs : List Int), bytesOk xs = true → ∀ x ∈ xs, 0 ≤ x ∧ x ≤ 255
  | [], _, _, h => by simp at h
  | y :: r, h, x, hx => by
    rw [bytesOk] at h
    split at h
    · simp at h
    · rename_i hc
      rcases List.mem_cons.1 hx with rfl | hx
      · omega
      · exact bytesOk_mem r h x hx

/-! ### a list of rows, no two of which share -/

theorem OwnNums.chg' {k : IntKind} {e : TypeId} {S T : Nat → Prop} {w w' : World} {v : Value} {xs : List Int} (h : OwnNums k e S w v xs) (g : Chg T w w') (hd : ∀ j, v.ownBlock = some j → ¬ T j) : OwnNums k e S w' v xs :=
  (OwnNums.chg (S := fun j => S j ∧ v.ownBlock = some j) ⟨⟨h.1.1, fun j hj => ⟨h.1.2 j hj, hj⟩⟩, h.2⟩ g (fun j _ hj => hd j hj.2)).mono fun _ _ hj => hj.1

def Rows (e : TypeId) (S : Nat → Prop) (w : World) : List Value → List (List Int) → Prop
  | [], [] => True
  | v :: vs, xs :: xss => OwnInts e S w v xs ∧ Rows e (fun j => S j ∧ v.ownBlock ≠ some j) w vs xss
  | _, _ => False

theorem Rows.mono {e : TypeId} {w : World} : ∀ {vs : List Value} {xss : List (List Int)} {S T : Nat → Prop}, Rows e S w vs xss → (∀ j, j < w.heap.size → S j → T j) → Rows e T w vs xss
  | [], [], _, _, _, _ => trivial
  | _ :: _, _ :: _, _, _, h, hs => ⟨h.1.mono hs, Rows.mono h.2 fun j hj hh => ⟨hs j hj hh.1, hh.2⟩⟩
  | [], _ :: _, _, _, h, _ => h.elim
  | _ :: _, [], _, _, h, _ => h.elim
theorem Rows.chg {e : TypeId} {w w' : World} {T : Nat → Prop} (g : Chg T w w') : ∀ {vs : List Value} {xss : List (List Int)} {S : Nat → Prop}, Rows e S w vs xss → (∀ j, j < w.heap.size → S j → ¬ T j) → Rows e S w' vs xss
  | [], [], _, _, _ => trivial
  | _ :: _, _ :: _, _, h, hs => ⟨h.1.chg g hs, Rows.chg g h.2 fun j hj hh => hs j hj hh.1⟩
  | [], _ :: _, _, h, _ => h.elim
  | _ :: _, [], _, h, _ => h.elim
theorem Rows.new {e : TypeId} {w w' : World} {vs : List Value} {xss : List (List Int)} {S : Nat → Prop} (h : Rows e S w vs xss) (g : New w w') : Rows e S w' vs xss := h.chg g fun _ _ _ hf => hf
theorem Rows.length {e : TypeId} {w : World} : ∀ {vs : List Value} {xss : List (List Int)} {S : Nat → Prop}, Rows e S w vs xss → vs.length = xss.length
  | [], [], _, _ => rfl
  | _ :: _, _ :: _, _, h => by simp [Rows.length h.2]
  | [], _ :: _, _, h => h.elim
  | _ :: _, [], _, h => h.elim
theorem Rows.old {e : TypeId} {w : World} {vs : List Value} {xss : List (List Int)} {S : Nat → Prop} (h : Rows e S w vs xss) : Rows e (fun j => S j ∧ j < w.heap.size) w vs xss := h.mono fun _ hj hs => ⟨hs, hj⟩
theorem Rows.snoc {e : TypeId} {w : World} {v : Value} {xs : List Int} {T : Nat → Prop} (g : OwnInts e T w v xs) : ∀ {vs : List Value} {xss : List (List Int)} {S : Nat → Prop}, Rows e S w vs xss → (∀ j, S j → ¬ T j) → Rows e (fun j => S j ∨ T j) w (vs ++ [v]) (xss ++ [xs])
  | [], [], _, _, _ => ⟨g.mono fun _ _ h => .inr h, trivial⟩
  | u :: vs, ys :: xss, S, h, hs => ⟨h.1.mono fun _ _ h => .inl h, (Rows.snoc g h.2 fun j hj => hs j hj.1).mono fun j _ hh => by
      rcases hh with hh | hh
      · exact ⟨.inl hh.1, hh.2⟩
      · exact ⟨.inr hh, fun he => hs j (h.1.1.2 j he) hh⟩⟩
  | [], _ :: _, _, h, _ => h.elim
  | _ :: _, [], _, h, _ => h.elim
theorem Rows.get {e : TypeId} {w : World} {v : Value} : ∀ {vs : List Value} {xss : List (List Int)} {S : Nat → Prop} {i : Nat}, Rows e S w vs xss → vs[i]? = some v → ∃ xs, xss[i]? = some xs ∧ OwnInts e S w v xs
  | [], [], _, i, _, h => by simp at h
  | u :: vs, ys :: xss, S, 0, h, hv => by simp at hv; subst hv; exact ⟨ys, rfl, h.1⟩
  | u :: vs, ys :: xss, S, i + 1, h, hv => by
      obtain ⟨xs, h1, h2⟩ := Rows.get (i := i) h.2 (by simpa using hv)
      exact ⟨xs, by simpa using h1, h2.mono fun _ _ h => h.1⟩
  | [], _ :: _, _, _, h, _ => h.elim
  | _ :: _, [], _, _, h, _ => h.elim
theorem Rows.at {e : TypeId} {w : World} {xs : List Int} : ∀ {vs : List Value} {xss : List (List Int)} {S : Nat → Prop} {i : Nat}, Rows e S w vs xss → xss[i]? = some xs → ∃ v, vs[i]? = some v ∧ OwnInts e S w v xs
  | [], [], _, i, _, h => by simp at h
  | u :: vs, ys :: xss, S, 0, h, hv => by simp at hv; subst hv; exact ⟨u, rfl, h.1⟩
  | u :: vs, ys :: xss, S, i + 1, h, hv => by
      obtain ⟨v, h1, h2⟩ := Rows.at (i := i) h.2 (by simpa using hv)
      exact ⟨v, by simpa using h1, h2.mono fun _ _ h => h.1⟩
  | [], _ :: _, _, _, h, _ => h.elim
  | _ :: _, [], _, _, h, _ => h.elim
/-- One of the rows is written. -/
theorem Rows.put {e : TypeId} {w w' : World} {v : Value} {ys : List Int} (g : Chg (fun j => v.ownBlock = some j) w w') : ∀ {vs : List Value} {xss : List (List Int)} {S : Nat → Prop} {i : Nat}, Rows e S w vs xss → vs[i]? = some v → (∀ S', OwnInts e S' w v (xss.getD i []) → OwnInts e S' w' v ys) → Rows e S w' vs (xss.set i ys)
  | [], [], _, i, _, h, _ => by simp at h
  | u :: vs, zs :: xss, S, 0, h, hv, ho => by
      simp at hv; subst hv
      exact ⟨ho S h.1, h.2.chg g fun j _ hj he => hj.2 he⟩
  | u :: vs, zs :: xss, S, i + 1, h, hv, ho => by
      have hv' : vs[i]? = some v := by simpa using hv
      obtain ⟨xs, h1, h2⟩ := Rows.get h.2 hv'
      exact ⟨h.1.chg' g fun j hj he => (h2.1.2 j he).2 hj, Rows.put g h.2 hv' ho⟩
  | [], _ :: _, _, _, h, _, _ => h.elim
  | _ :: _, [], _, _, h, _, _ => h.elim

end Go.Proofs.YtkffejommncinaaDoor

/- 'append(v, x)' onto a row of the call's own, of one-cell elements. -/
namespace Go.Proofs.YtkffejommncinaaDoor
open Go.RowKit

theorem wpRow_append1 {P : Program} {w : World} {ops : Array Oper} {rest : List Oper} {o : Oper} {a : Act} {Q : Exit → Act → World → Prop}
    {t e : TypeId} {z : Value} {bytes : Nat} (T : SliceOf P t e z 1 bytes) (s x : Operand) (hgd : o.guard = none)
    (ho : o.op = .call { callee := .builtin .append, args := #[s, x], argTypes := #[t, t] })
    {S : Nat → Prop} (v : Value) (n : Nat) (xs : List Value) (u : Value) (te : TypeId) (hs : a.eval s = v) (hrow : Row e 1 S w v n xs) (hu : u.oneCell' = true)
    (hx : a.eval x = .slice (some ⟨w.heap.size, 0, none⟩) 1 1) (h63 : (n + 1) * bytes ≤ 140737488355328) (hb : 0 < bytes)
    (h : ∀ v' w', Row e 1 (fun k => v.ownBlock = some k ∨ w.heap.size < k) w' v' (n + 1) (xs ++ [u]) → Chg (fun k => v.ownBlock = some k) w w' → wpList P ops Q rest (a.put o.dst v') w') :
    wpList P ops Q (o :: rest) a (w.alloc (.cells #[u] te)) := by
  have hn : New w (w.alloc (.cells #[u] te)) := (New.refl w).alloc _
  have hle : n + 1 ≤ 140737488355328 := Nat.le_trans (Nat.le_mul_of_pos_right _ hb) h63
  refine wpRow_append T s x hgd ho v n xs hs (hrow.new hn) (.some ⟨w.heap.size, 0, none⟩) 1 1 [u] hx ⟨rfl, by simp, fun ad e => by cases e; exact cell_one_new _ _ _⟩ (by simpa using hu) (by unfold maxLen; omega) h63 ?_
  intro v' w' hr hc
  refine h v' w' ?_ ?_
  · refine hr.mono fun j hj hh => ?_
    rcases hh with hh | hh
    · exact .inl hh
    · refine .inr ?_
      simp at hh; omega
  · exact ⟨hc.os.trans hn.os, hc.tape.trans hn.tape, hc.output.trans hn.output, Nat.le_trans hn.size hc.size, fun j hj hv => (hc.block j (Nat.lt_of_lt_of_le hj hn.size) hv).trans (hn.block j hj (fun h => h))⟩

theorem Row.chg' {e sz : Nat} {S T : Nat → Prop} {w w' : World} {v : Value} {n : Nat} {xs : List Value} (h : Row e sz S w v n xs) (g : Chg T w w') (hd : ∀ j, v.ownBlock = some j → ¬ T j) : Row e sz S w' v n xs :=
  (Row.chg (S := fun j => S j ∧ v.ownBlock = some j) ⟨h.1, fun j hj => ⟨h.2 j hj, hj⟩⟩ g (fun j _ hj => hd j hj.2)).mono fun _ _ hj => hj.1

theorem wpRow_appendRec {P : Program} {w : World} {ops : Array Oper} {rest : List Oper} {o : Oper} {a : Act} {Q : Exit → Act → World → Prop}
    {t e : TypeId} {z : Value} {sz bytes : Nat} (T : SliceOf P t e z sz bytes) (s x : Operand) (hgd : o.guard = none)
    (ho : o.op = .call { callee := .builtin .append, args := #[s, x], argTypes := #[t, t] })
    {S : Nat → Prop} (v : Value) (n : Nat) (xs us : List Value) (te : TypeId) (hs : a.eval s = v) (hrow : Row e sz S w v n xs) (hul : us.length = sz) (hu : ∀ u ∈ us, u.oneCell' = true)
    (hx : a.eval x = .slice (some ⟨w.heap.size, 0, none⟩) 1 1) (h63 : (n + 1) * bytes ≤ 140737488355328) (hb : 0 < bytes)
    (h : ∀ v' w', Row e sz (fun k => v.ownBlock = some k ∨ w.heap.size < k) w' v' (n + 1) (xs ++ us) → Chg (fun k => v.ownBlock = some k) w w' → wpList P ops Q rest (a.put o.dst v') w') :
    wpList P ops Q (o :: rest) a (w.alloc (.cells us.toArray te)) := by
  have hn : New w (w.alloc (.cells us.toArray te)) := (New.refl w).alloc _
  have hle : n + 1 ≤ 140737488355328 := Nat.le_trans (Nat.le_mul_of_pos_right _ hb) h63
  refine wpRow_append T s x hgd ho v n xs hs (hrow.new hn) (.some ⟨w.heap.size, 0, none⟩) 1 1 us hx ⟨by omega, by simp, fun ad e j u hu => ?_⟩ hu (by unfold maxLen; omega) h63 ?_
  · cases e
    rw [addr_add, Nat.zero_add]
    have hb := heap_alloc_new w (.cells us.toArray te)
    simp only [World.cell?, hb]
    simpa using hu
  intro v' w' hr hc
  refine h v' w' ?_ ?_
  · refine hr.mono fun j hj hh => ?_
    rcases hh with hh | hh
    · exact .inl hh
    · refine .inr ?_
      simp at hh; omega
  · exact ⟨hc.os.trans hn.os, hc.tape.trans hn.tape, hc.output.trans hn.output, Nat.le_trans hn.size hc.size, fun j hj hv => (hc.block j (Nat.lt_of_lt_of_le hj hn.size) hv).trans (hn.block j hj (fun h => h))⟩

end Go.Proofs.YtkffejommncinaaDoor

/- Texts as values. -/
namespace Go.Proofs.YtkffejommncinaaDoor
open Go.RowKit

/-- a text as a value -/
def txt (l : List UInt8) : Value := .string ⟨l.toArray⟩
theorem txt_of (s : ByteArray) : Value.string s = txt s.data.toList := by unfold txt; rw [Lib.mk_data]
theorem txt_cut (s : ByteArray) (a b : Nat) : Value.string (s.extract a b) = txt ((s.data.toList.drop a).take (b - a)) := by rw [txt_of, Lib.extract_data]
@[simp] theorem txt_one (l : List UInt8) : (txt l).oneCell' = true := rfl

end Go.Proofs.YtkffejommncinaaDoor

/- Slices of structs, their cells one behind the other: how they read, what the call owns of them. -/
namespace Go.Proofs.YtkffejommncinaaDoor
open Go.RowKit

/-- a field of a struct -/
inductive Fld where
  | int (x : Int) | txt (l : List UInt8) | bool (b : Bool) | nums (xs : List Int)
  deriving DecidableEq

/-- a row of numbers of the call's own; of an empty one nothing is asked but its shape -/
def OwnI (S : Nat → Prop) (w : World) (v : Value) (xs : List Int) : Prop :=
  (xs = [] ∧ ∃ a c, v = .slice a 0 c ∧ c ≤ maxLen ∧ (a = none → c = 0)) ∨ (xs ≠ [] ∧ OwnInts 3 S w v xs)
theorem OwnI.of {S : Nat → Prop} {w : World} {v : Value} {xs : List Int} (h : OwnInts 3 S w v xs) : OwnI S w v xs := by
  by_cases e : xs = []
  · subst e
    obtain ⟨a, c, rfl, h1, h2, _, h5⟩ := h.1.shape
    exact .inl ⟨rfl, a, c, rfl, h2, h5⟩
  · exact .inr ⟨e, h⟩
theorem OwnI.nums {S : Nat → Prop} {w : World} {v : Value} {xs : List Int} (h : OwnI S w v xs) : Ints S w v xs := by
  rcases h with ⟨rfl, a, c, rfl, h2, h3⟩ | ⟨_, h⟩
  · exact ⟨a, c, rfl, Nat.zero_le _, ⟨h2, h3⟩, by simp, .inl rfl⟩
  · exact h.nums
theorem OwnI.mono {S T : Nat → Prop} {w : World} {v : Value} {xs : List Int} (h : OwnI S w v xs) (hs : ∀ j, j < w.heap.size → S j → T j) : OwnI T w v xs :=
  h.imp id fun h => ⟨h.1, h.2.mono hs⟩
theorem OwnI.chg {S T : Nat → Prop} {w w' : World} {v : Value} {xs : List Int} (h : OwnI S w v xs) (g : Chg T w w') (hd : ∀ j, j < w.heap.size → S j → ¬ T j) : OwnI S w' v xs :=
  h.imp id fun h => ⟨h.1, h.2.chg g hd⟩
/-- the block that a row of at least one number lies in -/
def blk (v : Value) : Fld → Option Nat
  | .nums (_ :: _) => v.ownBlock
  | _ => none
def Fld.reads (S : Nat → Prop) (w : World) (v : Value) : Fld → Prop
  | .int x => v = .int .i64 x ∧ I64 x
  | .txt l => v = YtkffejommncinaaDoor.txt l ∧ l.length ≤ maxLen
  | .bool b => v = .bool b
  | .nums xs => Ints S w v xs
def Fld.owns (S : Nat → Prop) (w : World) (v : Value) : Fld → Prop
  | .int x => v = .int .i64 x ∧ I64 x
  | .txt l => v = YtkffejommncinaaDoor.txt l ∧ l.length ≤ maxLen
  | .bool b => v = .bool b
  | .nums xs => OwnI S w v xs
theorem Fld.owns.reads {S : Nat → Prop} {w : World} {v : Value} {f : Fld} (h : f.owns S w v) : f.reads S w v := by
  cases f <;> first | exact h | exact OwnI.nums h
theorem Fld.owns.mono {S T : Nat → Prop} {w : World} {v : Value} {f : Fld} (h : f.owns S w v) (hs : ∀ j, j < w.heap.size → S j → T j) : f.owns T w v := by
  cases f <;> first | exact h | exact OwnI.mono h hs
theorem Fld.owns.chg {S T : Nat → Prop} {w w' : World} {v : Value} {f : Fld} (h : f.owns S w v) (g : Chg T w w') (hd : ∀ j, j < w.heap.size → S j → ¬ T j) : f.owns S w' v := by
  cases f <;> first | exact h | exact OwnI.chg h g hd
theorem Fld.owns.blk {S : Nat → Prop} {w : World} {v : Value} {f : Fld} (h : f.owns S w v) : ∀ j, YtkffejommncinaaDoor.blk v f = some j → S j ∧ j < w.heap.size := by
  intro j hj
  cases f with
  | nums xs =>
    cases xs with
    | nil => simp [YtkffejommncinaaDoor.blk] at hj
    | cons x r =>
      rcases h with ⟨h, _⟩ | ⟨_, h⟩
      · cases h
      · exact ⟨h.1.2 j hj, h.1.lt j hj⟩
  | _ => simp [YtkffejommncinaaDoor.blk] at hj
theorem Fld.reads.chg {S T : Nat → Prop} {w w' : World} {v : Value} {f : Fld} (h : f.reads S w v) (g : Chg T w w') (hd : ∀ j, j < w.heap.size → S j → ¬ T j) : f.reads S w' v := by
  cases f <;> first | exact h | exact Nums.chg h g hd
theorem Fld.reads.mono {S T : Nat → Prop} {w : World} {v : Value} {f : Fld} (h : f.reads S w v) (hs : ∀ j, j < w.heap.size → S j → T j) : f.reads T w v := by
  cases f <;> first | exact h | exact Nums.mono h hs
theorem Fld.reads.one {S : Nat → Prop} {w : World} {v : Value} {f : Fld} (h : f.reads S w v) : v.oneCell' = true := by
  cases f with
  | int x => rw [h.1]; rfl
  | txt l => rw [h.1]; rfl
  | bool b => rw [show v = .bool b from h]; rfl
  | nums xs => obtain ⟨a, c, rfl, _⟩ := h; rfl
/-- owned in a world where its row has only been written elsewhere -/
theorem Fld.owns.chg' {S T : Nat → Prop} {w w' : World} {v : Value} {f : Fld} (h : f.owns S w v) (g : Chg T w w') (hd : ∀ j, YtkffejommncinaaDoor.blk v f = some j → ¬ T j) : f.owns S w' v := by
  cases f with
  | nums xs =>
    cases xs with
    | nil =>
      rcases h with h | h
      · exact .inl h
      · exact absurd rfl h.1
    | cons x r =>
      rcases h with ⟨h, _⟩ | ⟨hne, h⟩
      · cases h
      · exact .inr ⟨hne, h.chg' g hd⟩
  | _ => exact h

/-- Cells that the call owns: no two rows share. -/
def Fields (S : Nat → Prop) (w : World) : List Value → List Fld → Prop
  | [], [] => True
  | v :: vs, f :: fs => f.owns S w v ∧ Fields (fun j => S j ∧ blk v f ≠ some j) w vs fs
  | _, _ => False

theorem Fields.mono {w : World} : ∀ {vs : List Value} {fs : List Fld} {S T : Nat → Prop}, Fields S w vs fs → (∀ j, j < w.heap.size → S j → T j) → Fields T w vs fs
  | [], [], _, _, _, _ => trivial
  | _ :: _, _ :: _, _, _, h, hs => ⟨h.1.mono hs, Fields.mono h.2 fun j hj hh => ⟨hs j hj hh.1, hh.2⟩⟩
  | [], _ :: _, _, _, h, _ => h.elim
  | _ :: _, [], _, _, h, _ => h.elim
theorem Fields.chg {w w' : World} {T : Nat → Prop} (g : Chg T w w') : ∀ {vs : List Value} {fs : List Fld} {S : Nat → Prop}, Fields S w vs fs → (∀ j, j < w.heap.size → S j → ¬ T j) → Fields S w' vs fs
  | [], [], _, _, _ => trivial
  | _ :: _, _ :: _, _, h, hs => ⟨h.1.chg g hs, Fields.chg g h.2 fun j hj hh => hs j hj hh.1⟩
  | [], _ :: _, _, h, _ => h.elim
  | _ :: _, [], _, h, _ => h.elim
theorem Fields.new {w w' : World} {vs : List Value} {fs : List Fld} {S : Nat → Prop} (h : Fields S w vs fs) (g : New w w') : Fields S w' vs fs := h.chg g fun _ _ _ hf => hf
theorem Fields.length {w : World} : ∀ {vs : List Value} {fs : List Fld} {S : Nat → Prop}, Fields S w vs fs → vs.length = fs.length
  | [], [], _, _ => rfl
  | _ :: _, _ :: _, _, h => by simp [Fields.length h.2]
  | [], _ :: _, _, h => h.elim
  | _ :: _, [], _, h => h.elim
theorem Fields.old {w : World} {vs : List Value} {fs : List Fld} {S : Nat → Prop} (h : Fields S w vs fs) : Fields (fun j => S j ∧ j < w.heap.size) w vs fs := h.mono fun _ hj hs => ⟨hs, hj⟩
theorem Fields.append {w : World} {us : List Value} {gs : List Fld} {T : Nat → Prop} (g : Fields T w us gs) : ∀ {vs : List Value} {fs : List Fld} {S : Nat → Prop}, Fields S w vs fs → (∀ j, S j → ¬ T j) → Fields (fun j => S j ∨ T j) w (vs ++ us) (fs ++ gs)
  | [], [], _, _, _ => g.mono fun _ _ h => .inr h
  | u :: vs, f :: fs, S, h, hs => ⟨h.1.mono fun _ _ h => .inl h, (Fields.append g h.2 fun j hj => hs j hj.1).mono fun j _ hh => by
      rcases hh with hh | hh
      · exact ⟨.inl hh.1, hh.2⟩
      · exact ⟨.inr hh, fun he => hs j (h.1.blk j he).1 hh⟩⟩
  | [], _ :: _, _, h, _ => h.elim
  | _ :: _, [], _, h, _ => h.elim
theorem Fields.get {w : World} {f : Fld} : ∀ {vs : List Value} {fs : List Fld} {S : Nat → Prop} {i : Nat}, Fields S w vs fs → fs[i]? = some f → ∃ v, vs[i]? = some v ∧ f.owns S w v
  | [], [], _, i, _, h => by simp at h
  | u :: vs, g :: fs, S, 0, h, hv => by simp at hv; subst hv; exact ⟨u, rfl, h.1⟩
  | u :: vs, g :: fs, S, i + 1, h, hv => by
      obtain ⟨v, h1, h2⟩ := Fields.get (i := i) h.2 (by simpa using hv)
      exact ⟨v, by simpa using h1, h2.mono fun _ _ h => h.1⟩
  | [], _ :: _, _, _, h, _ => h.elim
  | _ :: _, [], _, _, h, _ => h.elim
/-- One place is written anew: its row lies where it lay, or nowhere. -/
theorem Fields.put {w w' : World} {v v' : Value} {f f' : Fld} {T : Nat → Prop} (g : Chg T w w') (hT : ∀ j, T j → blk v f = some j) (hb : ∀ j, blk v' f' = some j → blk v f = some j) :
    ∀ {vs : List Value} {fs : List Fld} {S : Nat → Prop} {i : Nat}, Fields S w vs fs → vs[i]? = some v → fs[i]? = some f → (∀ S', f.owns S' w v → f'.owns S' w' v') → Fields S w' (vs.set i v') (fs.set i f')
  | [], [], _, i, _, h, _, _ => by simp at h
  | u :: vs, z :: fs, S, 0, h, hv, hf, ho => by
      simp at hv hf; subst hv; subst hf
      refine ⟨ho S h.1, (h.2.chg g fun j _ hj hTj => hj.2 (hT j hTj)).mono fun j _ hj => ⟨hj.1, fun e => hj.2 (hb j e)⟩⟩
  | u :: vs, z :: fs, S, i + 1, h, hv, hf, ho => by
      have hv' : vs[i]? = some v := by simpa using hv
      have hf' : fs[i]? = some f := by simpa using hf
      obtain ⟨x, hx, hox⟩ := Fields.get h.2 hf'
      obtain rfl : x = v := Option.some.inj (hx.symm.trans hv')
      exact ⟨h.1.chg' g fun j hj hTj => (hox.blk j (hT j hTj)).1.2 hj, Fields.put g hT hb h.2 hv' hf' ho⟩
  | [], _ :: _, _, _, h, _, _, _ => h.elim
  | _ :: _, [], _, _, h, _, _, _ => h.elim

/-- A slice of structs of the call's own, sz cells each. -/
def OwnRecs (e sz : Nat) (S : Nat → Prop) (w : World) (v : Value) (n : Nat) (fs : List Fld) : Prop :=
  ∃ us, Row e sz S w v n us ∧ Fields (fun j => S j ∧ v.ownBlock ≠ some j) w us fs
/-- A slice that reads as structs. -/
def Recs (sz : Nat) (S : Nat → Prop) (w : World) (v : Value) (n : Nat) (fs : List Fld) : Prop :=
  fs.length = n * sz ∧ ∃ a c, v = .slice a n c ∧ n ≤ c ∧ c ≤ maxLen ∧ (n = 0 ∨ ∃ b off, a = some ⟨b, off, none⟩ ∧ S b ∧ b < w.heap.size ∧ ∀ (i : Nat) f, fs[i]? = some f → ∃ u, w.cell? ⟨b, off + i, none⟩ = some u ∧ f.reads S w u)

section
variable {e sz : Nat} {S T : Nat → Prop} {w w' : World} {v : Value} {n : Nat} {fs : List Fld}
theorem OwnRecs.mono (h : OwnRecs e sz S w v n fs) (hs : ∀ j, j < w.heap.size → S j → T j) : OwnRecs e sz T w v n fs := by
  obtain ⟨us, h1, h2⟩ := h
  exact ⟨us, h1.mono hs, h2.mono fun j hj hh => ⟨hs j hj hh.1, hh.2⟩⟩
theorem OwnRecs.chg (h : OwnRecs e sz S w v n fs) (g : Chg T w w') (hs : ∀ j, j < w.heap.size → S j → ¬ T j) : OwnRecs e sz S w' v n fs := by
  obtain ⟨us, h1, h2⟩ := h
  exact ⟨us, h1.chg g hs, h2.chg g fun j hj hh => hs j hj hh.1⟩
theorem OwnRecs.new (h : OwnRecs e sz S w v n fs) (g : New w w') : OwnRecs e sz S w' v n fs := h.chg g fun _ _ _ hf => hf
theorem OwnRecs.old (h : OwnRecs e sz S w v n fs) : OwnRecs e sz (fun j => S j ∧ j < w.heap.size) w v n fs := h.mono fun _ hj hs => ⟨hs, hj⟩
theorem OwnRecs.recs (h : OwnRecs e sz S w v n fs) : Recs sz S w v n fs := by
  obtain ⟨us, h1, h2⟩ := h
  obtain ⟨a, c, rfl, s1, s2, s3, s4⟩ := h1.shape
  refine ⟨by rw [← h2.length]; exact s3, a, c, rfl, s1, s2, ?_⟩
  by_cases h0 : n = 0
  · exact .inl h0
  · obtain ⟨g, cap, e1, hS, hg, _, _⟩ := h1.head (by omega)
    simp only [Value.slice.injEq] at e1
    obtain ⟨rfl, -, rfl⟩ := e1
    refine .inr ⟨g, 0, rfl, hS, hg, fun i f hf => ?_⟩
    obtain ⟨u, hu, ho⟩ := h2.get hf
    exact ⟨u, by rw [Nat.zero_add]; exact h1.cellAt hu, (ho.reads).mono fun _ _ hj => hj.1⟩
theorem OwnRecs.nil (e sz : Nat) (S : Nat → Prop) (w : World) : OwnRecs e sz S w (.slice none 0 0) 0 [] := ⟨[], Row.nil _ _ _ _, trivial⟩
theorem OwnRecs.empty (e sz : Nat) (w : World) : OwnRecs e sz (fun k => w.heap.size ≤ k) (w.alloc (.cells #[] e)) (.slice (some ⟨w.heap.size, 0, none⟩) 0 0) 0 [] :=
  ⟨[], (Row.empty _ _ _).mono (fun _ _ h => by omega) |> fun h => ⟨⟨by simp, h.1.2⟩, h.2⟩, trivial⟩
theorem OwnRecs.shape (h : OwnRecs e sz S w v n fs) : ∃ a c, v = .slice a n c ∧ n ≤ c ∧ c ≤ maxLen ∧ fs.length = n * sz := by
  obtain ⟨us, h1, h2⟩ := h
  obtain ⟨a, c, rfl, s1, s2, s3, _⟩ := h1.shape
  exact ⟨a, c, rfl, s1, s2, by rw [← h2.length]; exact s3⟩
theorem Recs.chg (h : Recs sz S w v n fs) (g : Chg T w w') (hs : ∀ j, j < w.heap.size → S j → ¬ T j) : Recs sz S w' v n fs := by
  obtain ⟨h0, a, c, rfl, h1, h2, h3⟩ := h
  refine ⟨h0, a, c, rfl, h1, h2, ?_⟩
  rcases h3 with h3 | ⟨b, off, rfl, hS, hb, hc⟩
  · exact .inl h3
  · refine .inr ⟨b, off, rfl, hS, Nat.lt_of_lt_of_le hb g.size, fun i f hf => ?_⟩
    obtain ⟨u, hu, hr⟩ := hc i f hf
    exact ⟨u, g.cell hu (hs b hb hS), hr.chg g hs⟩
theorem Recs.new (h : Recs sz S w v n fs) (g : New w w') : Recs sz S w' v n fs := h.chg g fun _ _ _ hf => hf
theorem Recs.mono (h : Recs sz S w v n fs) (hs : ∀ j, j < w.heap.size → S j → T j) : Recs sz T w v n fs := by
  obtain ⟨h0, a, c, rfl, h1, h2, h3⟩ := h
  refine ⟨h0, a, c, rfl, h1, h2, ?_⟩
  rcases h3 with h3 | ⟨b, off, rfl, hS, hb, hc⟩
  · exact .inl h3
  · refine .inr ⟨b, off, rfl, hs b hb hS, hb, fun i f hf => ?_⟩
    obtain ⟨u, hu, hr⟩ := hc i f hf
    exact ⟨u, hu, hr.mono hs⟩
theorem Recs.old (h : Recs sz S w v n fs) : Recs sz (fun j => S j ∧ j < w.heap.size) w v n fs := h.mono fun _ hj hs => ⟨hs, hj⟩
/-- its first block, where there is an element -/
theorem Recs.head (h : Recs sz S w v n fs) (hn : 0 < n) : ∃ b off c, v = .slice (some ⟨b, off, none⟩) n c ∧ S b ∧ b < w.heap.size ∧ ∀ (i : Nat) f, fs[i]? = some f → ∃ u, w.cell? ⟨b, off + i, none⟩ = some u ∧ f.reads S w u := by
  obtain ⟨h0, a, c, rfl, h1, h2, h3⟩ := h
  rcases h3 with h3 | ⟨b, off, rfl, hS, hb, hc⟩
  · omega
  · exact ⟨b, off, c, rfl, hS, hb, hc⟩
end

/-- One more struct. -/
theorem OwnRecs.snoc {e sz : Nat} {S T : Nat → Prop} {w w' : World} {v v' : Value} {n : Nat} {fs gs : List Fld} {us ts : List Value} (h2 : Fields (fun j => S j ∧ v.ownBlock ≠ some j) w us fs) (hu : Fields T w ts gs)
    (h1 : Row e sz (fun k => v.ownBlock = some k ∨ w.heap.size < k) w' v' (n + 1) (us ++ ts)) (g : Chg (fun k => v.ownBlock = some k) w w') (hS : ∀ j, v.ownBlock = some j → S j ∧ j < w.heap.size) (hT : ∀ j, S j → ¬ T j) :
    OwnRecs e sz (fun j => (S j ∧ j < w.heap.size) ∨ (T j ∧ j < w.heap.size) ∨ w.heap.size < j) w' v' (n + 1) (fs ++ gs) := by
  refine ⟨us ++ ts, ?_, ?_⟩
  · exact h1.mono fun j _ hj => by
      rcases hj with hj | hj
      · exact .inl (hS j hj)
      · exact .inr (.inr hj)
  · have r := (Fields.append hu.old h2.old (fun j hj hT' => hT j hj.1.1 hT'.1)).chg g (fun j _ hj he => by
      rcases hj with hj | hj
      · exact hj.1.2 he
      · exact hT j (hS j he).1 hj.1)
    refine r.mono fun j hj hh => ?_
    have hlt : j < w.heap.size := by rcases hh with hh | hh <;> exact hh.2
    refine ⟨?_, fun e => ?_⟩
    · rcases hh with hh | hh
      · exact .inl ⟨hh.1.1, hh.2⟩
      · exact .inr (.inl ⟨hh.1, hh.2⟩)
    · have := h1.2 j e
      rcases this with h | h
      · rcases hh with hh | hh
        · exact hh.1.2 h
        · exact hT j (hS j h).1 hh.1
      · omega

/-! ### numbering them -/
def Fld.size : Fld → Nat
  | .nums xs => xs.length
  | _ => 1
def decs (n : Nat) : List UInt8 := if h : n < 10 then [UInt8.ofNat (48 + n)] else decs (n / 10) ++ [UInt8.ofNat (48 + n % 10)]
def markT (k : Int) : List UInt8 := 109 :: decs k.toNat
def Fld.mark (k : Int) : Fld → Fld
  | .int _ => .int k
  | .txt _ => .txt (markT k)
  | .bool _ => .bool (decide (k % 3 = 0))
  | .nums xs => .nums (upTo k xs.length)
def sizes (fs : List Fld) : Nat := (fs.map Fld.size).sum
def markF (k : Int) : List Fld → List Fld
  | [] => []
  | f :: fs => f.mark k :: markF (k + f.size) fs
@[simp] theorem length_markF : ∀ (k : Int) (fs : List Fld), (markF k fs).length = fs.length
  | _, [] => rfl
  | k, f :: fs => by simp [markF, length_markF]
theorem sizes_cons (f : Fld) (fs : List Fld) : sizes (f :: fs) = f.size + sizes fs := by simp [sizes]
theorem sizes_append (a b : List Fld) : sizes (a ++ b) = sizes a + sizes b := by simp [sizes]
theorem markF_append : ∀ (k : Int) (a b : List Fld), markF k (a ++ b) = markF k a ++ markF (k + sizes a) b
  | k, [], b => by simp [markF, sizes]
  | k, f :: r, b => by
    rw [List.cons_append, markF, markF_append, markF, sizes_cons]
    simp [Int.add_assoc]
/-- what stands there after i places -/
def markedF (k : Int) (fs : List Fld) (i : Nat) : List Fld := markF k (fs.take i) ++ fs.drop i
theorem length_markedF (k : Int) (fs : List Fld) (i : Nat) : (markedF k fs i).length = fs.length := by simp [markedF]; omega
theorem markedF_zero (k : Int) (fs : List Fld) : markedF k fs 0 = fs := by simp [markedF, markF]
theorem markedF_all (k : Int) (fs : List Fld) {i : Nat} (h : fs.length ≤ i) : markedF k fs i = markF k fs := by simp [markedF, List.take_of_length_le h, List.drop_eq_nil_of_le h]
theorem markedF_later {k : Int} {fs : List Fld} {i j : Nat} (h : i ≤ j) : (markedF k fs i)[j]? = fs[j]? := by
  unfold markedF
  by_cases hj : j < fs.length
  · rw [List.getElem?_append_right (by simp; omega)]
    simp only [length_markF, List.length_take, List.getElem?_drop]
    congr 1; omega
  · rw [List.getElem?_eq_none (by simp; omega), List.getElem?_eq_none (by omega)]
theorem markedF_step {k : Int} {fs : List Fld} {i : Nat} {f : Fld} (h : fs[i]? = some f) : (markedF k fs i).set i (f.mark (k + sizes (fs.take i))) = markedF k fs (i + 1) := by
  obtain ⟨hi, e⟩ := List.getElem?_eq_some_iff.1 h
  unfold markedF
  rw [List.take_succ_eq_append_getElem hi, markF_append, List.set_append_right _ _ (by simp; omega)]
  have e1 : i - (markF k (List.take i fs)).length = 0 := by simp; omega
  rw [e1, List.drop_eq_getElem_cons hi, List.set_cons_zero, e]
  simp [markF]
theorem sizes_take {fs : List Fld} {i : Nat} {f : Fld} (h : fs[i]? = some f) : sizes (fs.take (i + 1)) = sizes (fs.take i) + f.size := by
  obtain ⟨hi, e⟩ := List.getElem?_eq_some_iff.1 h
  rw [List.take_succ_eq_append_getElem hi, sizes_append, e]; simp [sizes]
theorem sizes_le (fs : List Fld) (i : Nat) : sizes (fs.take i) ≤ sizes fs := by
  conv => rhs; rw [← List.take_append_drop i fs, sizes_append]
  omega
theorem markF_get {fs : List Fld} {i : Nat} {k : Int} {f : Fld} (h : fs[i]? = some f) : (markF k fs)[i]? = some (f.mark (k + sizes (fs.take i))) := by
  obtain ⟨hi, e⟩ := List.getElem?_eq_some_iff.1 h
  conv => lhs; rw [← List.take_append_drop i fs, markF_append]
  rw [List.getElem?_append_right (by simp; omega)]
  have e1 : i - (markF k (List.take i fs)).length = 0 := by simp; omega
  rw [e1, List.drop_eq_getElem_cons hi, e]
  simp [markF]

theorem chg_set1 (w : World) (b i : Nat) (x : Value) : Chg (fun q => q = b) w (w.setCell ⟨b, i, none⟩ x) := (Chg.refl (fun q => q = b) w).setCell (a := ⟨b, i, none⟩) x (fun _ => rfl)
theorem chg_set2 (w : World) (b i j : Nat) (x y : Value) : Chg (fun q => q = b) w ((w.setCell ⟨b, i, none⟩ x).setCell ⟨b, j, none⟩ y) := (chg_set1 w b i x).setCell (a := ⟨b, j, none⟩) y (fun _ => rfl)
theorem chg_set3 (w : World) (b i j k : Nat) (x y z : Value) : Chg (fun q => q = b) w (((w.setCell ⟨b, i, none⟩ x).setCell ⟨b, j, none⟩ y).setCell ⟨b, k, none⟩ z) := (chg_set2 w b i j x y).setCell (a := ⟨b, k, none⟩) z (fun _ => rfl)
theorem take_set_succ {α : Type} {us : List α} {i : Nat} {x : α} (h : i < us.length) : (us.set i x).take (i + 1) = us.take i ++ [x] := by
  rw [List.take_succ_eq_append_getElem (by simpa using h)]
  simp [List.take_set_of_le]
theorem take_set2 {α : Type} {us : List α} {i : Nat} {x y : α} (h : i + 1 < us.length) : ((us.set i x).set (i + 1) y).take (i + 2) = us.take i ++ [x, y] := by
  rw [take_set_succ (by simpa using h), take_set_succ (by omega)]; simp
theorem take_set3 {α : Type} {us : List α} {i : Nat} {x y z : α} (h : i + 2 < us.length) : (((us.set i x).set (i + 1) y).set (i + 2) z).take (i + 3) = us.take i ++ [x, y, z] := by
  rw [take_set_succ (by simpa using h), take_set2 (by omega)]; simp

theorem flds_len {α : Type} (f : α → List Fld) (sz : Nat) (hf : ∀ a, (f a).length = sz) : ∀ os : List α, (os.flatMap f).length = os.length * sz
  | [] => by simp
  | a :: r => by rw [List.flatMap_cons, List.length_append, hf, flds_len f sz hf r, List.length_cons]; rw [Nat.add_mul]; omega
theorem flds_get {α : Type} (f : α → List Fld) (sz : Nat) (hf : ∀ a, (f a).length = sz) : ∀ (os : List α) {i j : Nat} {a : α}, os[i]? = some a → j < sz → (os.flatMap f)[i * sz + j]? = (f a)[j]?
  | [], i, j, a, h, _ => by simp at h
  | x :: r, 0, j, a, h, hj => by
    simp at h; subst h
    rw [List.flatMap_cons, Nat.zero_mul, Nat.zero_add, List.getElem?_append_left (by rw [hf]; exact hj)]
  | x :: r, i + 1, j, a, h, hj => by
    have ih := flds_get f sz hf r (i := i) (j := j) (a := a) (by simpa using h) hj
    rw [List.flatMap_cons, List.getElem?_append_right (by rw [hf, Nat.add_mul]; omega), hf, ← ih]
    congr 1
    rw [Nat.add_mul]; omega
theorem flds_take {α : Type} (f : α → List Fld) (sz : Nat) (hf : ∀ a, (f a).length = sz) : ∀ (os : List α) (i : Nat), (os.flatMap f).take (i * sz) = (os.take i).flatMap f
  | [], i => by simp
  | x :: r, 0 => by simp
  | x :: r, i + 1 => by
    rw [List.flatMap_cons, List.take_succ_cons, List.flatMap_cons, ← flds_take f sz hf r i, Nat.add_mul, Nat.one_mul, Nat.add_comm (i * sz) sz, ← hf x, List.take_length_add_append]

end Go.Proofs.YtkffejommncinaaDoor

/- Rows of structs: what their cells read as, over append and set. -/
namespace Go.Proofs.YtkffejommncinaaDoor
open Go.RowKit

theorem flds_drop {α : Type} (f : α → List Fld) (sz : Nat) (hf : ∀ a, (f a).length = sz) : ∀ (os : List α) (i : Nat), (os.flatMap f).drop (i * sz) = (os.drop i).flatMap f
  | [], i => by simp
  | a :: os, 0 => by simp
  | a :: os, i + 1 => by
    rw [List.flatMap_cons, List.drop_succ_cons, ← flds_drop f sz hf os i, List.drop_append, List.drop_eq_nil_of_le (by rw [hf, Nat.succ_mul]; omega), List.nil_append, hf, Nat.succ_mul, Nat.add_sub_cancel]

/-- The cells us read as the fields fs, by memory in T. -/
def Reads (T : Nat → Prop) (w : World) (us : List Value) (fs : List Fld) : Prop :=
  us.length = fs.length ∧ ∀ (i : Nat) u f, us[i]? = some u → fs[i]? = some f → f.reads T w u

theorem Fields.reads {S : Nat → Prop} {w : World} {us : List Value} {fs : List Fld} (h : Fields S w us fs) : Reads S w us fs := by
  refine ⟨h.length, fun i u f hu hf => ?_⟩
  obtain ⟨x, hx, ho⟩ := h.get hf
  rw [hu] at hx
  obtain rfl := Option.some.inj hx
  exact ho.reads
theorem Reads.one {S : Nat → Prop} {w : World} {us : List Value} {fs : List Fld} (h : Reads S w us fs) : ∀ u ∈ us, u.oneCell' = true := by
  intro u hu
  obtain ⟨i, hi, rfl⟩ := List.mem_iff_getElem.1 hu
  have hif : i < fs.length := by rw [← h.1]; exact hi
  obtain ⟨f, hf⟩ := get_of hif
  exact (h.2 i _ f (List.getElem?_eq_getElem hi) hf).one
theorem Reads.chg {S T : Nat → Prop} {w w' : World} {us : List Value} {fs : List Fld} (h : Reads S w us fs) (g : Chg T w w') (hd : ∀ j, j < w.heap.size → S j → ¬ T j) : Reads S w' us fs :=
  ⟨h.1, fun i u f hu hf => (h.2 i u f hu hf).chg g hd⟩
theorem Reads.new {S : Nat → Prop} {w w' : World} {us : List Value} {fs : List Fld} (h : Reads S w us fs) (g : New w w') : Reads S w' us fs := h.chg g fun _ _ _ hf => hf
theorem Reads.mono {S T : Nat → Prop} {w : World} {us : List Value} {fs : List Fld} (h : Reads S w us fs) (hs : ∀ j, j < w.heap.size → S j → T j) : Reads T w us fs :=
  ⟨h.1, fun i u f hu hf => (h.2 i u f hu hf).mono hs⟩
theorem Reads.append {S : Nat → Prop} {w : World} {us vs : List Value} {fs gs : List Fld} (h : Reads S w us fs) (g : Reads S w vs gs) : Reads S w (us ++ vs) (fs ++ gs) := by
  refine ⟨by simp [h.1, g.1], fun i u f hu hf => ?_⟩
  rw [List.getElem?_append] at hu hf
  rw [h.1] at hu
  split at hu
  · rename_i hi
    rw [if_pos hi] at hf
    exact h.2 i u f hu hf
  · rename_i hi
    rw [if_neg hi] at hf
    exact g.2 _ u f hu hf
theorem Reads.take {S : Nat → Prop} {w : World} {us : List Value} {fs : List Fld} (h : Reads S w us fs) (n : Nat) : Reads S w (us.take n) (fs.take n) := by
  refine ⟨by simp [h.1], fun i u f hu hf => ?_⟩
  rw [List.getElem?_take] at hu hf
  split at hu
  · rename_i hi
    rw [if_pos hi] at hf
    exact h.2 i u f hu hf
  · simp at hu
theorem Reads.drop {S : Nat → Prop} {w : World} {us : List Value} {fs : List Fld} (h : Reads S w us fs) (n : Nat) : Reads S w (us.drop n) (fs.drop n) := by
  refine ⟨by simp [h.1], fun i u f hu hf => ?_⟩
  rw [List.getElem?_drop] at hu hf
  exact h.2 _ u f hu hf
theorem Reads.set {S : Nat → Prop} {w : World} {us : List Value} {fs : List Fld} (h : Reads S w us fs) {v : Value} {g : Fld} (hg : g.reads S w v) (n : Nat) : Reads S w (us.set n v) (fs.set n g) := by
  refine ⟨by simp [h.1], fun i u f hu hf => ?_⟩
  rw [List.getElem?_set] at hu hf
  rw [h.1] at hu
  split at hu
  · rename_i hi
    rw [if_pos hi] at hf
    split at hu
    · rename_i hl
      rw [if_pos hl] at hf
      obtain rfl := Option.some.inj hu
      obtain rfl := Option.some.inj hf
      exact hg
    · simp at hu
  · rename_i hi
    rw [if_neg hi] at hf
    exact h.2 i u f hu hf

/-- A row of the call's own whose cells read as fields. -/
theorem Reads.recs {e sz : Nat} {S T : Nat → Prop} {w : World} {v : Value} {n : Nat} {us : List Value} {fs : List Fld} (r : Reads T w us fs) (h : Row e sz S w v n us) :
    Recs sz (fun j => S j ∨ T j) w v n fs := by
  obtain ⟨a, c, rfl, s1, s2, s3, _⟩ := h.shape
  refine ⟨by rw [← r.1]; exact s3, a, c, rfl, s1, s2, ?_⟩
  by_cases h0 : n = 0
  · exact .inl h0
  · obtain ⟨g, cap, e1, hS, hg, _, _⟩ := h.head (by omega)
    simp only [Value.slice.injEq] at e1
    obtain ⟨rfl, -, rfl⟩ := e1
    refine .inr ⟨g, 0, rfl, .inl hS, hg, fun i f hf => ?_⟩
    have hi : i < us.length := by rw [r.1]; exact (List.getElem?_eq_some_iff.1 hf).1
    obtain ⟨u, hu⟩ := get_of hi
    exact ⟨u, by rw [Nat.zero_add]; exact h.cellAt hu, (r.2 i u f hu hf).mono fun _ _ hj => .inr hj⟩

/-- A part of a row, as a source that is copied. -/
theorem Row.src {e sz : Nat} {S : Nat → Prop} {w : World} {g n cap : Nat} {us : List Value} (h : Row e sz S w (.slice (some ⟨g, 0, none⟩) n cap) n us) {i m : Nat} (him : i + m ≤ n) (c : Nat) : Src w (some ⟨g, i * sz, none⟩) m c sz ((us.drop (i * sz)).take (m * sz)) := by
  obtain ⟨_, _, hv, _, _, s3, _⟩ := h.shape
  refine ⟨?_, by simp, fun ad e j x hx => ?_⟩
  · have : (i + m) * sz ≤ n * sz := Nat.mul_le_mul_right _ him
    rw [Nat.add_mul] at this
    simp [s3]; omega
  · cases e
    rw [addr_add]
    rw [List.getElem?_take] at hx
    split at hx
    · rw [List.getElem?_drop] at hx
      exact h.cellAt hx
    · simp at hx
end Go.Proofs.YtkffejommncinaaDoor

/- Writing the fields of structs of the call's own; markIntS for numbers that may be none. -/
namespace Go.Proofs.YtkffejommncinaaDoor
open Go.RowKit

/-- what stands at a field's place -/
theorem OwnRecs.at {e sz : Nat} {S : Nat → Prop} {w : World} {v : Value} {n i : Nat} {fs : List Fld} {f : Fld} (h : OwnRecs e sz S w v n fs) (hf : fs[i]? = some f) :
    ∃ b c u, v = .slice (some ⟨b, 0, none⟩) n c ∧ S b ∧ b < w.heap.size ∧ w.cell? ⟨b, i, none⟩ = some u ∧ w.frozen? ⟨b, i, none⟩ = false ∧ f.owns (fun j => S j ∧ j ≠ b) w u := by
  obtain ⟨us, h1, h2⟩ := h
  obtain ⟨u, hu, ho⟩ := h2.get hf
  obtain ⟨_, _, _, _, _, s3, _⟩ := h1.shape
  have hi := (List.getElem?_eq_some_iff.1 hu).1
  have hn : 0 < n := by
    rcases Nat.eq_zero_or_pos n with h | h
    · subst h; simp at s3; simp [s3] at hi
    · exact h
  obtain ⟨b, c, rfl, hS, hb, _, _⟩ := h1.head hn
  exact ⟨b, c, u, rfl, hS, hb, h1.cellAt hu, h1.frozenAt i, ho.mono fun j _ hj => ⟨hj.1, fun e => hj.2 (by simp [Value.ownBlock, e])⟩⟩
theorem OwnRecs.putInt {e sz : Nat} {S : Nat → Prop} {w : World} {b c n i : Nat} {fs : List Fld} {x y : Int} (h : OwnRecs e sz S w (.slice (some ⟨b, 0, none⟩) n c) n fs) (hf : fs[i]? = some (.int x)) (hy : I64 y) :
    OwnRecs e sz S (w.setCell ⟨b, i, none⟩ (.int .i64 y)) (.slice (some ⟨b, 0, none⟩) n c) n (fs.set i (.int y)) := by
  obtain ⟨us, h1, h2⟩ := h
  obtain ⟨u, hu, ho⟩ := h2.get hf
  refine ⟨us.set i (.int .i64 y), h1.set i _, ?_⟩
  have h3 := h2.chg (chg_set1 w b i (.int .i64 y)) (fun j _ hj e => hj.2 (by rw [e]; rfl))
  exact Fields.put (f := .int x) (f' := .int y) (T := fun _ => False) (Chg.refl _ _) (fun _ h => h.elim) (fun j hj => by simp [blk] at hj) h3 hu hf (fun S' _ => ⟨rfl, hy⟩)
theorem OwnRecs.putNums {e sz : Nat} {S : Nat → Prop} {w w' : World} {b c n i : Nat} {fs : List Fld} {u : Value} {xs ys : List Int} (h : OwnRecs e sz S w (.slice (some ⟨b, 0, none⟩) n c) n fs) (hf : fs[i]? = some (.nums xs))
    (hc : w.cell? ⟨b, i, none⟩ = some u) (g : Chg (fun j => blk u (.nums xs) = some j) w w') (hl : ys.length = xs.length) (ho : ∀ S', OwnI S' w u xs → OwnI S' w' u ys) :
    OwnRecs e sz S w' (.slice (some ⟨b, 0, none⟩) n c) n (fs.set i (.nums ys)) := by
  obtain ⟨us, h1, h2⟩ := h
  obtain ⟨x, hx, hox⟩ := h2.get hf
  have e1 := h1.cellAt hx
  rw [hc] at e1
  obtain rfl := Option.some.inj e1
  refine ⟨us, h1.chg' g (fun j hj he => (hox.blk j he).1.2 hj), ?_⟩
  have h3 := Fields.put (f := .nums xs) (f' := .nums ys) g (fun j hj => hj) (fun j hj => by
    cases xs with
    | nil => obtain rfl := List.eq_nil_of_length_eq_zero hl; exact hj
    | cons a r => cases ys with
      | nil => simp at hl
      | cons a' r' => exact hj) h2 hx hf ho
  have e2 : us.set i u = us := by
    obtain ⟨hi, e⟩ := List.getElem?_eq_some_iff.1 hx
    rw [← e]; exact List.set_getElem_self hi
  rw [e2] at h3
  exact h3

theorem markNone (a : Option Addr) (c : Nat) (k : Int) (w : World) :
    Calls Tryd.prog 57 #[.slice a 0 c, .int .i64 k] w fun e w' => e = .returned (.int .i64 k) ∧ w = w' := by
  go_enter Tryd.func57, Tryd.ntmps57
  go_wp2
  go_loop [1, 5] (fun q i => q = .int .i64 k ∧ i = .int .i64 0) (fun _ _ => 0)
  case atStart => exact ⟨rfl, rfl⟩
  case round =>
    obtain ⟨rfl, rfl⟩ := hrel
    go_wp2
    go_ret
    exact ⟨rfl, rfl⟩

theorem markI {S : Nat → Prop} (v : Value) (xs : List Int) (k : Int) (w : World) (h : OwnI S w v xs) (hk0 : 0 ≤ k) (hk1 : k ≤ 1152921504606846976) (hr : xs.length ≤ 1152921504606846976) :
    Calls Tryd.prog 57 #[v, .int .i64 k] w fun e w' => e = .returned (.int .i64 (k + xs.length)) ∧ Chg (fun j => blk v (.nums xs) = some j) w w' ∧ ∀ S', OwnI S' w v xs → OwnI S' w' v (upTo k xs.length) := by
  rcases h with ⟨rfl, a, c, rfl, h2, h3⟩ | ⟨hne, h⟩
  · refine (markNone a c k w).mono ?_
    rintro e w' ⟨rfl, rfl⟩
    exact ⟨by simp, Chg.refl _ _, fun S' hs => hs⟩
  · refine (markInts v xs k w h hk0 hk1 hr).mono ?_
    rintro e w' ⟨rfl, c1, o1⟩
    refine ⟨rfl, ?_, fun S' hs => .inr ⟨?_, ?_⟩⟩
    · cases xs with
      | nil => exact absurd rfl hne
      | cons x r => exact c1
    · intro e
      have := congrArg List.length e
      simp at this
      exact hne this
    · rcases hs with ⟨e, _⟩ | ⟨_, hs⟩
      · exact absurd e hne
      · exact o1.mono' (fun j hj => hs.1.2 j hj)
end Go.Proofs.YtkffejommncinaaDoor

/- Rows: their fronts; fields without some in the middle. -/
namespace Go.Proofs.YtkffejommncinaaDoor
open Go.RowKit

theorem Row.front {e sz : Nat} {S : Nat → Prop} {w : World} {g n cap : Nat} {us : List Value} (h : Row e sz S w (.slice (some ⟨g, 0, none⟩) n cap) n us) {i : Nat} (hi : i ≤ n) :
    Row e sz S w (.slice (some ⟨g, 0, none⟩) i cap) i (us.take (i * sz)) := by
  obtain ⟨⟨h1, h2⟩, hS⟩ := h
  rcases h2 with ⟨hv, _⟩ | ⟨g', cap', cur, hv, hb, hh, hn, hm, hs, ht⟩
  · simp at hv
  · simp only [Value.slice.injEq, Option.some.injEq, Addr.mk.injEq] at hv
    obtain ⟨⟨rfl, -, -⟩, -, rfl⟩ := hv
    have hmul : i * sz ≤ n * sz := Nat.mul_le_mul_right _ hi
    refine ⟨⟨by rw [List.length_take, h1, Nat.min_eq_left hmul], .inr ⟨g, cap, cur, rfl, hb, hh, by omega, hm, hs, ?_⟩⟩, fun k hk => hS k hk⟩
    rw [← ht, List.take_take, Nat.min_eq_left hmul]
theorem Fields.drop {w : World} : ∀ {vs : List Value} {fs : List Fld} {S : Nat → Prop} (m : Nat), Fields S w vs fs → Fields S w (vs.drop m) (fs.drop m)
  | _, _, _, 0, h => h
  | [], [], _, _ + 1, h => h
  | _ :: _, _ :: _, _, m + 1, h => (Fields.drop m h.2).mono fun _ _ hj => hj.1
  | [], _ :: _, _, _ + 1, h => h.elim
  | _ :: _, [], _, _ + 1, h => h.elim
theorem Fields.out {w : World} : ∀ {vs : List Value} {fs : List Fld} {S : Nat → Prop} (n m : Nat), n ≤ m → Fields S w vs fs → Fields S w (vs.take n ++ vs.drop m) (fs.take n ++ fs.drop m)
  | vs, fs, _, 0, m, _, h => by simpa using Fields.drop m h
  | [], [], _, n + 1, m, _, h => by simpa using h
  | v :: vs, f :: fs, S, n + 1, 0, hm, h => by omega
  | v :: vs, f :: fs, S, n + 1, m + 1, hm, h => ⟨h.1, Fields.out n m (by omega) h.2⟩
  | [], _ :: _, _, _ + 1, _, _, h => h.elim
  | _ :: _, [], _, _ + 1, _, _, h => h.elim
end Go.Proofs.YtkffejommncinaaDoor

/- The walk of l6In, the reference's test of bounds; the reference's tests of bytes. -/
namespace Go.Proofs.YtkffejommncinaaDoor
open Go.RowKit

def inB (n l h : Int) : Bool := decide (l ≤ n) && decide (n ≤ h)

set_option maxRecDepth 4000 in
set_option maxHeartbeats 400000 in
theorem in_any (a b c : Int) (w : World) :
    Calls Tryd.prog 80 #[.int .i64 a, .int .i64 b, .int .i64 c] w fun e w' => e = .returned (.bool (inB a b c)) ∧ w = w' := by
  go_enter Tryd.func80, Tryd.ntmps80
  go_wp2
  all_goals (go_ret; exact ⟨ret_bool (by unfold inB; first | (simp_all; done) | (simp_all; omega)), rfl⟩)
theorem in_is {r : Bool} {a b c : Int} (h : inB a b c = r) (w : World) :
    Calls Tryd.prog 80 #[.int .i64 a, .int .i64 b, .int .i64 c] w fun e w' => e = .returned (.bool r) ∧ w = w' := h ▸ in_any a b c w

theorem bytesOk_in (x : Int) (r : List Int) : bytesOk (x :: r) = (inB x 0 255 && bytesOk r) := by
  rw [bytesOk]
  unfold inB
  by_cases h : x < 0 ∨ 255 < x
  · rw [if_pos h]
    rcases h with h | h
    · simp [show ¬ (0 ≤ x) from by omega]
    · simp [show ¬ (x ≤ 255) from by omega]
  · rw [if_neg h]; simp [show 0 ≤ x from by omega, show x ≤ 255 from by omega]

end Go.Proofs.YtkffejommncinaaDoor
