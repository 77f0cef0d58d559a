/- Base of this seat's proofs: how one world changes into another, and how slices of numbers read; nothing here speaks of one Go function. -/
import Derived.Test.YtkffejommncinaaDoorRows
import Derived.WalkKit
import Derived.WalkSpells
import Derived.WalkLawsBesides
import Derived.BigQuiet
import Derived.Deep.QuietTactic
import Derived.Lib.Hide
import Derived.Maps.AppendAt
namespace Go.Proofs.YtkffejommncinaaDoor
open Go.RowKit

/-- Of the blocks that were there, only those in S may have changed. -/
structure Chg (S : Nat → Prop) (w w' : World) : Prop where
  os : w'.os = w.os
  tape : w'.tape = w.tape
  output : w'.output = w.output
  size : w.heap.size ≤ w'.heap.size
  block : ∀ k, k < w.heap.size → ¬ S k → w'.heap[k]? = w.heap[k]?

/-- No block that was there has changed. -/
def New (w w' : World) : Prop := Chg (fun _ => False) w w'

theorem Chg.refl (S : Nat → Prop) (w : World) : Chg S w w := ⟨rfl, rfl, rfl, Nat.le_refl _, fun _ _ _ => rfl⟩
theorem New.refl (w : World) : New w w := Chg.refl _ w

theorem Chg.mono {S T : Nat → Prop} {w w' : World} (h : Chg S w w') (hs : ∀ k, k < w.heap.size → S k → T k) : Chg T w w' :=
  ⟨h.os, h.tape, h.output, h.size, fun k hk hn => h.block k hk fun hS => hn (hs k hk hS)⟩

theorem Chg.trans {S : Nat → Prop} {w w1 w2 : World} (h : Chg S w w1) (g : Chg S w1 w2) : Chg S w w2 :=
  ⟨g.os.trans h.os, g.tape.trans h.tape, g.output.trans h.output, Nat.le_trans h.size g.size,
    fun k hk hn => (g.block k (Nat.lt_of_lt_of_le hk h.size) hn).trans (h.block k hk hn)⟩

theorem New.trans {w w1 w2 : World} (h : New w w1) (g : New w1 w2) : New w w2 := Chg.trans h g
theorem New.chg {w w' : World} (h : New w w') (S : Nat → Prop) : Chg S w w' := Chg.mono h fun _ _ hf => hf.elim
theorem New.size {w w' : World} (h : New w w') : w.heap.size ≤ w'.heap.size := Chg.size h

/-- A change of T, where what of T was there already is in S. -/
theorem Chg.step {S T : Nat → Prop} {w w1 w2 : World} (h : Chg S w w1) (g : Chg T w1 w2) (ht : ∀ k, k < w.heap.size → T k → S k) : Chg S w w2 :=
  ⟨g.os.trans h.os, g.tape.trans h.tape, g.output.trans h.output, Nat.le_trans h.size g.size,
    fun k hk hn => (g.block k (Nat.lt_of_lt_of_le hk h.size) (fun hT => hn (ht k hk hT))).trans (h.block k hk hn)⟩

/-- A change of what was made since w is no change of w's own blocks. -/
theorem New.trans_chg {S : Nat → Prop} {w w1 w2 : World} (h : New w w1) (g : Chg S w1 w2) (hs : ∀ k, k < w.heap.size → ¬ S k) : New w w2 :=
  ⟨g.os.trans h.os, g.tape.trans h.tape, g.output.trans h.output, Nat.le_trans h.size g.size,
    fun k hk hn => (g.block k (Nat.lt_of_lt_of_le hk h.size) (hs k hk)).trans (Chg.block h k hk hn)⟩

theorem Chg.drewN {S : Nat → Prop} {w w1 : World} (h : Chg S w w1) (n : Nat) : Chg S w (w1.drewN n) := ⟨h.os, h.tape, h.output, h.size, h.block⟩
theorem Chg.drew {S : Nat → Prop} {w w1 : World} (h : Chg S w w1) : Chg S w w1.drew := ⟨h.os, h.tape, h.output, h.size, h.block⟩
theorem New.drewN {w w1 : World} (h : New w w1) (n : Nat) : New w (w1.drewN n) := Chg.drewN h n
theorem New.drew {w w1 : World} (h : New w w1) : New w w1.drew := Chg.drew h

theorem Chg.alloc {S : Nat → Prop} {w w1 : World} (h : Chg S w w1) (o : Obj) : Chg S w (w1.alloc o) :=
  ⟨h.os, h.tape, h.output, by have := h.size; simp; omega, fun k hk hn => by
    rw [Below.heap_alloc _ _ _ (Nat.lt_of_lt_of_le hk h.size)]; exact h.block k hk hn⟩
theorem New.alloc {w w1 : World} (h : New w w1) (o : Obj) : New w (w1.alloc o) := Chg.alloc h o

theorem Chg.setCell {S : Nat → Prop} {w w1 : World} (h : Chg S w w1) {a : Addr} (v : Value) (ha : a.block < w.heap.size → S a.block) : Chg S w (w1.setCell a v) :=
  ⟨h.os, h.tape, h.output, by have := h.size; simp; omega, fun k hk hn => by
    rw [Below.heap_setCell _ _ _ _ (fun e => hn (by rw [e]; exact ha (by omega)))]; exact h.block k hk hn⟩
theorem New.setCell {w w1 : World} (h : New w w1) {a : Addr} (v : Value) (ha : w.heap.size ≤ a.block) : New w (w1.setCell a v) := Chg.setCell h v fun hl => by omega

theorem Chg.grown {S : Nat → Prop} {w w1 w2 : World} {row : Option Nat} (h : Chg S w w1) (g : w1.grownBy w2 row) (hr : ∀ k, row = some k → k < w.heap.size → S k) : Chg S w w2 :=
  ⟨g.os.trans h.os, g.tape.trans h.tape, g.output.trans h.output, Nat.le_trans h.size g.size, fun k hk hn =>
    (g.block k (Nat.lt_of_lt_of_le hk h.size) (fun e => hn (hr k e.symm hk))).trans (h.block k hk hn)⟩
theorem New.grown {w w1 w2 : World} {row : Option Nat} (h : New w w1) (g : w1.grownBy w2 row) (hr : ∀ k, row = some k → w.heap.size ≤ k) : New w w2 :=
  Chg.grown h g fun k e hk => by have := hr k e; omega

theorem New.below {w w' : World} (h : New w w') : Below w.heap.size w w' := ⟨h.os, h.tape, h.output, h.size, fun k hk => Chg.block h k hk (fun hf => hf)⟩
theorem New.of_below {w w' : World} (h : Below w.heap.size w w') : New w w' := ⟨h.os, h.tape, h.output, h.size, fun k hk _ => h.block k hk⟩
theorem New.of_drewN {w w' : World} (h : ∃ n, w' = w.drewN n) : New w w' := by obtain ⟨n, rfl⟩ := h; exact (New.refl w).drewN n

theorem Chg.cell {S : Nat → Prop} {w w' : World} (h : Chg S w w') {b o : Nat} {v : Value} (hc : w.cell? ⟨b, o, none⟩ = some v) (hn : ¬ S b) : w'.cell? ⟨b, o, none⟩ = some v := by
  have hb := World.block_lt_of_cell? w _ hc
  rw [World.cell?_of_block (w := w) (h.block b hb hn)]; exact hc
theorem New.cell {w w' : World} (h : New w w') {b o : Nat} {v : Value} (hc : w.cell? ⟨b, o, none⟩ = some v) : w'.cell? ⟨b, o, none⟩ = some v := Chg.cell h hc fun hf => hf
theorem Chg.heap {S : Nat → Prop} {w w' : World} (h : Chg S w w') {b : Nat} {o : Obj} (hc : w.heap[b]? = some o) (hn : ¬ S b) : w'.heap[b]? = some o := by
  have hb := (Array.getElem?_eq_some_iff.1 hc).1
  rw [h.block b hb hn]; exact hc
theorem New.heap {w w' : World} (h : New w w') {b : Nat} {o : Obj} (hc : w.heap[b]? = some o) : w'.heap[b]? = some o := Chg.heap h hc fun hf => hf

theorem cell_set_some {w : World} {p q : Addr} {x v : Value} (h : w.cell? q = some v) : ∃ v', (w.setCell p x).cell? q = some v' := by
  by_cases e : p = q
  · subst e; exact ⟨x, World.cell?_setCell_same w p x h⟩
  · exact ⟨v, by rw [World.cell?_setCell_other _ _ _ _ e]; exact h⟩

/-- A number that fits its kind. -/
def Fits (k : IntKind) (x : Int) : Prop := (Lit.int k x).wf = true
def I64 (x : Int) : Prop := Fits .i64 x
theorem I64.bd {x : Int} (h : I64 x) : -9223372036854775808 ≤ x ∧ x ≤ 9223372036854775807 := by
  unfold I64 Fits at h
  simp [Lit.wf, IntKind.min, IntKind.max, IntKind.signed, IntKind.bits] at h; omega
theorem I64.mk {x : Int} (h1 : -9223372036854775808 ≤ x) (h2 : x ≤ 9223372036854775807) : I64 x := by
  unfold I64 Fits
  simp [Lit.wf, IntKind.min, IntKind.max, IntKind.signed, IntKind.bits]; omega
theorem Fits.u8 {x : Int} (h : Fits .u8 x) : 0 ≤ x ∧ x ≤ 255 := by
  unfold Fits at h
  simp [Lit.wf, IntKind.min, IntKind.max, IntKind.signed, IntKind.bits] at h; omega

/-- A slice value that reads as the numbers xs; its cells lie in a block of S. -/
def Nums (k : IntKind) (S : Nat → Prop) (w : World) (v : Value) (xs : List Int) : Prop :=
  ∃ a c, v = .slice a xs.length c ∧ xs.length ≤ c ∧ (c ≤ maxLen ∧ (a = none → c = 0)) ∧ (∀ x ∈ xs, Fits k x) ∧
    (xs = [] ∨ ∃ b off, a = some ⟨b, off, none⟩ ∧ S b ∧ b < w.heap.size ∧ ∀ i x, xs[i]? = some x → w.cell? ⟨b, off + i, none⟩ = some (.int k x))
abbrev Ints (S : Nat → Prop) (w : World) (v : Value) (xs : List Int) : Prop := Nums .i64 S w v xs
def Any : Nat → Prop := fun _ => True

theorem Nums.chg {k : IntKind} {S T : Nat → Prop} {w w' : World} {v : Value} {xs : List Int} (h : Nums k S w v xs) (g : Chg T w w') (hd : ∀ k, k < w.heap.size → S k → ¬ T k) : Nums k S w' v xs := by
  obtain ⟨a, c, rfl, h1, h2, h3, h4⟩ := h
  refine ⟨a, c, rfl, h1, h2, h3, ?_⟩
  rcases h4 with h4 | ⟨b, off, rfl, hs, hb, hc⟩
  · exact .inl h4
  · exact .inr ⟨b, off, rfl, hs, Nat.lt_of_lt_of_le hb g.size, fun i x hx => g.cell (hc i x hx) (hd b hb hs)⟩
theorem Nums.new {k : IntKind} {S : Nat → Prop} {w w' : World} {v : Value} {xs : List Int} (h : Nums k S w v xs) (g : New w w') : Nums k S w' v xs := h.chg g fun _ _ _ hf => hf
theorem Nums.mono {k : IntKind} {S T : Nat → Prop} {w : World} {v : Value} {xs : List Int} (h : Nums k S w v xs) (hd : ∀ k, k < w.heap.size → S k → T k) : Nums k T w v xs := by
  obtain ⟨a, c, rfl, h1, h2, h3, h4⟩ := h
  refine ⟨a, c, rfl, h1, h2, h3, ?_⟩
  rcases h4 with h4 | ⟨b, off, rfl, hs, hb, hc⟩
  · exact .inl h4
  · exact .inr ⟨b, off, rfl, hd b hb hs, hb, hc⟩
/-- what it reads as lies below the heap's end -/
theorem Nums.old {k : IntKind} {S : Nat → Prop} {w : World} {v : Value} {xs : List Int} (h : Nums k S w v xs) : Nums k (fun j => S j ∧ j < w.heap.size) w v xs := h.mono fun _ hk hs => ⟨hs, hk⟩
theorem Nums.nil (k : IntKind) (S : Nat → Prop) (w : World) : Nums k S w (.slice none 0 0) [] := ⟨none, 0, rfl, Nat.le_refl _, ⟨Nat.zero_le _, fun _ => rfl⟩, by simp, .inl rfl⟩
theorem Nums.fits {k : IntKind} {S : Nat → Prop} {w : World} {v : Value} {xs : List Int} (h : Nums k S w v xs) : ∀ x ∈ xs, Fits k x := by obtain ⟨_, _, _, _, _, h3, _⟩ := h; exact h3
theorem Nums.len {k : IntKind} {S : Nat → Prop} {w : World} {v : Value} {xs : List Int} (h : Nums k S w v xs) : xs.length ≤ maxLen := by obtain ⟨_, _, _, h1, ⟨h2, _⟩, _⟩ := h; omega

theorem nums_of_cells {k : IntKind} {w : World} (x : Addr) (n c : Nat) (zs : List Int) (hl : n ≤ c) (hm : c ≤ maxLen) (hz : zs.length = c)
    (hc : ∀ i, i < zs.length → w.cell? (x.add i) = some (.int k (zs.getD i 0))) (hw : ∀ n ∈ zs, (Lit.int k n).wf = true) : Nums k Any w (.slice (some x) n c) (zs.take n) := by
  have hln : (zs.take n).length = n := by simp; omega
  refine ⟨.some x, c, by rw [hln], by omega, ⟨hm, by simp⟩, fun y hy => hw y (List.mem_of_mem_take hy), ?_⟩
  by_cases h0 : n = 0
  · left; subst h0; rfl
  · right
    obtain ⟨b, off, spot⟩ := x
    have h1 := hc 0 (by omega)
    have hspot : spot = none := by simpa [Addr.add] using World.cell?_spot h1
    subst hspot
    refine ⟨b, off, rfl, trivial, World.block_lt_of_cell? w _ h1, fun i y hy => ?_⟩
    have hi : i < n := by have := (List.getElem?_eq_some_iff.1 hy).1; omega
    have h2 := hc i (by omega)
    rw [List.getElem?_take_of_lt hi] at hy
    rw [Addr.add_lit] at h2
    simpa [List.getD, hy] using h2

/-! ### Rows that the call made itself -/

theorem own_some {a : Addr} {n c j : Nat} (e : Value.ownBlock (.slice (some a) n c) = some j) : j = a.block := by simp [Value.ownBlock] at e; exact e.symm

/-- A slice that is nil or lies at the head of a block of the call's own, in S: n elements of sz cells each; xs: their cells. -/
def Row (e sz : Nat) (S : Nat → Prop) (w : World) (v : Value) (n : Nat) (xs : List Value) : Prop :=
  w.ownsRow 0 e sz v n xs ∧ ∀ k, v.ownBlock = some k → S k

theorem Row.lt {e sz : Nat} {S : Nat → Prop} {w : World} {v : Value} {n : Nat} {xs : List Value} (h : Row e sz S w v n xs) : ∀ k, v.ownBlock = some k → k < w.heap.size :=
  fun k hk => (h.1.lt k hk).2
theorem Row.nil (e sz : Nat) (S : Nat → Prop) (w : World) : Row e sz S w (.slice none 0 0) 0 [] := ⟨World.ownsRow_nil _ _ _ _, fun k hk => by simp [Value.ownBlock] at hk⟩
theorem Row.mono {e sz : Nat} {S T : Nat → Prop} {w : World} {v : Value} {n : Nat} {xs : List Value} (h : Row e sz S w v n xs) (hs : ∀ k, k < w.heap.size → S k → T k) : Row e sz T w v n xs :=
  ⟨h.1, fun k hk => hs k (h.lt k hk) (h.2 k hk)⟩
theorem Row.own {e sz : Nat} {S : Nat → Prop} {w : World} {v : Value} {n : Nat} {xs : List Value} (h : Row e sz S w v n xs) : Row e sz (fun k => v.ownBlock = some k ∧ S k ∧ k < w.heap.size) w v n xs :=
  ⟨h.1, fun k hk => ⟨hk, h.2 k hk, h.lt k hk⟩⟩
theorem Row.chg {e sz : Nat} {S T : Nat → Prop} {w w' : World} {v : Value} {n : Nat} {xs : List Value} (h : Row e sz S w v n xs) (g : Chg T w w') (hd : ∀ k, k < w.heap.size → S k → ¬ T k) : Row e sz S w' v n xs := by
  refine ⟨⟨h.1.1, ?_⟩, h.2⟩
  rcases h.1.2 with hn | ⟨b, cap, cur, rfl, hb, hh, rest⟩
  · exact .inl hn
  · have hlt := (Array.getElem?_eq_some_iff.1 hh).1
    exact .inr ⟨b, cap, cur, rfl, hb, g.heap hh (hd b hlt (h.2 b rfl)), rest⟩
theorem Row.new {e sz : Nat} {S : Nat → Prop} {w w' : World} {v : Value} {n : Nat} {xs : List Value} (h : Row e sz S w v n xs) (g : New w w') : Row e sz S w' v n xs := h.chg g fun _ _ _ hf => hf

/-- What a slice type is: its element's type, zero value, cells and bytes. -/
def SliceOf (P : Program) (t e : TypeId) (z : Value) (size bytes : Nat) : Prop :=
  P.underlying t = some (.slice e) ∧ (P.info? e).map (fun i => (i.zero, i.size, i.bytes)) = some (some z, size, bytes) ∧ z.cells.size = size ∧ 0 < size

section
variable {P : Program} {w : World} {ops : Array Oper} {rest : List Oper} {o : Oper} {a : Act} {Q : Exit → Act → World → Prop}

/-- What is appended: nothing, or cells that lie at an address. -/
def Src (w : World) (ao : Option Addr) (m c size : Nat) (news : List Value) : Prop :=
  news.length = m * size ∧ (ao = none → m = 0 ∧ c = 0) ∧ ∀ ad, ao = some ad → ∀ j u, news[j]? = some u → w.cell? (ad.add j) = some u

theorem run_append_src {t ty e : TypeId} {z : Value} {size bytes : Nat} (T : SliceOf P t e z size bytes)
    {S : Nat → Prop} {v : Value} {n : Nat} {xs : List Value} (hrow : Row e size S w v n xs) {ao : Option Addr} {m c : Nat} {news : List Value} (hsrc : Src w ao m c size news) (h1 : ∀ u ∈ news, u.oneCell' = true)
    (h63 : n + m ≤ maxLen) (hbytes : (n + m) * bytes ≤ 140737488355328) :
    ∃ v' w', (Builtin.append_ #[t, t] ty #[v, .slice ao m c]).run P w = .ok v' w' ∧ Row e size (fun k => v.ownBlock = some k ∨ k = w.heap.size) w' v' (n + m) (xs ++ news) ∧ Chg (fun k => v.ownBlock = some k) w w' ∧ (v'.ownBlock = none → v.ownBlock = none ∧ m = 0) := by
  obtain ⟨t1, t2, t3, t4⟩ := T
  obtain ⟨i, hi, hz0, hz1, hz2⟩ := info_parts t2
  obtain ⟨s1, s2, s3⟩ := hsrc
  cases ao with
  | none =>
    obtain ⟨rfl, rfl⟩ := s2 rfl
    obtain rfl : news = [] := List.eq_nil_of_length_eq_zero (by simpa using s1)
    refine ⟨v, w, run_append_owned_none w 0 t ty e i size t1 hi v n xs hrow.1, ?_, Chg.refl _ _, fun h => ⟨h, rfl⟩⟩
    simp only [Nat.add_zero, List.append_nil]
    exact ⟨hrow.1, fun k hk => .inl hk⟩
  | some ad =>
    obtain ⟨v', w', hr, h2, h3, h4, h5⟩ := run_append_own_at (P := P) w 0 t ty e i z size bytes t1 hi hz0 hz1 hz2 t3 t4 v n xs hrow.1 ad m c news s1 (s3 ad rfl) h1 h63 hbytes (Nat.zero_le _)
    refine ⟨v', w', hr, ⟨h2, fun k hk => ?_⟩, (Chg.refl _ w).grown h3 fun k e _ => e, ?_⟩
    · rcases h5 with e | e
      · exact .inl (e ▸ hk)
      · rw [e] at hk; exact .inr (Option.some.inj hk).symm
    · intro hn
      rcases h2.2 with ⟨rfl, h0⟩ | ⟨g, cap, cur, rfl, _⟩
      · obtain ⟨e1, e2⟩ := h4.1 rfl
        exact ⟨by rw [e1]; rfl, e2⟩
      · simp [Value.ownBlock] at hn

/-- 'append' onto the call's own row, at one operation. -/
theorem wpOp_append {t e : TypeId} {z : Value} {size bytes : Nat} (T : SliceOf P t e z size bytes) (s x : Operand)
    (ho : o.op = .call { callee := .builtin .append, args := #[s, x], argTypes := #[t, t] })
    {S : Nat → Prop} (v : Value) (n : Nat) (xs : List Value) (hs : a.eval s = v) (hrow : Row e size S w v n xs)
    (ao : Option Addr) (m c : Nat) (news : List Value) (hx : a.eval x = .slice ao m c) (hsrc : Src w ao m c size news) (h1 : ∀ u ∈ news, u.oneCell' = true)
    (h63 : n + m ≤ maxLen) (hbytes : (n + m) * bytes ≤ 140737488355328) {K : Act → World → Prop}
    (h : ∀ v' w', Row e size (fun k => v.ownBlock = some k ∨ k = w.heap.size) w' v' (n + m) (xs ++ news) → Chg (fun k => v.ownBlock = some k) w w' → K (a.put o.dst v') w') :
    o.wp P a w K Q := by
  obtain ⟨v', w', hr, h2, h3, -⟩ := run_append_src (P := P) (w := w) (ty := o.type) T hrow hsrc h1 h63 hbytes
  unfold Oper.wp execOp
  simp only [ho, resolve, invoke, builtin, Sem.run_bind, Sem.run_pure, Result.andThen_ok, List.map_toArray, List.map_cons, List.map_nil, hs, hx, hr]
  exact h v' w' h2 h3

/-- .. in a plain region. -/
theorem wpRow_append {t e : TypeId} {z : Value} {size bytes : Nat} (T : SliceOf P t e z size bytes) (s x : Operand) (hgd : o.guard = none)
    (ho : o.op = .call { callee := .builtin .append, args := #[s, x], argTypes := #[t, t] })
    {S : Nat → Prop} (v : Value) (n : Nat) (xs : List Value) (hs : a.eval s = v) (hrow : Row e size S w v n xs)
    (ao : Option Addr) (m c : Nat) (news : List Value) (hx : a.eval x = .slice ao m c) (hsrc : Src w ao m c size news) (h1 : ∀ u ∈ news, u.oneCell' = true)
    (h63 : n + m ≤ maxLen) (hbytes : (n + m) * bytes ≤ 140737488355328)
    (h : ∀ v' w', Row e size (fun k => v.ownBlock = some k ∨ k = w.heap.size) w' v' (n + m) (xs ++ news) → Chg (fun k => v.ownBlock = some k) w w' → wpList P ops Q rest (a.put o.dst v') w') :
    wpList P ops Q (o :: rest) a w :=
  wpList_plain hgd fun _ hK => wpOp_append T s x ho v n xs hs hrow ao m c news hx hsrc h1 h63 hbytes fun v' w' h2 h3 => hK _ _ (h v' w' h2 h3)

/-- .. as a step of a region that draws its order. -/
theorem stepRow_append {t e : TypeId} {z : Value} {size bytes : Nat} (T : SliceOf P t e z size bytes) (s x : Operand) (hgd : o.guard = none)
    (ho : o.op = .call { callee := .builtin .append, args := #[s, x], argTypes := #[t, t] })
    {S : Nat → Prop} (v : Value) (n : Nat) (xs : List Value) (hs : a.eval s = v) (hrow : Row e size S w v n xs)
    (ao : Option Addr) (m c : Nat) (news : List Value) (hx : a.eval x = .slice ao m c) (hsrc : Src w ao m c size news) (h1 : ∀ u ∈ news, u.oneCell' = true)
    (h63 : n + m ≤ maxLen) (hbytes : (n + m) * bytes ≤ 140737488355328) {K : Act → World → Prop} {E : Prop}
    (h : ∀ v' w', Row e size (fun k => v.ownBlock = some k ∨ k = w.heap.size) w' v' (n + m) (xs ++ news) → Chg (fun k => v.ownBlock = some k) w w' → K (a.put o.dst v') w') :
    if Region.wanted o (yielded ops a.tmps) = true then Oper.wp P o a w K Q else E := by
  have hw : Region.wanted o (yielded ops a.tmps) = true := by simp [Region.wanted, hgd]
  rw [if_pos hw]
  exact wpOp_append T s x ho v n xs hs hrow ao m c news hx hsrc h1 h63 hbytes h

/-- 'make([]T, n)'. -/
theorem wpRow_make {t e : TypeId} {z : Value} {size bytes : Nat} (T : SliceOf P t e z size bytes) (l c : Operand) (hg : o.guard = none) (hop : o.op = Op.makeSlice t l c)
    (kl kc : IntKind) (n : Nat) (hl : a.eval l = .int kl n) (hc : a.eval c = .int kc n) (b2 : bytes * n ≤ 281474976710656) (b3 : n ≤ maxLen)
    (hK : ∀ w', Row e size (fun k => k = w.heap.size) w' (.slice (some ⟨w.heap.size, 0, none⟩) n n) n (madeCells z.cells (n * size)).toList → New w w' → w.heap.size < w'.heap.size → wpList P ops Q rest (a.put o.dst (.slice (some ⟨w.heap.size, 0, none⟩) n n)) w') :
    wpList P ops Q (o :: rest) a w := by
  obtain ⟨t1, t2, t3, t4⟩ := T
  obtain ⟨i, hi, hz0, hz1, hz2⟩ := info_parts t2
  refine wpList_make_full w hg l c t hop 0 e i z size t1 hi hz0 hz1 kl kc n n n hl hc rfl rfl (by rw [hz2]; exact b2) b3 (Nat.zero_le _) ?_
  intro w' hown hgr
  refine hK w' ⟨hown, fun k hk => by simp [Value.ownBlock] at hk; exact hk.symm⟩ ((New.refl w).grown hgr (by simp)) ?_
  have := (hown.lt w.heap.size rfl).2
  exact this
end

/-- Its cells, one by one. -/
theorem Row.cellAt {e sz : Nat} {S : Nat → Prop} {w : World} {g n cap : Nat} {xs : List Value} (h : Row e sz S w (.slice (some ⟨g, 0, none⟩) n cap) n xs) {i : Nat} {u : Value} (hu : xs[i]? = some u) : w.cell? ⟨g, i, none⟩ = some u := by
  obtain ⟨⟨h1, h2⟩, _⟩ := h
  rcases h2 with ⟨hv, _⟩ | ⟨g', cap', cur, hv, _, hh, _, _, hs, ht⟩
  · simp at hv
  · simp only [Value.slice.injEq, Option.some.injEq, Addr.mk.injEq] at hv
    obtain ⟨⟨rfl, _, _⟩, _, rfl⟩ := hv
    rw [← ht, List.getElem?_take] at hu
    split at hu
    · simpa [World.cell?, hh] using hu
    · simp at hu
theorem Row.frozenAt {e sz : Nat} {S : Nat → Prop} {w : World} {g n cap : Nat} {xs : List Value} (h : Row e sz S w (.slice (some ⟨g, 0, none⟩) n cap) n xs) (i : Nat) : w.frozen? ⟨g, i, none⟩ = false := by
  obtain ⟨⟨h1, h2⟩, _⟩ := h
  rcases h2 with ⟨hv, _⟩ | ⟨g', cap', cur, hv, _, hh, _, _, hs, ht⟩
  · simp at hv
  · simp only [Value.slice.injEq, Option.some.injEq, Addr.mk.injEq] at hv
    obtain ⟨⟨rfl, _, _⟩, _, rfl⟩ := hv
    simp [World.frozen?, hh]
/-- A store into the row. -/
theorem Row.set {e sz : Nat} {S : Nat → Prop} {w : World} {g n cap : Nat} {xs : List Value} (h : Row e sz S w (.slice (some ⟨g, 0, none⟩) n cap) n xs) (i : Nat) (u : Value) :
    Row e sz S (w.setCell ⟨g, i, none⟩ u) (.slice (some ⟨g, 0, none⟩) n cap) n (xs.set i u) := by
  obtain ⟨⟨h1, h2⟩, hS⟩ := h
  rcases h2 with ⟨hv, _⟩ | ⟨g', cap', cur, hv, hb, hh, hn, hm, hs, ht⟩
  · simp at hv
  · simp only [Value.slice.injEq, Option.some.injEq, Addr.mk.injEq] at hv
    obtain ⟨⟨rfl, _, _⟩, _, rfl⟩ := hv
    refine ⟨⟨by simpa using h1, .inr ⟨g, cap, cur.setIfInBounds i u, rfl, Nat.zero_le _, ?_, hn, hm, by simpa using hs, ?_⟩⟩, hS⟩
    · simp [World.setCell, Array.getElem?_modify, hh]
    · rw [Array.toList_setIfInBounds, ← ht, List.take_set]
theorem Row.head {e sz : Nat} {S : Nat → Prop} {w : World} {v : Value} {n : Nat} {xs : List Value} (h : Row e sz S w v n xs) (hn : 0 < n) : ∃ g cap, v = .slice (some ⟨g, 0, none⟩) n cap ∧ S g ∧ g < w.heap.size ∧ n ≤ cap ∧ cap ≤ maxLen := by
  have hlt := h.lt
  obtain ⟨⟨h1, h2⟩, hS⟩ := h
  rcases h2 with ⟨_, rfl⟩ | ⟨g, cap, cur, rfl, _, _, h4, h5, _⟩
  · omega
  · exact ⟨g, cap, rfl, hS g rfl, hlt g rfl, h4, h5⟩
theorem Row.shape {e sz : Nat} {S : Nat → Prop} {w : World} {v : Value} {n : Nat} {xs : List Value} (h : Row e sz S w v n xs) : ∃ a cap, v = .slice a n cap ∧ n ≤ cap ∧ cap ≤ maxLen ∧ xs.length = n * sz ∧ (a = none → cap = 0) := by
  obtain ⟨⟨h1, h2⟩, hS⟩ := h
  rcases h2 with ⟨rfl, rfl⟩ | ⟨g, cap, cur, rfl, _, _, h4, h5, _⟩
  · exact ⟨none, 0, rfl, Nat.le_refl _, Nat.zero_le _, h1, fun _ => rfl⟩
  · exact ⟨_, cap, rfl, h4, h5, h1, by simp⟩

theorem Row.empty (e sz : Nat) (w : World) : Row e sz (fun k => k = w.heap.size) (w.alloc (.cells #[] e)) (.slice (some ⟨w.heap.size, 0, none⟩) 0 0) 0 [] :=
  ⟨World.ownsRow_made w #[] 0 (Nat.zero_le _) (Nat.zero_le _) (by simp), fun k hk => by simp [Value.ownBlock] at hk; exact hk.symm⟩

theorem Row.cases {e sz : Nat} {S : Nat → Prop} {w : World} {v : Value} {n : Nat} {xs : List Value} (h : Row e sz S w v n xs) : (v = .slice none 0 0 ∧ n = 0) ∨ ∃ g cap, v = .slice (.some ⟨g, 0, none⟩) n cap ∧ S g ∧ g < w.heap.size ∧ n ≤ cap ∧ cap ≤ maxLen := by
  have hlt := h.lt
  obtain ⟨⟨h1, h2⟩, hS⟩ := h
  rcases h2 with h2 | ⟨g, cap, cur, rfl, _, _, h4, h5, _⟩
  · exact .inl h2
  · exact .inr ⟨g, cap, rfl, hS g rfl, hlt g rfl, h4, h5⟩

/-- A row of numbers of the call's own. -/
def OwnNums (k : IntKind) (e : TypeId) (S : Nat → Prop) (w : World) (v : Value) (xs : List Int) : Prop := Row e 1 S w v xs.length (xs.map (Value.int k)) ∧ ∀ x ∈ xs, Fits k x
abbrev OwnInts (e : TypeId) (S : Nat → Prop) (w : World) (v : Value) (xs : List Int) : Prop := OwnNums .i64 e S w v xs

theorem OwnNums.nums {k : IntKind} {e : TypeId} {S : Nat → Prop} {w : World} {v : Value} {xs : List Int} (h : OwnNums k e S w v xs) : Nums k S w v xs := by
  obtain ⟨h, hx⟩ := h
  by_cases h0 : 0 < xs.length
  · obtain ⟨g, cap, rfl, hS, hlt, h1, h2⟩ := h.head h0
    refine ⟨_, cap, rfl, h1, ⟨h2, by simp⟩, hx, .inr ⟨g, 0, rfl, hS, hlt, fun i x hxi => ?_⟩⟩
    rw [Nat.zero_add]
    exact h.cellAt (by simp [hxi])
  · obtain rfl : xs = [] := List.eq_nil_of_length_eq_zero (by omega)
    obtain ⟨a, cap, rfl, h1, h2, _, h5⟩ := h.shape
    exact ⟨a, cap, rfl, h1, ⟨h2, h5⟩, hx, .inl rfl⟩
theorem OwnNums.chg {k : IntKind} {e : TypeId} {S T : Nat → Prop} {w w' : World} {v : Value} {xs : List Int} (h : OwnNums k e S w v xs) (g : Chg T w w') (hd : ∀ k, k < w.heap.size → S k → ¬ T k) : OwnNums k e S w' v xs := ⟨h.1.chg g hd, h.2⟩
theorem OwnNums.new {k : IntKind} {e : TypeId} {S : Nat → Prop} {w w' : World} {v : Value} {xs : List Int} (h : OwnNums k e S w v xs) (g : New w w') : OwnNums k e S w' v xs := ⟨h.1.new g, h.2⟩
theorem OwnNums.mono {k : IntKind} {e : TypeId} {S T : Nat → Prop} {w : World} {v : Value} {xs : List Int} (h : OwnNums k e S w v xs) (hs : ∀ k, k < w.heap.size → S k → T k) : OwnNums k e T w v xs := ⟨h.1.mono hs, h.2⟩
theorem OwnNums.mono' {k : IntKind} {e : TypeId} {S T : Nat → Prop} {w : World} {v : Value} {xs : List Int} (h : OwnNums k e S w v xs) (hs : ∀ j, v.ownBlock = some j → T j) : OwnNums k e T w v xs := ⟨⟨h.1.1, hs⟩, h.2⟩
theorem OwnNums.old {k : IntKind} {e : TypeId} {S : Nat → Prop} {w : World} {v : Value} {xs : List Int} (h : OwnNums k e S w v xs) : OwnNums k e (fun j => S j ∧ j < w.heap.size) w v xs := h.mono fun _ hk hs => ⟨hs, hk⟩
theorem OwnNums.nil (k : IntKind) (e : TypeId) (S : Nat → Prop) (w : World) : OwnNums k e S w (.slice none 0 0) [] := ⟨Row.nil _ _ _ _, by simp⟩

theorem OwnNums.empty (k : IntKind) (e : TypeId) (w : World) : OwnNums k e (fun k => k = w.heap.size) (w.alloc (.cells #[] e)) (.slice (some ⟨w.heap.size, 0, none⟩) 0 0) [] := ⟨Row.empty _ _ _, by simp⟩
theorem OwnNums.shape {k : IntKind} {e : TypeId} {S : Nat → Prop} {w : World} {v : Value} {xs : List Int} (h : OwnNums k e S w v xs) : ∃ a cap, v = .slice a xs.length cap ∧ xs.length ≤ cap ∧ cap ≤ maxLen := by
  obtain ⟨a, cap, e, h1, h2, _⟩ := h.1.shape; exact ⟨a, cap, e, h1, h2⟩
theorem OwnNums.lt {k : IntKind} {e : TypeId} {S : Nat → Prop} {w : World} {v : Value} {xs : List Int} (h : OwnNums k e S w v xs) : ∀ j, v.ownBlock = some j → j < w.heap.size ∧ S j := fun j hj => ⟨h.1.lt j hj, h.1.2 j hj⟩

/-- 'append(v, x)' onto the call's own row of numbers: x lies in the newest block. -/
theorem wpNums_append {P : Program} {w : World} {ops : Array Oper} {rest : List Oper} {o : Oper} {a : Act} {Q : Exit → Act → World → Prop}
    {k : IntKind} {t e : TypeId} {z : Value} {bytes : Nat} (T : SliceOf P t e z 1 bytes) (s x : Operand) (hgd : o.guard = none)
    (ho : o.op = .call { callee := .builtin .append, args := #[s, x], argTypes := #[t, t] })
    {S : Nat → Prop} (v : Value) (xs : List Int) (y : Int) (te : TypeId) (hs : a.eval s = v) (hrow : OwnNums k e S w v xs) (hy : Fits k y)
    (hx : a.eval x = .slice (some ⟨w.heap.size, 0, none⟩) 1 1) (h63 : (xs.length + 1) * bytes ≤ 140737488355328) (hb : 0 < bytes)
    (h : ∀ v' w', OwnNums k e (fun k => v.ownBlock = some k ∨ w.heap.size < k) w' v' (xs ++ [y]) → Chg (fun k => v.ownBlock = some k) w w' → wpList P ops Q rest (a.put o.dst v') w') :
    wpList P ops Q (o :: rest) a (w.alloc (.cells #[.int k y] te)) := by
  have hn : New w (w.alloc (.cells #[.int k y] te)) := (New.refl w).alloc _
  have hle : xs.length + 1 ≤ 140737488355328 := Nat.le_trans (Nat.le_mul_of_pos_right _ hb) h63
  refine wpRow_append T s x hgd ho v xs.length _ hs (hrow.1.new hn) (.some ⟨w.heap.size, 0, none⟩) 1 1 [.int k y] hx ⟨rfl, by simp, fun ad e => by cases e; exact cell_one_new _ _ _⟩ (by simp [Value.oneCell']) (by unfold maxLen; omega) h63 ?_
  intro v' w' hr hc
  refine h v' w' ⟨?_, ?_⟩ ?_
  · have e1 : (xs ++ [y]).map (Value.int k) = xs.map (Value.int k) ++ [.int k y] := by simp
    rw [e1, List.length_append]
    refine hr.mono fun j hj hh => ?_
    rcases hh with hh | hh
    · exact .inl hh
    · refine .inr ?_
      simp at hh; omega
  · intro z hz
    simp only [List.mem_append, List.mem_singleton] at hz
    rcases hz with hz | rfl
    · exact hrow.2 z hz
    · exact hy
  · exact ⟨hc.os.trans hn.os, hc.tape.trans hn.tape, hc.output.trans hn.output, Nat.le_trans hn.size hc.size, fun j hj hv => (hc.block j (Nat.lt_of_lt_of_le hj hn.size) hv).trans (hn.block j hj (fun h => h))⟩

theorem oneCells (k : IntKind) (xs : List Int) : ∀ u ∈ xs.map (Value.int k), u.oneCell' = true := by
  intro u hu
  obtain ⟨_, _, rfl⟩ := List.mem_map.1 hu
  rfl
theorem addr_add (b off i : Nat) : (⟨b, off, none⟩ : Addr).add i = ⟨b, off + i, none⟩ := Addr.add_lit _ _ _
/-- A slice that reads as numbers, as what is appended. -/
theorem Nums.src {k : IntKind} {S : Nat → Prop} {w : World} {ao : Option Addr} {m c : Nat} {xs : List Int} (h : Nums k S w (.slice ao m c) xs) : Src w ao m c 1 (xs.map (Value.int k)) := by
  obtain ⟨a, c', e, h1, ⟨h2, h2'⟩, h3, h4⟩ := h
  simp only [Value.slice.injEq] at e
  obtain ⟨rfl, rfl, rfl⟩ := e
  refine ⟨by simp, fun e => ?_, fun ad had j u hu => ?_⟩
  · have := h2' e
    omega
  · rcases h4 with rfl | ⟨b, off, rfl, _, _, hc⟩
    · simp at hu
    · cases had
      rw [addr_add]
      simp only [List.getElem?_map, Option.map_eq_some_iff] at hu
      obtain ⟨x, hx, rfl⟩ := hu
      exact hc j x hx
theorem Nums.take {k : IntKind} {S : Nat → Prop} {w : World} {a : Option Addr} {n c : Nat} {xs : List Int} (h : Nums k S w (.slice a n c) xs) (m : Nat) (hm : m ≤ n) : Nums k S w (.slice a m c) (xs.take m) := by
  obtain ⟨a', c', e, h1, h2, h3, h4⟩ := h
  simp only [Value.slice.injEq] at e
  obtain ⟨rfl, rfl, rfl⟩ := e
  have hl : (xs.take m).length = m := by simp; omega
  refine ⟨a, c, by rw [hl], by omega, h2, fun x hx => h3 x (List.mem_of_mem_take hx), ?_⟩
  rcases h4 with rfl | ⟨b, off, rfl, hs, hb, hc⟩
  · exact .inl (by simp)
  · refine .inr ⟨b, off, rfl, hs, hb, fun i x hx => hc i x ?_⟩
    rw [List.getElem?_take] at hx
    split at hx
    · exact hx
    · simp at hx
theorem Nums.drop {k : IntKind} {S : Nat → Prop} {w : World} {b off : Nat} {n c : Nat} {xs : List Int} (h : Nums k S w (.slice (.some ⟨b, off, none⟩) n c) xs) (m : Nat) (hm : m ≤ n) :
    Nums k S w (.slice (if c = m then .some ⟨b, off, none⟩ else .some ⟨b, off + m, none⟩) (n - m) (c - m)) (xs.drop m) := by
  obtain ⟨a', c', e, h1, ⟨h2, h2'⟩, h3, h4⟩ := h
  simp only [Value.slice.injEq] at e
  obtain ⟨rfl, rfl, rfl⟩ := e
  have hl : (xs.drop m).length = xs.length - m := by simp
  refine ⟨_, c - m, by rw [hl], by omega, ⟨by omega, by split <;> simp⟩, fun x hx => h3 x (List.mem_of_mem_drop hx), ?_⟩
  by_cases hmn : m = xs.length
  · left; subst hmn; simp
  · rw [if_neg (by omega)]
    rcases h4 with rfl | ⟨b', off', e, hs, hb, hc⟩
    · left; simp
    · simp only [Option.some.injEq, Addr.mk.injEq] at e
      obtain ⟨rfl, rfl, _⟩ := e
      refine .inr ⟨b, off + m, rfl, hs, hb, fun i x hx => ?_⟩
      rw [List.getElem?_drop] at hx
      rw [Nat.add_assoc]
      exact hc (m + i) x hx

/-- What append makes of numbers. -/
theorem OwnNums.of_append {k : IntKind} {e : TypeId} {S : Nat → Prop} {w : World} {v : Value} {n : Nat} {xs ys : List Int} (h : Row e 1 S w v n (xs.map (Value.int k) ++ ys.map (Value.int k))) (hx : ∀ x ∈ xs, Fits k x) (hy : ∀ x ∈ ys, Fits k x) : OwnNums k e S w v (xs ++ ys) := by
  have hn : n = (xs ++ ys).length := by have := h.1.1; simp at this; simp; omega
  subst hn
  refine ⟨by rw [List.map_append]; exact h, fun x hx' => ?_⟩
  rcases List.mem_append.1 hx' with h | h
  · exact hx x h
  · exact hy x h

/-- Some draws, nothing else. -/
def Drew (w w' : World) : Prop := ∃ n, w' = w.drewN n
theorem Drew.refl (w : World) : Drew w w := ⟨0, rfl⟩
theorem Drew.trans {w w1 w2 : World} (h : Drew w w1) (g : Drew w1 w2) : Drew w w2 := by
  obtain ⟨n, rfl⟩ := h; obtain ⟨m, rfl⟩ := g; exact ⟨n + m, by simp⟩
theorem Drew.drewN {w w1 : World} (h : Drew w w1) (n : Nat) : Drew w (w1.drewN n) := h.trans ⟨n, rfl⟩
theorem Drew.drew {w w1 : World} (h : Drew w w1) : Drew w w1.drew := h.trans ⟨1, rfl⟩
theorem Drew.new {w w' : World} (h : Drew w w') : New w w' := New.of_drewN h
theorem Drew.heap {w w' : World} (h : Drew w w') : w'.heap = w.heap := by obtain ⟨n, rfl⟩ := h; rfl
theorem Drew.cell {w w' : World} (h : Drew w w') (a : Addr) : w'.cell? a = w.cell? a := by obtain ⟨n, rfl⟩ := h; rfl
theorem Drew.frozen {w w' : World} (h : Drew w w') (a : Addr) : w'.frozen? a = w.frozen? a := by obtain ⟨n, rfl⟩ := h; rfl

theorem quiet_of_drew {P : Program} {f : FuncId} {args : Array Value} {w : World} {n : Nat} {v : Value}
    (h : Calls P f args (w.drewN n) fun e w' => e = .returned v ∧ Drew (w.drewN n) w') : Calls P f args (w.drewN n) fun e w'' => e = .returned v ∧ ∃ m, w'' = w.drewN m :=
  Calls.quiet_of h
theorem quiet_of_eq {P : Program} {f : FuncId} {args : Array Value} {w : World} {n : Nat} {v : Value}
    (h : Calls P f args (w.drewN n) fun e w' => e = .returned v ∧ w.drewN n = w') : Calls P f args (w.drewN n) fun e w'' => e = .returned v ∧ ∃ m, w'' = w.drewN m :=
  h.mono fun _ _ ⟨he, hm⟩ => ⟨he, n, hm.symm⟩

theorem ret_bool {a b : Bool} (h : a = b) : Ending.returned (.bool a) = .returned (.bool b) := by rw [h]
theorem ret_int {k : IntKind} {a b : Int} (h : a = b) : Ending.returned (.int k a) = .returned (.int k b) := by rw [h]

theorem drop_of {α : Type} {xs : List α} {k : Nat} {x : α} (h : xs[k]? = some x) : xs.drop k = x :: xs.drop (k + 1) := by
  obtain ⟨hk, rfl⟩ := List.getElem?_eq_some_iff.1 h
  exact List.drop_eq_getElem_cons hk
theorem get_of {α : Type} {xs : List α} {k : Nat} (h : k < xs.length) : ∃ x, xs[k]? = some x := ⟨xs[k], List.getElem?_eq_getElem h⟩
theorem drop_end {α : Type} {xs : List α} {k : Nat} (h : ¬ k < xs.length) : xs.drop k = [] := List.drop_eq_nil_of_le (by omega)

end Go.Proofs.YtkffejommncinaaDoor
