/- The store's list: its blocks in order, as new memory. -/
import Derived.Test.YtipligidnoajfaaDoorStoreOps
import Derived.Test.YtipligidnoajfaaDoorSortKeys
import Derived.Test.YtipligidnoajfaaDoorRecsRow
namespace Go.Proofs.YtipligidnoajfaaDoor
open Go.RowKit Go.Maps

/-- 'append(v, E{..})' at a step of a region that draws its order. -/
theorem stepRow_appendRec {P : Program} {w : World} {ops : Array Oper} {o : Oper} {a : Act} {Q : Exit → Act → World → Prop} {K : Act → World → Prop} {E : Prop}
    {t e : TypeId} {z : Value} {sz bytes : Nat} (T : SliceOf P t e z sz bytes) (s x : Operand) (hgd : o.guard = none)
    (ho : o.op = .call { callee := .builtin .append, args := #[s, x], argTypes := #[t, t] })
    {S : Nat → Prop} (v : Value) (n : Nat) (xs us : List Value) (te : TypeId) (hs : a.eval s = v) (hrow : Row e sz S w v n xs) (hul : us.length = sz) (hu : ∀ u ∈ us, u.oneCell' = true)
    (hx : a.eval x = .slice (some ⟨w.heap.size, 0, none⟩) 1 1) (h63 : (n + 1) * bytes ≤ 140737488355328) (hb : 0 < bytes)
    (h : ∀ v' w', Row e sz (fun k => v.ownBlock = some k ∨ w.heap.size < k) w' v' (n + 1) (xs ++ us) → Chg (fun k => v.ownBlock = some k) w w' → K (a.put o.dst v') w') :
    if Region.wanted o (yielded ops a.tmps) = true then Oper.wp P o a (w.alloc (.cells us.toArray te)) K Q else E := by
  have hn : New w (w.alloc (.cells us.toArray te)) := (New.refl w).alloc _
  have hle : n + 1 ≤ 140737488355328 := Nat.le_trans (Nat.le_mul_of_pos_right _ hb) h63
  refine stepRow_append T s x hgd ho v n xs hs (hrow.new hn) (.some ⟨w.heap.size, 0, none⟩) 1 1 us hx ⟨by omega, by simp, fun ad e j u hu => ?_⟩ hu (by unfold maxLen; omega) h63 ?_
  · cases e
    rw [addr_add, Nat.zero_add]
    have hb := heap_alloc_new w (.cells us.toArray te)
    simp only [World.cell?, hb]
    simpa using hu
  intro v' w' hr hc
  refine h v' w' ?_ ?_
  · refine hr.mono fun j hj hh => ?_
    rcases hh with hh | hh
    · exact .inl hh
    · refine .inr ?_
      simp at hh; omega
  · exact ⟨hc.os.trans hn.os, hc.tape.trans hn.tape, hc.output.trans hn.output, Nat.le_trans hn.size hc.size, fun j hj hv => (hc.block j (Nat.lt_of_lt_of_le hj hn.size) hv).trans (hn.block j hj (fun h => h))⟩

/-- 'make([]T, 0, n)'. -/
theorem wpRow_makeCap {P : Program} {w : World} {ops : Array Oper} {rest : List Oper} {o : Oper} {a : Act} {Q : Exit → Act → World → Prop}
    {t e : TypeId} {z : Value} {size bytes : Nat} (T : SliceOf P t e z size bytes) (l c : Operand) (hg : o.guard = none) (hop : o.op = Op.makeSlice t l c)
    (kl kc : IntKind) (n : Nat) (hl : a.eval l = .int kl 0) (hc : a.eval c = .int kc n) (b2 : bytes * n ≤ 281474976710656) (b3 : n ≤ maxLen)
    (hK : ∀ w', Row e size (fun k => k = w.heap.size) w' (.slice (some ⟨w.heap.size, 0, none⟩) 0 n) 0 [] → New w w' → wpList P ops Q rest (a.put o.dst (.slice (some ⟨w.heap.size, 0, none⟩) 0 n)) w') :
    wpList P ops Q (o :: rest) a w := by
  obtain ⟨t1, t2, t3, t4⟩ := T
  obtain ⟨i, hi, hz0, hz1, hz2⟩ := info_parts t2
  refine wpList_make_own w hg l c t hop 0 e i z size t1 hi hz0 hz1 kl kc n n hl hc rfl (by rw [hz2]; exact b2) b3 (Nat.zero_le _) ?_
  intro w' hown hgr
  exact hK w' ⟨hown, fun k hk => by simp [Value.ownBlock] at hk; exact hk.symm⟩ ((New.refl w).grown hgr (by simp))

theorem atP_at {ps : List HP} (h : rising ps) {k : Nat} {p : HP} (hp : ps[k]? = some p) : atP p.1.id ps = some p := by
  rcases hq : atP p.1.id ps with _ | q
  · have := List.find?_eq_none.1 hq p (List.mem_of_getElem? hp)
    simp at this
  · obtain ⟨hm, hid⟩ := atP_some hq
    obtain ⟨j, hj, rfl⟩ := List.mem_iff_getElem.1 hm
    obtain ⟨hk, e⟩ := List.getElem?_eq_some_iff.1 hp
    have hr := List.pairwise_iff_getElem.1 h
    rcases Nat.lt_trichotomy j k with hlt | heq | hlt
    · have := hr j k hj hk hlt; rw [e] at this; omega
    · subst heq; rw [e]
    · have := hr k j hk hj hlt; rw [e] at this; omega

theorem Ints.cellAt {S : Nat → Prop} {w : World} {a : Option Addr} {n c : Nat} {xs : List Int} (h : Ints S w (.slice a n c) xs) {i : Nat} {x : Int} (hx : xs[i]? = some x) : ∃ b off, a = some ⟨b, off, none⟩ ∧ w.cell? ⟨b, off + i, none⟩ = some (.int .i64 x) := by
  obtain ⟨a', c', e, -, -, -, h4⟩ := h
  simp only [Value.slice.injEq] at e
  obtain ⟨rfl, -, -⟩ := e
  rcases h4 with rfl | ⟨b, off, rfl, -, -, hc⟩
  · simp at hx
  · exact ⟨b, off, rfl, hc i x hx⟩

def ListPost (ps : List HP) (w : World) (e : Ending) (w' : World) : Prop :=
  ∃ v, e = .returned v ∧ OwnHelds (fun j => w.heap.size ≤ j) w' v (ps.map Prod.fst) ∧ New w w'

end Go.Proofs.YtipligidnoajfaaDoor
