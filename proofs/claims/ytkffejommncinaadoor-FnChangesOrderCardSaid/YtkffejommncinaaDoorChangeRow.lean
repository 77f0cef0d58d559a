/- Lists of changes that grow; steps of the plain law. -/
import Derived.Test.YtkffejommncinaaDoorChangeKit
import Derived.Test.YtkffejommncinaaDoorItemsA
namespace Go.Proofs.YtkffejommncinaaDoor
open Go.RowKit

theorem slChange : SliceOf Tryd.prog 53 58 (.agg #[.int .i64 0, .string ByteArray.empty, .bool false, .slice none 0 0]) 4 56 := by refine ⟨by kernel_rfl, by kernel_rfl, rfl, by decide⟩
theorem chFlds_append (a b : List ChR) : chFlds (a ++ b) = chFlds a ++ chFlds b := by simp [chFlds]

/-- a list of changes of the call's own; where their numbers lie is not its own block -/
def ChList (lo : Nat) (w : World) (v : Value) (D : List ChR) : Prop :=
  ∃ us, Row 58 4 (fun j => lo ≤ j) w v D.length us ∧ Reads (fun j => v.ownBlock ≠ some j) w us (chFlds D)
theorem reads_push {w8 w9 : World} {v v' : Value} {us ts : List Value} {fs gs : List Fld} (r : Reads (fun j => v.ownBlock ≠ some j) w8 us fs) (g : Reads (fun j => v.ownBlock ≠ some j) w8 ts gs)
    (c : Chg (fun j => v.ownBlock = some j) w8 w9) (hq : ∀ j, v'.ownBlock = some j → v.ownBlock = some j ∨ w8.heap.size ≤ j) : Reads (fun j => v'.ownBlock ≠ some j) w9 (us ++ ts) (fs ++ gs) :=
  (((r.append g).mono (T := fun j => v.ownBlock ≠ some j ∧ j < w8.heap.size) (fun j hj h => ⟨h, hj⟩)).chg c (fun j _ hj e => hj.1 e)).mono (fun j _ hj e => by
    rcases hq j e with h | h
    · exact hj.1 h
    · omega)
theorem ch_reads {T : Nat → Prop} {w : World} {c : ChR} {u : Value} (hk : I64 c.kind) (hl : c.item.path.length ≤ maxLen) (hu : Ints T w u c.item.ids) : Reads T w [.int .i64 c.kind, txt c.item.path, .bool c.item.dir, u] c.flds := by
  refine ⟨rfl, fun i x f hx hf => ?_⟩
  match i, hx, hf with
  | 0, hx, hf => cases hx; cases hf; exact ⟨rfl, hk⟩
  | 1, hx, hf => cases hx; cases hf; exact ⟨rfl, hl⟩
  | 2, hx, hf => cases hx; cases hf; exact rfl
  | 3, hx, hf => cases hx; cases hf; exact hu
  | _ + 4, hx, _ => simp at hx
theorem ChList.new {lo : Nat} {w w' : World} {v : Value} {D : List ChR} (h : ChList lo w v D) (n : New w w') : ChList lo w' v D := by
  obtain ⟨us, r, f⟩ := h
  exact ⟨us, r.new n, f.new n⟩
theorem ChList.chs {lo : Nat} {w : World} {v : Value} {D : List ChR} (h : ChList lo w v D) : Chs Any w v D := by
  obtain ⟨us, r, f⟩ := h
  exact (f.recs r).mono (fun _ _ _ => trivial)
theorem ChList.shape {lo : Nat} {w : World} {v : Value} {D : List ChR} (h : ChList lo w v D) : ∃ a c, v = .slice a D.length c := by
  obtain ⟨us, r, f⟩ := h
  obtain ⟨a, c, e, -⟩ := r.shape
  exact ⟨a, c, e⟩
/-- one more change -/
theorem ch_one {lo : Nat} {w8 w9 : World} {v v' : Value} {D : List ChR} {c : ChR} {u : Value} {us : List Value} (r1 : Row 58 4 (fun j => lo ≤ j) w8 v D.length us) (f1 : Reads (fun j => v.ownBlock ≠ some j) w8 us (chFlds D))
    (hk : I64 c.kind) (hl : c.item.path.length ≤ maxLen) (hu : Ints (fun j => v.ownBlock ≠ some j) w8 u c.item.ids)
    (q9 : Row 58 4 (fun j => v.ownBlock = some j ∨ w8.heap.size < j) w9 v' (D.length + 1) (us ++ [.int .i64 c.kind, txt c.item.path, .bool c.item.dir, u])) (c9 : Chg (fun j => v.ownBlock = some j) w8 w9) (hB : lo ≤ w8.heap.size) :
    ChList lo w9 v' (D ++ [c]) := by
  refine ⟨us ++ [.int .i64 c.kind, txt c.item.path, .bool c.item.dir, u], ?_, ?_⟩
  · rw [List.length_append, List.length_singleton]
    exact q9.mono fun j _ hj => by
      rcases hj with hj | hj
      · exact r1.2 j hj
      · omega
  · have e : chFlds (D ++ [c]) = chFlds D ++ c.flds := by rw [chFlds_append]; simp [chFlds]
    rw [e]
    exact reads_push f1 (ch_reads hk hl hu) c9 fun j e => by
      rcases q9.2 j e with h | h
      · exact .inl h
      · exact .inr (by omega)
theorem stepRow_appendMany {P : Program} {w : World} {ops : Array Oper} {o : Oper} {a : Act} {Q : Exit → Act → World → Prop} {K : Act → World → Prop} {E : Prop}
    {t e : TypeId} {z : Value} {sz bytes : Nat} (T : SliceOf P t e z sz bytes) (s x : Operand) (hgd : o.guard = none)
    (ho : o.op = .call { callee := .builtin .append, args := #[s, x], argTypes := #[t, t] })
    {S : Nat → Prop} (v : Value) (n m : Nat) (xs us : List Value) (te : TypeId) (hs : a.eval s = v) (hrow : Row e sz S w v n xs) (hul : us.length = m * sz) (hu : ∀ u ∈ us, u.oneCell' = true)
    (hx : a.eval x = .slice (some ⟨w.heap.size, 0, none⟩) m m) (h63 : (n + m) * bytes ≤ 140737488355328) (hb : 0 < bytes)
    (h : ∀ v' w', Row e sz (fun k => v.ownBlock = some k ∨ w.heap.size < k) w' v' (n + m) (xs ++ us) → Chg (fun k => v.ownBlock = some k) w w' → K (a.put o.dst v') w') :
    if Region.wanted o (yielded ops a.tmps) = true then Oper.wp P o a (w.alloc (.cells us.toArray te)) K Q else E := by
  have hn : New w (w.alloc (.cells us.toArray te)) := (New.refl w).alloc _
  have hle : n + m ≤ 140737488355328 := Nat.le_trans (Nat.le_mul_of_pos_right _ hb) h63
  refine stepRow_append T s x hgd ho v n xs hs (hrow.new hn) (.some ⟨w.heap.size, 0, none⟩) m m us hx ⟨by omega, by simp, fun ad e j u hu => ?_⟩ hu (by unfold maxLen; omega) h63 ?_
  · cases e
    rw [addr_add, Nat.zero_add]
    have hb := heap_alloc_new w (.cells us.toArray te)
    simp only [World.cell?, hb]
    simpa using hu
  intro v' w' hr hc
  refine h v' w' ?_ ?_
  · refine hr.mono fun j hj hh => ?_
    rcases hh with hh | hh
    · exact .inl hh
    · refine .inr ?_
      simp at hh; omega
  · exact ⟨hc.os.trans hn.os, hc.tape.trans hn.tape, hc.output.trans hn.output, Nat.le_trans hn.size hc.size, fun j hj hv => (hc.block j (Nat.lt_of_lt_of_le hj hn.size) hv).trans (hn.block j hj (fun h => h))⟩

/-- two more changes -/
theorem ch_two {lo : Nat} {w8 w9 : World} {v v' : Value} {D : List ChR} {c d : ChR} {u t : Value} {us : List Value} (r1 : Row 58 4 (fun j => lo ≤ j) w8 v D.length us) (f1 : Reads (fun j => v.ownBlock ≠ some j) w8 us (chFlds D))
    (hk : I64 c.kind) (hl : c.item.path.length ≤ maxLen) (hu : Ints (fun j => v.ownBlock ≠ some j) w8 u c.item.ids)
    (hk2 : I64 d.kind) (hl2 : d.item.path.length ≤ maxLen) (hu2 : Ints (fun j => v.ownBlock ≠ some j) w8 t d.item.ids)
    (q9 : Row 58 4 (fun j => v.ownBlock = some j ∨ w8.heap.size < j) w9 v' (D.length + 2) (us ++ [.int .i64 c.kind, txt c.item.path, .bool c.item.dir, u, .int .i64 d.kind, txt d.item.path, .bool d.item.dir, t])) (c9 : Chg (fun j => v.ownBlock = some j) w8 w9) (hB : lo ≤ w8.heap.size) :
    ChList lo w9 v' (D ++ [c, d]) := by
  refine ⟨us ++ [.int .i64 c.kind, txt c.item.path, .bool c.item.dir, u, .int .i64 d.kind, txt d.item.path, .bool d.item.dir, t], ?_, ?_⟩
  · rw [List.length_append]
    exact q9.mono fun j _ hj => by
      rcases hj with hj | hj
      · exact r1.2 j hj
      · omega
  · have e : chFlds (D ++ [c, d]) = chFlds D ++ (c.flds ++ d.flds) := by rw [chFlds_append]; simp [chFlds]
    rw [e]
    exact reads_push f1 ((ch_reads hk hl hu).append (ch_reads hk2 hl2 hu2)) c9 fun j e => by
      rcases q9.2 j e with h | h
      · exact .inl h
      · exact .inr (by omega)

theorem two_done {lo : Nat} {wq wl wa : World} {v va : Value} {D : List ChR} {o p : ItemR} {uc ud : Value} {us : List Value} (n : New wq wl) (hlo : lo ≤ wq.heap.size) (R : Row 58 4 (fun j => lo ≤ j) wq v D.length us) (F : Reads (fun j => v.ownBlock ≠ some j) wq us (chFlds D))
    (ho : o.path.length ≤ maxLen) (hp : p.path.length ≤ maxLen) (qc : Ints (fun j => wq.heap.size ≤ j) wl uc o.ids) (qd : Ints (fun j => wq.heap.size ≤ j) wl ud p.ids)
    (qa : Row 58 4 (fun j => v.ownBlock = some j ∨ wl.heap.size < j) wa va (D.length + 2) (us ++ [.int .i64 2, .string ⟨o.path.toArray⟩, .bool o.dir, uc, .int .i64 1, .string ⟨p.path.toArray⟩, .bool p.dir, ud])) (ca : Chg (fun j => v.ownBlock = some j) wl wa) :
    ChList lo wa va (D ++ [⟨2, o⟩, ⟨1, p⟩]) :=
  ch_two (c := ⟨2, o⟩) (d := ⟨1, p⟩) (R.new n) (F.new n) (I64.mk (x := 2) (by decide) (by decide)) ho (qc.mono fun j _ hj e => by have := R.lt j e; omega) (I64.mk (x := 1) (by decide) (by decide)) hp (qd.mono fun j _ hj e => by have := R.lt j e; omega) qa ca (by have := n.size; omega)

/-! ### the plain law, step by step -/
theorem chgs_gone {os ps : List ItemR} {i k : Nat} {o : ItemR} (ho : os[i]? = some o) (hk : ps.length ≤ k ∨ ∃ p, ps[k]? = some p ∧ sLt o.path p.path = true) : chgs (os.drop i) (ps.drop k) = ⟨2, o⟩ :: chgs (os.drop (i + 1)) (ps.drop k) := by
  rw [drop_of ho]
  rcases hk with hk | ⟨p, hp, hs⟩
  · rw [List.drop_eq_nil_of_le hk, chgs]
  · rw [drop_of hp, chgs, if_pos hs]
theorem chgs_new {os ps : List ItemR} {i k : Nat} {p : ItemR} (hp : ps[k]? = some p) (hi : os.length ≤ i ∨ ∃ o, os[i]? = some o ∧ sLt o.path p.path = false ∧ sLt p.path o.path = true) : chgs (os.drop i) (ps.drop k) = ⟨1, p⟩ :: chgs (os.drop i) (ps.drop (k + 1)) := by
  rw [drop_of hp]
  rcases hi with hi | ⟨o, ho, h1, h2⟩
  · rw [List.drop_eq_nil_of_le hi, chgs]
  · rw [drop_of ho, chgs, if_neg (by rw [h1]; simp), if_pos h2]
theorem chgs_both {os ps : List ItemR} {i k : Nat} {o p : ItemR} (ho : os[i]? = some o) (hp : ps[k]? = some p) (h1 : sLt o.path p.path = false) (h2 : sLt p.path o.path = false) : chgs (os.drop i) (ps.drop k) = diffs o p ++ chgs (os.drop (i + 1)) (ps.drop (k + 1)) := by
  rw [drop_of ho, drop_of hp, chgs, if_neg (by rw [h1]; simp), if_neg (by rw [h2]; simp)]
end Go.Proofs.YtkffejommncinaaDoor
