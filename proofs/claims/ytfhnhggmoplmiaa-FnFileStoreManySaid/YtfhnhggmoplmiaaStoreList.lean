/- The store's list: its blocks in order, as new memory. -/
import Derived.Test.YtfhnhggmoplmiaaStoreOps
import Derived.Test.YtfhnhggmoplmiaaSortKeys
import Derived.Test.YtfhnhggmoplmiaaRecsRow
namespace Go.Proofs.Ytfhnhggmoplmiaa
open Go.RowKit Go.Maps

/-- 'append(v, E{..})' at a step of a region that draws its order. -/
theorem stepRow_appendRec {P : Program} {w : World} {ops : Array Oper} {o : Oper} {a : Act} {Q : Exit → Act → World → Prop} {K : Act → World → Prop} {E : Prop}
    {t e : TypeId} {z : Value} {sz bytes : Nat} (T : SliceOf P t e z sz bytes) (s x : Operand) (hgd : o.guard = none)
    (ho : o.op = .call { callee := .builtin .append, args := #[s, x], argTypes := #[t, t] })
    {S : Nat → Prop} (v : Value) (n : Nat) (xs us : List Value) (te : TypeId) (hs : a.eval s = v) (hrow : Row e sz S w v n xs) (hul : us.length = sz) (hu : ∀ u ∈ us, u.oneCell' = true)
    (hx : a.eval x = .slice (some ⟨w.heap.size, 0, none⟩) 1 1) (h63 : (n + 1) * bytes ≤ 140737488355328) (hb : 0 < bytes)
    (h : ∀ v' w', Row e sz (fun k => v.ownBlock = some k ∨ w.heap.size < k) w' v' (n + 1) (xs ++ us) → Chg (fun k => v.ownBlock = some k) w w' → K (a.put o.dst v') w') :
    if Region.wanted o (yielded ops a.tmps) = true then Oper.wp P o a (w.alloc (.cells us.toArray te)) K Q else E := by
  have hn : New w (w.alloc (.cells us.toArray te)) := (New.refl w).alloc _
  have hle : n + 1 ≤ 140737488355328 := Nat.le_trans (Nat.le_mul_of_pos_right _ hb) h63
  refine stepRow_append T s x hgd ho v n xs hs (hrow.new hn) (.some ⟨w.heap.size, 0, none⟩) 1 1 us hx ⟨by omega, by simp, fun ad e j u hu => ?_⟩ hu (by unfold maxLen; omega) h63 ?_
  · cases e
    rw [addr_add, Nat.zero_add]
    have hb := heap_alloc_new w (.cells us.toArray te)
    simp only [World.cell?, hb]
    simpa using hu
  intro v' w' hr hc
  refine h v' w' ?_ ?_
  · refine hr.mono fun j hj hh => ?_
    rcases hh with hh | hh
    · exact .inl hh
    · refine .inr ?_
      simp at hh; omega
  · exact ⟨hc.os.trans hn.os, hc.tape.trans hn.tape, hc.output.trans hn.output, Nat.le_trans hn.size hc.size, fun j hj hv => (hc.block j (Nat.lt_of_lt_of_le hj hn.size) hv).trans (hn.block j hj (fun h => h))⟩

/-- 'make([]T, 0, n)'. -/
theorem wpRow_makeCap {P : Program} {w : World} {ops : Array Oper} {rest : List Oper} {o : Oper} {a : Act} {Q : Exit → Act → World → Prop}
    {t e : TypeId} {z : Value} {size bytes : Nat} (T : SliceOf P t e z size bytes) (l c : Operand) (hg : o.guard = none) (hop : o.op = Op.makeSlice t l c)
    (kl kc : IntKind) (n : Nat) (hl : a.eval l = .int kl 0) (hc : a.eval c = .int kc n) (b2 : bytes * n ≤ 281474976710656) (b3 : n ≤ maxLen)
    (hK : ∀ w', Row e size (fun k => k = w.heap.size) w' (.slice (some ⟨w.heap.size, 0, none⟩) 0 n) 0 [] → New w w' → wpList P ops Q rest (a.put o.dst (.slice (some ⟨w.heap.size, 0, none⟩) 0 n)) w') :
    wpList P ops Q (o :: rest) a w := by
  obtain ⟨t1, t2, t3, t4⟩ := T
  obtain ⟨i, hi, hz0, hz1, hz2⟩ := info_parts t2
  refine wpList_make_own w hg l c t hop 0 e i z size t1 hi hz0 hz1 kl kc n n hl hc rfl (by rw [hz2]; exact b2) b3 (Nat.zero_le _) ?_
  intro w' hown hgr
  exact hK w' ⟨hown, fun k hk => by simp [Value.ownBlock] at hk; exact hk.symm⟩ ((New.refl w).grown hgr (by simp))

theorem atP_at {ps : List HP} (h : rising ps) {k : Nat} {p : HP} (hp : ps[k]? = some p) : atP p.1.id ps = some p := by
  rcases hq : atP p.1.id ps with _ | q
  · have := List.find?_eq_none.1 hq p (List.mem_of_getElem? hp)
    simp at this
  · obtain ⟨hm, hid⟩ := atP_some hq
    obtain ⟨j, hj, rfl⟩ := List.mem_iff_getElem.1 hm
    obtain ⟨hk, e⟩ := List.getElem?_eq_some_iff.1 hp
    have hr := List.pairwise_iff_getElem.1 h
    rcases Nat.lt_trichotomy j k with hlt | heq | hlt
    · have := hr j k hj hk hlt; rw [e] at this; omega
    · subst heq; rw [e]
    · have := hr k j hk hj hlt; rw [e] at this; omega

theorem Ints.cellAt {S : Nat → Prop} {w : World} {a : Option Addr} {n c : Nat} {xs : List Int} (h : Ints S w (.slice a n c) xs) {i : Nat} {x : Int} (hx : xs[i]? = some x) : ∃ b off, a = some ⟨b, off, none⟩ ∧ w.cell? ⟨b, off + i, none⟩ = some (.int .i64 x) := by
  obtain ⟨a', c', e, -, -, -, h4⟩ := h
  simp only [Value.slice.injEq] at e
  obtain ⟨rfl, -, -⟩ := e
  rcases h4 with rfl | ⟨b, off, rfl, -, -, hc⟩
  · simp at hx
  · exact ⟨b, off, rfl, hc i x hx⟩

def ListPost (ps : List HP) (w : World) (e : Ending) (w' : World) : Prop :=
  ∃ v, e = .returned v ∧ OwnHelds (fun j => w.heap.size ≤ j) w' v (ps.map Prod.fst) ∧ New w w'

set_option maxRecDepth 4000 in
set_option maxHeartbeats 2000000 in
theorem implList {S : Nat → Prop} (b n : Nat) (ps : List HP) (w : World) (h : Store S w b n ps) (hn : n ≤ 1000) (hps : ∀ p ∈ ps, I64 p.1.id ∧ I64 p.1.uses ∧ p.1.bytes.length ≤ 8) :
    Calls Try.prog 43 #[.map (some b)] w (ListPost ps w) := by
  replace h := h.old
  have hlen := h.2.2.1.len under_store
  rw [map_size] at hlen
  have hsz : ps.length ≤ n := by have := h.2.2.1.size_le; rw [map_size] at this; exact this
  go_enter Try.func43, Try.ntmps43
  go_wp2_with first
    | (at_make; refine wpRow_makeCap slHeld _ _ rfl rfl .i64 .i64 ps.length rfl rfl (by omega) (by unfold maxLen; omega) ?_; intro w1 hrow hn1)
    | fail
  refine (keysIs b w1).mono ?_
  rintro e w2 ⟨rfl, rfl⟩
  go_wp2_with fail
  have hg : (w1.alloc (.cells #[.map (some b)] 57)).cell? ⟨w1.heap.size, 0, none⟩ = some (.map (some b)) := by rw [cell_alloc]; rfl
  have h2 := (h.new hn1).new ((New.refl w1).alloc (.cells #[.map (some b)] 57))
  have n2 := hn1.trans ((New.refl w1).alloc (.cells #[.map (some b)] 57))
  have r2 := hrow.new ((New.refl w1).alloc (.cells #[.map (some b)] 57))
  refine (sortedIs b n _ ps _ h2 hn hg).mono ?_
  have hz1 : w.heap.size < (w1.alloc (.cells #[.map (some b)] 57)).heap.size := by have := hn1.size; simp; omega
  have hat := fun (k : Nat) (p : HP) (hp : ps[k]? = some p) => atP_at h.2.2.2.1 hp
  have Hat := Lib.hid hat
  clear hg hlen h hrow hn1 hat
  generalize w1.alloc (.cells #[.map (some b)] 57) = w2 at *
  rintro e w3 ⟨vk, rfl, rk, n3⟩
  have hki : OwnInts 3 (fun j => w2.heap.size ≤ j) w3 vk (ps.map fun p => p.1.id) := by
    refine ⟨?_, fun x hx => ?_⟩
    · rw [List.map_map, List.length_map]; exact rk
    · obtain ⟨p, hp, rfl⟩ := List.mem_map.1 hx
      exact (hps p hp).1
  have hks := hki.nums
  obtain ⟨ak, ck, e3, k1, ⟨k2, -⟩, k3, k4⟩ := hks
  subst e3
  unfold maxLen at k2
  rw [List.length_map] at k1
  have h3 := h2.new n3
  have r3 := r2.new n3
  have n03 := n2.trans n3
  have hkeys := (OwnNums.nums hki).old
  have hz2 : w.heap.size < w2.heap.size := hz1
  have hz3 := n3.size
  have Hps := Lib.hid hps
  clear hki rk k3 k4 h2 r2 n2 n3 hps
  have hos : OwnHelds (fun j => j = w.heap.size ∨ w3.heap.size ≤ j) w3 (.slice (some ⟨w.heap.size, 0, none⟩) 0 ps.length) [] := ⟨[], r3.mono (fun j _ hj => .inl hj), trivial⟩
  clear r3
  go_wp2_with fail
  go_loopg [3, 14] ps.length (fun gk v i wr => ∃ (k : Nat), gk = ps.length - k ∧ k ≤ ps.length ∧ i = .int .i64 k ∧ New w wr ∧ w3.heap.size ≤ wr.heap.size ∧ Store (fun j => S j ∧ j < w.heap.size) wr b n ps ∧ Ints (fun j => w2.heap.size ≤ j ∧ j < w3.heap.size) wr (.slice ak (ps.map fun p => p.1.id).length ck) (ps.map fun p => p.1.id) ∧ OwnHelds (fun j => j = w.heap.size ∨ w3.heap.size ≤ j) wr v ((ps.take k).map Prod.fst))
  case atStart => exact ⟨0, by omega, Nat.zero_le _, rfl, n03, Nat.le_refl _, h3, hkeys, hos⟩
  case round =>
    obtain ⟨k, hgk, hk, rfl, hn0, hz, st, hkk, ol⟩ := hrel
    have Hgk := Lib.hid hgk
    clear hgk h3 hkeys hos
    by_cases hlt : k < ps.length
    · obtain ⟨p, hp⟩ := get_of hlt
      obtain ⟨kb, ko, rfl, kcell⟩ := hkk.cellAt (i := k) (x := p.1.id) (by simp [hp])
      have hm := List.mem_of_getElem? hp
      obtain ⟨i0, i2, hbl⟩ := Hps.out p hm
      have hlook := st.look1 i0
      rw [Hat.out k p hp] at hlook
      obtain ⟨x, hx, ho⟩ := st.2.2.2.2.get (i := k) (f := .nums p.1.bytes) (by simp [hp])
      have hxu : x = p.2 := by simpa [hp] using hx.symm
      subst hxu
      have R2 := Lib.hid (OwnI.nums ho)
      obtain ⟨au, cu, e2, u1, u2⟩ := Ints.shapeOf (OwnI.nums ho)
      unfold maxLen at u2
      simp only [HP.val, e2] at hlook
      rw [e2] at R2
      have htk : (ps.take (k + 1)).map Prod.fst = (ps.take k).map Prod.fst ++ [p.1] := by
        obtain ⟨hk', e⟩ := List.getElem?_eq_some_iff.1 hp
        rw [List.take_succ_eq_append_getElem hk', e, List.map_append]; rfl
      have Htk := Lib.hid htk
      have hlk : ((ps.take k).map Prod.fst).length = k := by simp; omega
      obtain ⟨us, r1, r2⟩ := OwnRecs.old ol
      rw [hlk] at r1
      have hv : ∀ j, u3.ownBlock = some j → (j = w.heap.size ∨ w3.heap.size ≤ j) ∧ j < wr.heap.size := fun j e => r1.2 j e
      obtain ⟨av, cv, ev, x1, x2, -, -⟩ := r1.shape
      unfold maxLen at x2
      have c0 : (wr.alloc (.cells #[.int .i64 p.1.id, .slice au p.1.bytes.length cu, .int .i64 p.1.uses] 49)).cell? ⟨wr.heap.size, 0, none⟩ = some (.int .i64 p.1.id) := by rw [cell_alloc]; rfl
      have c1 : (wr.alloc (.cells #[.int .i64 p.1.id, .slice au p.1.bytes.length cu, .int .i64 p.1.uses] 49)).cell? ⟨wr.heap.size, 1, none⟩ = some (.slice au p.1.bytes.length cu) := by rw [cell_alloc]; rfl
      have c2 : (wr.alloc (.cells #[.int .i64 p.1.id, .slice au p.1.bytes.length cu, .int .i64 p.1.uses] 49)).cell? ⟨wr.heap.size, 2, none⟩ = some (.int .i64 p.1.uses) := by rw [cell_alloc]; rfl
      have nb : New wr (wr.alloc (.cells #[.int .i64 p.1.id, .slice au p.1.bytes.length cu, .int .i64 p.1.uses] 49)) := (New.refl wr).alloc _
      clear hx ho hm hp htk ol
      subst ev
      go_wp2_with fail
      generalize wr.alloc (.cells #[.int .i64 p.1.id, .slice au p.1.bytes.length cu, .int .i64 p.1.uses] 49) = wb at *
      have hgs : wr.heap.size ≤ wr.heap.size := Nat.le_refl _
      generalize hg : wr.heap.size = g at *
      have hcl := slClone (.slice au p.1.bytes.length cu) p.1.bytes wb.drew ((R2.out.new nb).new ((New.refl wb).drew)) (by omega)
      have Hcl := Lib.hid hcl
      have r1' := r1.new (nb.trans ((New.refl wb).drew))
      have r2' := r2.new (nb.trans ((New.refl wb).drew))
      clear hcl
      go_region_held3 (fun w' => w'.cell? ⟨g, 1, none⟩ = some (.slice au p.1.bytes.length cu) ∧ w'.cell? ⟨g, 2, none⟩ = some (.int .i64 p.1.uses)) (first | exact ⟨c1, c2⟩ | exact ⟨n4.cell c1, n4.cell c2⟩ | exact ⟨(n4.alloc _).cell c1, (n4.alloc _).cell c2⟩ | exact ⟨d6.cell (n4.cell c1) (fun e => by have := hv _ e; omega), d6.cell (n4.cell c2) (fun e => by have := hv _ e; omega)⟩)
        (first
          | (go_at_call 66; refine Hcl.out.mono ?_; rintro e w4 ⟨u', rfl, n4, q4⟩; obtain ⟨a4, c4, rfl, s41, s42⟩ := q4.shape)
          | (refine stepRow_appendRec slHeld _ _ rfl rfl (.slice av k cv) k us [.int .i64 p.1.id, .slice a4 p.1.bytes.length c4, .int .i64 p.1.uses] 49 rfl (r1'.new n4) rfl (by intro u hu; simp at hu; rcases hu with rfl | rfl | rfl <;> rfl) rfl (by omega) (by decide) ?_; intro v6 w6 q6 d6))
      have nw4 := (nb.trans ((New.refl wb).drew)).trans n4
      have hz4 := n4.size
      have hzb := nb.size
      have ft : Fields (fun j => wb.heap.size ≤ j) w4 [.int .i64 p.1.id, .slice a4 p.1.bytes.length c4, .int .i64 p.1.uses] p.1.flds := ⟨⟨rfl, i0⟩, (OwnI.of q4).mono (fun j _ hj => ⟨hj, by simp [blk]⟩), ⟨rfl, i2⟩, trivial⟩
      have hdz : wb.drew.heap.size = wb.heap.size := rfl
      rw [hdz] at hz4
      have os' := OwnRecs.snoc (S := fun j => (j = w.heap.size ∨ w3.heap.size ≤ j) ∧ j < g) (T := fun j => wb.heap.size ≤ j) (r2'.new n4) ft q6 d6 (fun j hj => ⟨hv j hj, by have := (hv j hj).2; omega⟩) (fun j hj hT => by have := hj.2; omega)
      have n6 : New w w6 := (hn0.trans nw4).trans_chg d6 (fun j hj e => by have := (hv j e).1; have := hn0.size; omega)
      have st6 := (st.new nw4).chg d6 (fun j hj hs e => by have := (hv j e).1; have := hs.2; omega)
      have hk6 := (hkk.new nw4).chg d6 (fun j hj hs e => by have := (hv j e).1; have := hs; omega)
      have hz6 := d6.size
      have ol6 : OwnHelds (fun j => j = w.heap.size ∨ w3.heap.size ≤ j) w6 v6 ((ps.take (k + 1)).map Prod.fst) := by
        unfold OwnHelds heldFlds
        rw [Htk.out, List.length_append, List.flatMap_append, hlk]
        have e1 : List.flatMap HeldR.flds [p.1] = p.1.flds := by simp
        rw [e1]
        exact OwnRecs.mono os' (fun j hj hh => by
          rcases hh with hh | hh | hh
          · exact hh.1.1
          · omega
          · omega)
      clear os' ft nw4 st hkk d6 q6 q4 n4 c0 c1 c2 r1 r2 r1' r2' Hcl hlook R2
      go_wp2_with fail
      go_roundg (ps.length - (k + 1))
      case measure => rw [Hgk.out]; omega
      case rel => exact ⟨k + 1, rfl, by omega, by go_num, n6, by omega, st6, hk6, ol6⟩
    · go_wp2_with fail
      go_ret
      have ek : ps.take k = ps := List.take_of_length_le (by omega)
      rw [ek] at ol
      exact ⟨_, rfl, OwnRecs.mono ol (fun j _ hj => by omega), hn0⟩
end Go.Proofs.Ytfhnhggmoplmiaa
