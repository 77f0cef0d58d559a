/- insert, where the new name stands behind all names of its directory. -/
import Derived.Test.YtkffejommncinaaDoorGrow
import Derived.Deep.RegionHeld3
namespace Go.Proofs.YtkffejommncinaaDoor
open Go.RowKit

theorem kids_end (ns : List Nd) (y : Nd) (k : Key) : kidsOf (ns ++ [y]) k = kidsOf ns k ++ (if isKid k y = true then [y.key] else []) := by
  unfold kidsOf
  rw [List.filter_append, List.map_append]
  congr 1
  rcases h : isKid k y with _ | _
  · rw [List.filter_cons_of_neg (by simp [h])]; simp
  · rw [List.filter_cons_of_pos (by simp [h])]; simp
theorem isKid_iff {k : Key} {y : Nd} : isKid k y = true ↔ y.key ≠ [] ∧ y.key.dropLast = k := by
  unfold isKid
  simp only [Bool.and_eq_true, Bool.not_eq_true', beq_iff_eq, List.isEmpty_eq_false_iff]
theorem place_end {ks : List Key} {nm : List UInt8} {i : Nat} (h : PlaceAt ks nm i) (hlt : ∀ q ∈ ks, sLt (nameOf q) nm = true) : i = ks.length ∧ thereAt ks nm i = false := by
  obtain ⟨h1, h2, h3⟩ := h
  have e : i = ks.length := by
    rcases Nat.lt_or_ge i ks.length with hl | hl
    · obtain ⟨q, hq⟩ := get_of hl
      have := hlt q (List.mem_of_getElem? hq)
      rw [h3 i q (Nat.le_refl _) hq] at this; cases this
    · omega
  refine ⟨e, ?_⟩
  unfold thereAt
  rw [e, List.getElem?_eq_none (Nat.le_refl _)]
  rfl
theorem kid_new {ns : List Nd} (G : Good ns) {y : Nd} (hf : ∀ x ∈ ns, x.key ≠ y.key) (hy : y.key ≠ []) : kidsOf (ns ++ [y]) y.key = [] := by
  rw [kids_end, if_neg, List.append_nil]
  · rw [List.eq_nil_iff_forall_not_mem]
    intro q hq
    obtain ⟨x, hx, rfl, h2, h3⟩ := mem_kids.1 hq
    obtain ⟨z, hz, e, -⟩ := G.up x hx h2
    exact hf z hz (e.trans h3)
  · intro h
    have := (isKid_iff.1 h).2
    have := congrArg List.length this
    simp at this
    have := List.length_pos_iff.2 hy
    omega

/-- the tree behind an insert -/
def InsPost (S : Nat → Prop) (b : Key → Nat) (ns : List Nd) (o : ItemR) (w : World) (e : Ending) (w' : World) : Prop :=
  if hasDir ns o.path = true then
    e = .returned (.bool true) ∧ Chg S w w' ∧ ∃ b', b' [] = b [] ∧ ∃ u' kv', Forest (fun j => S j ∨ w.heap.size ≤ j) w' b' u' kv' (ns ++ [nodeOf o])
  else e = .returned (.bool false) ∧ New w w'

/-- the tree behind the store of the longer row -/
theorem grow_end {S : Nat → Prop} {w1 w3 w6 : World} {b : Key → Nat} {u kv : Key → Value} {ns : List Nd} (F : Forest S w1 b u kv ns) (G : Good ns) {pd : Nd} (hpd : pd ∈ ns) {o : ItemR} {kvd : Value} {ks : List Key} {N : List UInt8} {bd : Nat}
    (hkve : kvd = kv pd.key) (hkse : kidsOf ns pd.key = ks) (hNe : nameOf (cutS o.path) = N) (hbd : b pd.key = bd) (hk : (cutS o.path).dropLast = pd.key)
    (hlt : ∀ q ∈ ks, sLt (nameOf q) N = true) {uc v6 : Value} {B : Obj} {m : Nat} (n3 : New w1 w3) (o3 : OwnInts 3 (fun k => w1.heap.size ≤ k) w3 uc o.ids) (hm : m = ks.length + 1)
    (r6 : Row 63 1 (fun j => kvd.ownBlock = some j ∨ j = ((w3.alloc (.cells #[txt N, .bool o.dir, uc, .slice none 0 0] 69)).alloc B).heap.size) w6 v6 m (ks.map (fun k => .pointer (some ⟨b k, 0, none⟩)) ++ [.pointer (some ⟨w3.heap.size, 0, none⟩)]))
    (c6 : Chg (fun j => kvd.ownBlock = some j) ((w3.alloc (.cells #[txt N, .bool o.dir, uc, .slice none 0 0] 69)).alloc B) w6) :
    Chg S w1 (w6.setCell ⟨bd, 3, none⟩ v6) ∧ ∃ b' u' kv', b' [] = b [] ∧ Forest (fun j => S j ∨ w1.heap.size ≤ j) (w6.setCell ⟨bd, 3, none⟩ v6) b' u' kv' (ns ++ [nodeOf o]) := by
  subst hkve hkse hNe hbd
  have hs3 := n3.size
  have hb := F.lt hpd
  have hkv : ∀ j, (kv pd.key).ownBlock = some j → j < w1.heap.size := fun j hj => (F.row pd hpd).lt j hj
  have hap : (kv pd.key).ownBlock ≠ some (b pd.key) := F.ap1 pd hpd pd hpd
  obtain ⟨hA, hAe⟩ : ∃ hA, hA = (Obj.cells #[txt (nameOf (cutS o.path)), .bool o.dir, uc, .slice none 0 0] 69) := ⟨_, rfl⟩
  rw [← hAe] at r6 c6
  have n5 : New w3 ((w3.alloc hA).alloc B) := ((New.refl w3).alloc hA).alloc B
  have hs5 : ((w3.alloc hA).alloc B).heap.size = w3.heap.size + 2 := by simp
  have hA3 : ((w3.alloc hA).alloc B).heap[w3.heap.size]? = some hA := ((New.refl (w3.alloc hA)).alloc B).heap (heap_alloc_new w3 hA)
  generalize ((w3.alloc hA).alloc B) = w5 at *
  have hA6 : w6.heap[w3.heap.size]? = some hA := c6.heap hA3 (fun h => by have := hkv _ h; omega)
  have g6 : Chg (fun j => j = b pd.key ∨ (kv pd.key).ownBlock = some j) w1 w6 := ((n3.trans n5).chg _).step c6 (fun j _ hj => .inr hj)
  have g7 : Chg (fun j => j = b pd.key ∨ (kv pd.key).ownBlock = some j) w1 (w6.setCell ⟨b pd.key, 3, none⟩ v6) := g6.setCell _ (fun _ => .inl rfl)
  have s7 : Chg (fun j => j = b pd.key) w6 (w6.setCell ⟨b pd.key, 3, none⟩ v6) := chg_set1 w6 (b pd.key) 3 v6
  have hc6 : w6.heap[b pd.key]? = some (.cells #[txt (nameOf pd.key), .bool pd.dir, u pd.key, kv pd.key] 69) := c6.heap ((n3.trans n5).heap (F.cell pd hpd)) hap
  have hfresh : ∀ x ∈ ns, x.key ≠ (nodeOf o).key := by
    intro x hx e
    have e' : x.key = cutS o.path := e
    have hq : x.key ∈ kidsOf ns pd.key := mem_kids.2 ⟨x, hx, rfl, by rw [e']; exact cutS_ne _, by rw [e']; exact hk⟩
    have := hlt _ hq
    rw [e', sLt_irrefl] at this; cases this
  have hkid : isKid pd.key (nodeOf o) = true := isKid_iff.2 ⟨cutS_ne _, hk⟩
  have hks : kidsOf (ns ++ [nodeOf o]) pd.key = kidsOf ns pd.key ++ [cutS o.path] := by rw [kids_end, if_pos hkid]; rfl
  have r7 := (r6.chg s7 (fun j _ hj e => by
    rcases hj with hj | hj
    · exact hap (by rw [← e]; exact hj)
    · omega))
  refine ⟨g7.mono (fun j _ hj => ?_), _, _, _, ?_, (Forest.add F (ns' := ns ++ [nodeOf o]) hpd hfresh (fun x => by rw [List.mem_append, List.mem_singleton]) (fun x hx hne => ?_) (kid_new G hfresh (cutS_ne _)) g7 (nb := w3.heap.size) (uy := uc) (v' := v6) hs3 ?_ ?_ ?_ ?_ (fun x hx e => G.uniq x hx pd hpd e))⟩
  · rcases hj with rfl | hj
    · exact F.inS pd hpd
    · exact (F.row pd hpd).2 j hj
  · exact if_neg (fun e => cutS_ne o.path e.symm)
  · rw [kids_end, if_neg, List.append_nil]
    intro h
    exact hne ((isKid_iff.1 h).2.symm.trans hk)
  · rw [s7.heap hA6 (fun e => by omega), hAe]; rfl
  · simp [World.setCell, Array.getElem?_modify, hc6]
  · have o7 := ((OwnI.of o3).mono (T := fun j => j < w3.heap.size ∧ w1.heap.size ≤ j) (fun j hj hh => ⟨hj, hh⟩)).chg (n5.chg (fun _ => False)) (fun _ _ _ h => h)
    have o8 := (o7.chg c6 (fun j _ hj h => by have := hkv j h; omega)).chg s7 (fun j _ hj h => by omega)
    refine o8.mono (fun j _ hj => ⟨hj.2, by omega, fun h => ?_⟩)
    rcases r6.2 j h with h | h
    · have := hkv j h; omega
    · omega
  · rw [hks, List.length_append, List.length_singleton, ← hm]
    have em : (kidsOf ns pd.key ++ [cutS o.path]).map (fun k => Value.pointer (some ⟨if k = (nodeOf o).key then w3.heap.size else b k, 0, none⟩)) = (kidsOf ns pd.key).map (fun k => .pointer (some ⟨b k, 0, none⟩)) ++ [.pointer (some ⟨w3.heap.size, 0, none⟩)] := by
      rw [List.map_append]
      congr 1
      · refine List.map_congr_left fun k hk => ?_
        obtain ⟨z, hz, rfl, -⟩ := mem_kids.1 hk
        rw [if_neg (hfresh z hz)]
      · show [Value.pointer (some ⟨if cutS o.path = cutS o.path then w3.heap.size else b (cutS o.path), 0, none⟩)] = _
        rw [if_pos rfl]
    rw [em]
    exact r7.mono (fun j _ hj => by
      rcases hj with hj | hj
      · exact .inl hj
      · exact .inr ⟨by omega, by omega⟩)

set_option maxRecDepth 4000 in
set_option maxHeartbeats 2000000 in
theorem nodeInsert {S R : Nat → Prop} {w : World} {b : Key → Nat} {u kv : Key → Value} {ns : List Nd} (F : Forest S w b u kv ns) (G : Good ns) (hl : ns.length ≤ 1000) (o : ItemR) (v : Value) (hv : Ints R w v o.ids)
    (hi : o.ids.length ≤ 1048576) (hs : o.path.length ≤ 1048576) (hlt : ∀ q ∈ kidsOf ns (cutS o.path).dropLast, sLt (nameOf q) (nameOf (cutS o.path)) = true) :
    Calls Tryd.prog 69 #[.pointer (some ⟨b [], 0, none⟩), .agg #[txt o.path, .bool o.dir, v]] w (InsPost S b ns o w) := by
  have hdo := fun (W : World) (n : New w W) => nodeDirOf (F.new n) G hl o.path hs
  unfold DirPost at hdo
  unfold InsPost
  unfold txt at hdo ⊢
  have N0 := Lib.hid ((New.refl w).alloc (.cells #[.string ⟨o.path.toArray⟩, .bool o.dir, v] 28))
  rcases hd : hasDir ns o.path with _ | _
  · rw [hd] at hdo
    have Hdo := Lib.hid hdo
    obtain ⟨a, c, rfl, -⟩ := hv
    clear hd hdo F G hlt
    go_enter Tryd.func69, Tryd.ntmps69
    go_wp2_with fail
    refine (Hdo.out _ N0.out).mono ?_
    rintro e w1 ⟨rfl, n1⟩
    go_wp2_with fail
    go_ret
    exact ⟨rfl, N0.out.trans n1⟩
  · suffices hsuf : Calls Tryd.prog 69 #[.pointer (some ⟨b [], 0, none⟩), .agg #[.string ⟨o.path.toArray⟩, .bool o.dir, v]] w (fun e w' => e = .returned (.bool true) ∧ Chg S w w' ∧ ∃ b', b' [] = b [] ∧ ∃ u' kv', Forest (fun j => S j ∨ w.heap.size ≤ j) w' b' u' kv' (ns ++ [nodeOf o])) from
      hsuf.mono (fun e w' h => by rw [if_pos rfl]; exact h)
    rw [hd] at hdo
    have Hdo := Lib.hid hdo
    have hd2 : dirAt ns (cutS o.path).dropLast = true := by
      unfold hasDir at hd; rw [Bool.and_eq_true] at hd; exact hd.2
    obtain ⟨pd, hpd, hpk, hpdir⟩ := dirAt_has hd2
    have hpl := fun (W : World) (n : New w W) => nodePlace (F.new n) G hl hpd (nameOf (cutS o.path))
    have hcs := fun (W : World) (n : New w W) => (F.new n).cells hpd
    have hcell := fun (W : World) (n : New w W) => (F.new n).cell pd hpd
    have hrow := F.row pd hpd
    have hcl := fun (W : World) (n : New w W) => slClone v o.ids W (hv.new n) hi
    have hap := F.ap1 pd hpd pd hpd
    have hbl := F.lt hpd
    have hsplit := key_split (cutS_ne o.path)
    obtain ⟨vk, hvk⟩ : ∃ x, x = kv pd.key := ⟨_, rfl⟩
    have hrow2 := hrow
    rw [← hvk] at hrow2
    obtain ⟨ak, ck, hvs, s1, s2, -, s5⟩ := hrow2.shape
    subst hvs
    rw [hpk] at hpl hcs hap hbl
    rw [← hpk] at hlt
    simp only [hpk] at hlt
    have hks := Nat.le_trans (kids_le ns pd.key) hl
    rw [hpk] at s1 hks hrow2 hvk hrow
    have Hpl := Lib.hid hpl
    have Hcs := Lib.hid hcs
    have Hcl := Lib.hid hcl
    have Hap := Lib.hid hap
    have Hrow := Lib.hid hrow2
    have Hlt := Lib.hid hlt
    have Hvk := Lib.hid hvk
    have Hsplit := Lib.hid hsplit
    have HF := Lib.hid F
    have HG := Lib.hid G
    have Hpk := Lib.hid hpk
    have Hcell := Lib.hid hcell
    obtain ⟨a, c, rfl, -⟩ := hv
    have m0 : (w.alloc (.cells #[.string ⟨o.path.toArray⟩, .bool o.dir, .slice a o.ids.length c] 28)).cell? ⟨w.heap.size, 1, none⟩ = some (.bool o.dir) := by rw [cell_alloc]; rfl
    have m1 : (w.alloc (.cells #[.string ⟨o.path.toArray⟩, .bool o.dir, .slice a o.ids.length c] 28)).cell? ⟨w.heap.size, 2, none⟩ = some (.slice a o.ids.length c) := by rw [cell_alloc]; rfl
    have M0 := Lib.hid m0
    have M1 := Lib.hid m1
    clear hd hdo F G hlt hpl hcs hcl hap hrow hrow2 hvk hsplit hd2 hpk hpdir hcell m0 m1 s5
    unfold maxLen at s2
    generalize hK : (cutS o.path).dropLast = KD at *
    generalize hN : nameOf (cutS o.path) = N at *
    generalize hks' : kidsOf ns KD = ks at *
    unfold txt at Hpl
    have HK := Lib.hid hK
    have HN := Lib.hid hN
    have HKs := Lib.hid hks'
    clear hK hN hks'
    go_enter Tryd.func69, Tryd.ntmps69
    go_wp2_with fail
    refine (Hdo.out _ N0.out).mono ?_
    rintro e w1 ⟨rfl, n1⟩
    have n2 := N0.out.trans n1
    have m0 := n1.cell M0.out
    have m1 := n1.cell M1.out
    go_wp2_with fail
    have hpl := Hpl.out w1 n2
    refine hpl.mono ?_
    rintro e w2 ⟨i, hi, rfl, rfl⟩
    obtain ⟨e1, e2⟩ := place_end hi Hlt.out
    rw [e2, e1]
    clear hi e1 e2 hpl
    have hcs := Hcs.out w1 n2
    rw [← Hvk.out] at hcs
    obtain ⟨-, -, -, k3, -, -⟩ := hcs
    have hkl : ∀ j, Value.ownBlock (.slice ak ks.length ck) = some j → j < w.heap.size := fun j hj => Hrow.out.lt j hj
    have Hkl := Lib.hid hkl
    have hown : Value.ownBlock (.slice ak ks.length ck) ≠ some (b KD) := by rw [Hvk.out]; exact Hap.out
    have Hown := Lib.hid hown
    clear hkl hown
    have hsz1 := n2.size
    go_wp2_with fail
    have k3d : w1.drew.cell? ⟨b KD, 3, none⟩ = some (.slice ak ks.length ck) := k3
    refine wp_region_held_drew (S := (fun w' => w'.cell? ⟨w.heap.size, 1, none⟩ = some (.bool o.dir) ∧ w'.cell? ⟨w.heap.size, 2, none⟩ = some (.slice a o.ids.length c))) (by kernel_rfl) ?_ (fun hHeld => ?_)
    · exact ⟨m0, m1⟩
    refine wpAnyH_take (i := 0) (v := ?_) (oi := ?_) ?hi_1 ?hs_1 ?hf_1 ?hr_1 ?hQ_1 ?hy_1 ?hS_1 ?h_1
    case hi_1 => (simp only [List.getElem?_toArray, List.getElem?_cons_zero] <;> rfl)
    case hs_1 => kernel_rfl
    case hf_1 => kernel_rfl
    case hr_1 => kernel_rfl
    case hQ_1 => exact fun _ _ _ h => h
    case hy_1 => (refine Or.inl ⟨by rfl, ?_⟩; intro w hSw; (try dsimp only at hSw); go_simp; try with_reducible rfl)
    case hS_1 => assumption
    try go_frame
    refine wpAnyH_take (i := 1) (v := ?_) (oi := ?_) ?hi_2 ?hs_2 ?hf_2 ?hr_2 ?hQ_2 ?hy_2 ?hS_2 ?h_2
    case hi_2 => (simp only [List.getElem?_toArray, List.getElem?_cons_zero, List.getElem?_cons_succ] <;> rfl)
    case hs_2 => kernel_rfl
    case hf_2 => kernel_rfl
    case hr_2 => kernel_rfl
    case hQ_2 => exact fun _ _ _ h => h
    case hy_2 => (refine Or.inl ⟨by rfl, ?_⟩; intro w hSw; (try dsimp only at hSw); go_simp; try with_reducible rfl)
    case hS_2 => assumption
    try go_frame
    refine wpAnyH_take (i := 2) (v := ?_) (oi := ?_) ?hi_3 ?hs_3 ?hf_3 ?hr_3 ?hQ_3 ?hy_3 ?hS_3 ?h_3
    case hi_3 => (simp only [List.getElem?_toArray, List.getElem?_cons_zero, List.getElem?_cons_succ] <;> rfl)
    case hs_3 => kernel_rfl
    case hf_3 => kernel_rfl
    case hr_3 => kernel_rfl
    case hQ_3 => exact fun _ _ _ h => h
    case hy_3 => (refine Or.inl ⟨by rfl, ?_⟩; intro w hSw; (try dsimp only at hSw); go_simp; try with_reducible rfl)
    case hS_3 => assumption
    try go_frame
    refine wpAnyH_take (i := 3) (v := ?_) (oi := ?_) ?hi_4 ?hs_4 ?hf_4 ?hr_4 ?hQ_4 ?hy_4 ?hS_4 ?h_4
    case hi_4 => (simp only [List.getElem?_toArray, List.getElem?_cons_zero, List.getElem?_cons_succ] <;> rfl)
    case hs_4 => kernel_rfl
    case hf_4 => kernel_rfl
    case hr_4 => kernel_rfl
    case hQ_4 => exact fun _ _ _ h => h
    case hy_4 => (refine Or.inl ⟨by rfl, ?_⟩; intro w hSw; (try dsimp only at hSw); go_simp; try with_reducible rfl)
    case hS_4 => assumption
    try go_frame
    refine wpAnyH_take (i := 5) (v := ?_) (oi := ?_) ?hi_5 ?hs_5 ?hf_5 ?hr_5 ?hQ_5 ?hy_5 ?hS_5 ?h_5
    case hi_5 => (simp only [List.getElem?_toArray, List.getElem?_cons_zero, List.getElem?_cons_succ] <;> rfl)
    case hs_5 => kernel_rfl
    case hf_5 => kernel_rfl
    case hr_5 => kernel_rfl
    case hQ_5 => exact fun _ _ _ h => h
    case hy_5 => (refine Or.inl ⟨by rfl, ?_⟩; intro w hSw; (try dsimp only at hSw); go_simp; try with_reducible rfl)
    case hS_5 => assumption
    try go_frame
    refine wpAnyH_take (i := 6) (v := ?_) (oi := ?_) ?hi_6 ?hs_6 ?hf_6 ?hr_6 ?hQ_6 ?hy_6 ?hS_6 ?h_6
    case hi_6 => (simp only [List.getElem?_toArray, List.getElem?_cons_zero, List.getElem?_cons_succ] <;> rfl)
    case hs_6 => kernel_rfl
    case hf_6 => kernel_rfl
    case hr_6 => kernel_rfl
    case hQ_6 => exact fun _ _ _ h => h
    case hy_6 => (refine Or.inl ⟨by rfl, ?_⟩; intro w hSw; (try dsimp only at hSw); go_simp; try with_reducible rfl)
    case hS_6 => assumption
    try go_frame
    refine wpAnyH_take (i := 7) (v := ?_) (oi := ?_) ?hi_7 ?hs_7 ?hf_7 ?hr_7 ?hQ_7 ?hy_7 ?hS_7 ?h_7
    case hi_7 => (simp only [List.getElem?_toArray, List.getElem?_cons_zero, List.getElem?_cons_succ] <;> rfl)
    case hs_7 => kernel_rfl
    case hf_7 => kernel_rfl
    case hr_7 => kernel_rfl
    case hQ_7 => exact fun _ _ _ h => h
    case hy_7 => (refine Or.inl ⟨by rfl, ?_⟩; intro w hSw; (try dsimp only at hSw); go_simp; try with_reducible rfl)
    case hS_7 => assumption
    try go_frame
    refine wpAnyH_take (i := 8) (v := ?_) (oi := ?_) ?hi_8 ?hs_8 ?hf_8 ?hr_8 ?hQ_8 ?hy_8 ?hS_8 ?h_8
    case hi_8 => (simp only [List.getElem?_toArray, List.getElem?_cons_zero, List.getElem?_cons_succ] <;> rfl)
    case hs_8 => kernel_rfl
    case hf_8 => kernel_rfl
    case hr_8 => kernel_rfl
    case hQ_8 => exact fun _ _ _ h => h
    case hy_8 => (refine Or.inl ⟨by rfl, ?_⟩; intro w hSw; (try dsimp only at hSw); go_simp; try with_reducible rfl)
    case hS_8 => assumption
    try go_frame
    refine wpAnyH_take (i := 9) (v := ?_) (oi := ?_) ?hi_9 ?hs_9 ?hf_9 ?hr_9 ?hQ_9 ?hy_9 ?hS_9 ?h_9
    case hi_9 => (simp only [List.getElem?_toArray, List.getElem?_cons_zero, List.getElem?_cons_succ] <;> rfl)
    case hs_9 => kernel_rfl
    case hf_9 => kernel_rfl
    case hr_9 => kernel_rfl
    case hQ_9 => exact fun _ _ _ h => h
    case hy_9 => (refine Or.inl ⟨by rfl, ?_⟩; intro w hSw; (try dsimp only at hSw); go_simp; try with_reducible rfl)
    case hS_9 => assumption
    try go_frame
    refine wpAnyH_take (i := 10) (v := ?_) (oi := ?_) ?hi_10 ?hs_10 ?hf_10 ?hr_10 ?hQ_10 ?hy_10 ?hS_10 ?h_10
    case hi_10 => (simp only [List.getElem?_toArray, List.getElem?_cons_zero, List.getElem?_cons_succ] <;> rfl)
    case hs_10 => kernel_rfl
    case hf_10 => kernel_rfl
    case hr_10 => kernel_rfl
    case hQ_10 => exact fun _ _ _ h => h
    case hy_10 => (refine Or.inl ⟨by rfl, ?_⟩; intro w hSw; (try dsimp only at hSw); go_simp; try with_reducible rfl)
    case hS_10 => assumption
    try go_frame
    refine wpAnyH_ready (rs := [4, 11]) (by kernel_rfl) (by simp) ?_
    refine (AllReadyH.cons (o := ?_) ?hi_11 (fun K hK => ?h_11) (AllReadyH.cons (o := ?_) ?hi_12 (fun K hK => ?h_12) AllReadyH.nil))
    case hi_11 => (simp only [List.getElem?_toArray, List.getElem?_cons_zero, List.getElem?_cons_succ] <;> rfl)
    case hi_12 => (simp only [List.getElem?_toArray, List.getElem?_cons_zero, List.getElem?_cons_succ] <;> rfl)
    · skip
      go_simp
      refine hK.out _ _ ?_ (fun hHeld => ?_)
      · exact ⟨m0, m1⟩
      clear hK K
      try go_frame
      refine wpAnyH_ready (rs := [11]) (by kernel_rfl) (by simp) ?_
      refine AllReadyH.cons (o := ?_) ?hi_13 (fun K hK => ?h_13) AllReadyH.nil
      case hi_13 => (simp only [List.getElem?_toArray, List.getElem?_cons_zero, List.getElem?_cons_succ] <;> rfl)
      go_simp
      (refine (Hcl.out _ n2.drew).mono ?_; rintro e w3 ⟨vc, rfl, n3, o3⟩; obtain ⟨ac, cc, rfl, -, -⟩ := o3.shape; obtain ⟨hA, hAe⟩ : ∃ hA, hA = Obj.cells #[.string ⟨N.toArray⟩, .bool o.dir, .slice ac o.ids.length cc, .slice none 0 0] 69 := ⟨_, rfl⟩; obtain ⟨hB, hBe⟩ : ∃ hB, hB = Obj.cells #[.pointer (some ⟨w3.heap.size, 0, none⟩)] 63 := ⟨_, rfl⟩; have z3 := And.intro (n3.cell m0) (n3.cell m1); have a4 : New w3 (w3.alloc hA) := (New.refl w3).alloc hA; have a5 : New (w3.alloc hA) ((w3.alloc hA).alloc hB) := (New.refl _).alloc hB; have z4 := And.intro (a4.cell z3.1) (a4.cell z3.2); have z5 := And.intro (a5.cell z4.1) (a5.cell z4.2); have t3 := n3.cell k3; have t4 := a4.cell t3; have t5 := a5.cell t4; have hB5 : ((w3.alloc hA).alloc hB).cell? ⟨w3.heap.size + 1, 0, none⟩ = some (.pointer (some ⟨w3.heap.size, 0, none⟩)) := by { have h := cell_alloc (w3.alloc hA) #[.pointer (some ⟨w3.heap.size, 0, none⟩)] 63 0; rw [World.size_alloc] at h; rw [hBe]; exact h }; have q5 := (n2.drew.trans n3).trans (a4.trans a5); have hAe' := Lib.hid hAe; have hBe' := Lib.hid hBe; subst hAe; subst hBe; go_wp2_with fail)
      refine hK.out _ _ ?_ (fun hHeld => ?_)
      · exact z3
      clear hK K
      try go_frame
      refine wpAnyH_take (i := 12) (v := ?_) (oi := ?_) ?hi_14 ?hs_14 ?hf_14 ?hr_14 ?hQ_14 ?hy_14 ?hS_14 ?h_14
      case hi_14 => (simp only [List.getElem?_toArray, List.getElem?_cons_zero, List.getElem?_cons_succ] <;> rfl)
      case hs_14 => kernel_rfl
      case hf_14 => kernel_rfl
      case hr_14 => kernel_rfl
      case hQ_14 => exact fun _ _ _ h => h
      case hy_14 => (refine Or.inl ⟨by rfl, ?_⟩; intro w hSw; (try dsimp only at hSw); go_simp; try with_reducible rfl)
      case hS_14 => assumption
      try go_frame
      refine wpAnyH_ready (rs := [13]) (by kernel_rfl) (by simp) ?_
      refine AllReadyH.cons (o := ?_) ?hi_15 (fun K hK => ?h_15) AllReadyH.nil
      case hi_15 => (simp only [List.getElem?_toArray, List.getElem?_cons_zero, List.getElem?_cons_succ] <;> rfl)
      go_simp
      refine hK.out _ _ ?_ (fun hHeld => ?_)
      · exact z4
      clear hK K
      try go_frame
      refine wpAnyH_ready (rs := [14]) (by kernel_rfl) (by simp) ?_
      refine AllReadyH.cons (o := ?_) ?hi_16 (fun K hK => ?h_16) AllReadyH.nil
      case hi_16 => (simp only [List.getElem?_toArray, List.getElem?_cons_zero, List.getElem?_cons_succ] <;> rfl)
      go_simp
      refine hK.out _ _ ?_ (fun hHeld => ?_)
      · exact z5
      clear hK K
      try go_frame
      refine wpAnyH_ready (rs := [15]) (by kernel_rfl) (by simp) ?_
      refine AllReadyH.cons (o := ?_) ?hi_17 (fun K hK => ?h_17) AllReadyH.nil
      case hi_17 => (simp only [List.getElem?_toArray, List.getElem?_cons_zero, List.getElem?_cons_succ] <;> rfl)
      go_simp
      (refine (slInsertEnd (S := S) _ _ (ks.map fun k => .pointer (some ⟨b k, 0, none⟩)) _ w3.heap.size _ (Hrow.out.new q5) hks hB5).mono ?_; rintro e w6 ⟨v6, rfl, r6, c6⟩; obtain ⟨a6, cc6, rfl, -⟩ := r6.shape; have k6 := c6.cell t5 Hown.out; have f6 : w6.frozen? ⟨b KD, 3, none⟩ = false := by { simp [World.frozen?, c6.heap (q5.heap (Hpk.out ▸ Hcell.out _ (New.refl w))) Hown.out] }; have z6 := And.intro (c6.cell z5.1 (fun h => by { have := Hkl.out _ h; omega })) (c6.cell z5.2 (fun h => by { have := Hkl.out _ h; omega })); have z7 : (w6.setCell ⟨b KD, 3, none⟩ (.slice a6 (ks.length + 1) cc6)).cell? ⟨w.heap.size, 1, none⟩ = some (.bool o.dir) ∧ (w6.setCell ⟨b KD, 3, none⟩ (.slice a6 (ks.length + 1) cc6)).cell? ⟨w.heap.size, 2, none⟩ = some (.slice a o.ids.length c) := ⟨by { rw [World.cell?_setCell_other _ _ _ _ (by { intro e; injection e; omega })]; exact z6.1 }, by { rw [World.cell?_setCell_other _ _ _ _ (by { intro e; injection e; omega })]; exact z6.2 }⟩; go_wp2_with fail)
      refine hK.out _ _ ?_ (fun hHeld => ?_)
      · exact z6
      clear hK K
      try go_frame
      refine wpAnyH_take (i := 16) (v := ?_) (oi := ?_) ?hi_18 ?hs_18 ?hf_18 ?hr_18 ?hQ_18 ?hy_18 ?hS_18 ?h_18
      case hi_18 => (simp only [List.getElem?_toArray, List.getElem?_cons_zero, List.getElem?_cons_succ] <;> rfl)
      case hs_18 => kernel_rfl
      case hf_18 => kernel_rfl
      case hr_18 => kernel_rfl
      case hQ_18 => exact fun _ _ _ h => h
      case hy_18 => (refine Or.inl ⟨by rfl, ?_⟩; intro w hSw; (try dsimp only at hSw); go_simp; try with_reducible rfl)
      case hS_18 => assumption
      try go_frame
      refine wpAnyH_take (i := 17) (v := ?_) (oi := ?_) ?hi_19 ?hs_19 ?hf_19 ?hr_19 ?hQ_19 ?hy_19 ?hS_19 ?h_19
      case hi_19 => (simp only [List.getElem?_toArray, List.getElem?_cons_zero, List.getElem?_cons_succ] <;> rfl)
      case hs_19 => kernel_rfl
      case hf_19 => kernel_rfl
      case hr_19 => kernel_rfl
      case hQ_19 => exact fun _ _ _ h => h
      case hy_19 => (refine Or.inl ⟨by rfl, ?_⟩; intro w hSw; (try dsimp only at hSw); go_simp; try with_reducible rfl)
      case hS_19 => assumption
      try go_frame
      refine wpAnyH_ready (rs := [18]) (by kernel_rfl) (by simp) ?_
      refine AllReadyH.cons (o := ?_) ?hi_20 (fun K hK => ?h_20) AllReadyH.nil
      case hi_20 => (simp only [List.getElem?_toArray, List.getElem?_cons_zero, List.getElem?_cons_succ] <;> rfl)
      go_simp
      refine hK.out _ _ ?_ (fun hHeld => ?_)
      · exact z7
      clear hK K
      try go_frame
      refine wpAnyH_done (by kernel_rfl) ?_ _
      go_wp2_with fail
      go_ret
      have fin := grow_end (HF.out.new n2) HG.out hpd (Hvk.out.trans (by rw [Hpk.out])) (by rw [Hpk.out]; exact HKs.out) HN.out rfl (HK.out.trans Hpk.out.symm) Hlt.out ((New.refl w1).drew.trans n3) o3 rfl r6 c6
      rw [Hpk.out] at fin
      exact ⟨rfl, (n2.chg S).trans fin.1, by obtain ⟨-, b', u', kv', e, f⟩ := fin; exact ⟨b', e, u', kv', f.mono (fun j _ hj => hj.imp id (fun h => by omega))⟩⟩
    · skip
      go_simp
      (refine (Hcl.out _ n2.drew).mono ?_; rintro e w3 ⟨vc, rfl, n3, o3⟩; obtain ⟨ac, cc, rfl, -, -⟩ := o3.shape; obtain ⟨hA, hAe⟩ : ∃ hA, hA = Obj.cells #[.string ⟨N.toArray⟩, .bool o.dir, .slice ac o.ids.length cc, .slice none 0 0] 69 := ⟨_, rfl⟩; obtain ⟨hB, hBe⟩ : ∃ hB, hB = Obj.cells #[.pointer (some ⟨w3.heap.size, 0, none⟩)] 63 := ⟨_, rfl⟩; have z3 := And.intro (n3.cell m0) (n3.cell m1); have a4 : New w3 (w3.alloc hA) := (New.refl w3).alloc hA; have a5 : New (w3.alloc hA) ((w3.alloc hA).alloc hB) := (New.refl _).alloc hB; have z4 := And.intro (a4.cell z3.1) (a4.cell z3.2); have z5 := And.intro (a5.cell z4.1) (a5.cell z4.2); have t3 := n3.cell k3; have t4 := a4.cell t3; have t5 := a5.cell t4; have hB5 : ((w3.alloc hA).alloc hB).cell? ⟨w3.heap.size + 1, 0, none⟩ = some (.pointer (some ⟨w3.heap.size, 0, none⟩)) := by { have h := cell_alloc (w3.alloc hA) #[.pointer (some ⟨w3.heap.size, 0, none⟩)] 63 0; rw [World.size_alloc] at h; rw [hBe]; exact h }; have q5 := (n2.drew.trans n3).trans (a4.trans a5); have hAe' := Lib.hid hAe; have hBe' := Lib.hid hBe; subst hAe; subst hBe; go_wp2_with fail)
      refine hK.out _ _ ?_ (fun hHeld => ?_)
      · exact z3
      clear hK K
      try go_frame
      refine wpAnyH_take (i := 12) (v := ?_) (oi := ?_) ?hi_21 ?hs_21 ?hf_21 ?hr_21 ?hQ_21 ?hy_21 ?hS_21 ?h_21
      case hi_21 => (simp only [List.getElem?_toArray, List.getElem?_cons_zero, List.getElem?_cons_succ] <;> rfl)
      case hs_21 => kernel_rfl
      case hf_21 => kernel_rfl
      case hr_21 => kernel_rfl
      case hQ_21 => exact fun _ _ _ h => h
      case hy_21 => (refine Or.inl ⟨by rfl, ?_⟩; intro w hSw; (try dsimp only at hSw); go_simp; try with_reducible rfl)
      case hS_21 => assumption
      try go_frame
      refine wpAnyH_ready (rs := [4, 13]) (by kernel_rfl) (by simp) ?_
      refine (AllReadyH.cons (o := ?_) ?hi_22 (fun K hK => ?h_22) (AllReadyH.cons (o := ?_) ?hi_23 (fun K hK => ?h_23) AllReadyH.nil))
      case hi_22 => (simp only [List.getElem?_toArray, List.getElem?_cons_zero, List.getElem?_cons_succ] <;> rfl)
      case hi_23 => (simp only [List.getElem?_toArray, List.getElem?_cons_zero, List.getElem?_cons_succ] <;> rfl)
      · skip
        go_simp
        refine hK.out _ _ ?_ (fun hHeld => ?_)
        · exact z3
        clear hK K
        try go_frame
        refine wpAnyH_ready (rs := [13]) (by kernel_rfl) (by simp) ?_
        refine AllReadyH.cons (o := ?_) ?hi_24 (fun K hK => ?h_24) AllReadyH.nil
        case hi_24 => (simp only [List.getElem?_toArray, List.getElem?_cons_zero, List.getElem?_cons_succ] <;> rfl)
        go_simp
        refine hK.out _ _ ?_ (fun hHeld => ?_)
        · exact z4
        clear hK K
        try go_frame
        refine wpAnyH_ready (rs := [14]) (by kernel_rfl) (by simp) ?_
        refine AllReadyH.cons (o := ?_) ?hi_25 (fun K hK => ?h_25) AllReadyH.nil
        case hi_25 => (simp only [List.getElem?_toArray, List.getElem?_cons_zero, List.getElem?_cons_succ] <;> rfl)
        go_simp
        refine hK.out _ _ ?_ (fun hHeld => ?_)
        · exact z5
        clear hK K
        try go_frame
        refine wpAnyH_ready (rs := [15]) (by kernel_rfl) (by simp) ?_
        refine AllReadyH.cons (o := ?_) ?hi_26 (fun K hK => ?h_26) AllReadyH.nil
        case hi_26 => (simp only [List.getElem?_toArray, List.getElem?_cons_zero, List.getElem?_cons_succ] <;> rfl)
        go_simp
        (refine (slInsertEnd (S := S) _ _ (ks.map fun k => .pointer (some ⟨b k, 0, none⟩)) _ w3.heap.size _ (Hrow.out.new q5) hks hB5).mono ?_; rintro e w6 ⟨v6, rfl, r6, c6⟩; obtain ⟨a6, cc6, rfl, -⟩ := r6.shape; have k6 := c6.cell t5 Hown.out; have f6 : w6.frozen? ⟨b KD, 3, none⟩ = false := by { simp [World.frozen?, c6.heap (q5.heap (Hpk.out ▸ Hcell.out _ (New.refl w))) Hown.out] }; have z6 := And.intro (c6.cell z5.1 (fun h => by { have := Hkl.out _ h; omega })) (c6.cell z5.2 (fun h => by { have := Hkl.out _ h; omega })); have z7 : (w6.setCell ⟨b KD, 3, none⟩ (.slice a6 (ks.length + 1) cc6)).cell? ⟨w.heap.size, 1, none⟩ = some (.bool o.dir) ∧ (w6.setCell ⟨b KD, 3, none⟩ (.slice a6 (ks.length + 1) cc6)).cell? ⟨w.heap.size, 2, none⟩ = some (.slice a o.ids.length c) := ⟨by { rw [World.cell?_setCell_other _ _ _ _ (by { intro e; injection e; omega })]; exact z6.1 }, by { rw [World.cell?_setCell_other _ _ _ _ (by { intro e; injection e; omega })]; exact z6.2 }⟩; go_wp2_with fail)
        refine hK.out _ _ ?_ (fun hHeld => ?_)
        · exact z6
        clear hK K
        try go_frame
        refine wpAnyH_take (i := 16) (v := ?_) (oi := ?_) ?hi_27 ?hs_27 ?hf_27 ?hr_27 ?hQ_27 ?hy_27 ?hS_27 ?h_27
        case hi_27 => (simp only [List.getElem?_toArray, List.getElem?_cons_zero, List.getElem?_cons_succ] <;> rfl)
        case hs_27 => kernel_rfl
        case hf_27 => kernel_rfl
        case hr_27 => kernel_rfl
        case hQ_27 => exact fun _ _ _ h => h
        case hy_27 => (refine Or.inl ⟨by rfl, ?_⟩; intro w hSw; (try dsimp only at hSw); go_simp; try with_reducible rfl)
        case hS_27 => assumption
        try go_frame
        refine wpAnyH_take (i := 17) (v := ?_) (oi := ?_) ?hi_28 ?hs_28 ?hf_28 ?hr_28 ?hQ_28 ?hy_28 ?hS_28 ?h_28
        case hi_28 => (simp only [List.getElem?_toArray, List.getElem?_cons_zero, List.getElem?_cons_succ] <;> rfl)
        case hs_28 => kernel_rfl
        case hf_28 => kernel_rfl
        case hr_28 => kernel_rfl
        case hQ_28 => exact fun _ _ _ h => h
        case hy_28 => (refine Or.inl ⟨by rfl, ?_⟩; intro w hSw; (try dsimp only at hSw); go_simp; try with_reducible rfl)
        case hS_28 => assumption
        try go_frame
        refine wpAnyH_ready (rs := [18]) (by kernel_rfl) (by simp) ?_
        refine AllReadyH.cons (o := ?_) ?hi_29 (fun K hK => ?h_29) AllReadyH.nil
        case hi_29 => (simp only [List.getElem?_toArray, List.getElem?_cons_zero, List.getElem?_cons_succ] <;> rfl)
        go_simp
        refine hK.out _ _ ?_ (fun hHeld => ?_)
        · exact z7
        clear hK K
        try go_frame
        refine wpAnyH_done (by kernel_rfl) ?_ _
        go_wp2_with fail
        go_ret
        have fin := grow_end (HF.out.new n2) HG.out hpd (Hvk.out.trans (by rw [Hpk.out])) (by rw [Hpk.out]; exact HKs.out) HN.out rfl (HK.out.trans Hpk.out.symm) Hlt.out ((New.refl w1).drew.trans n3) o3 rfl r6 c6
        rw [Hpk.out] at fin
        exact ⟨rfl, (n2.chg S).trans fin.1, by obtain ⟨-, b', u', kv', e, f⟩ := fin; exact ⟨b', e, u', kv', f.mono (fun j _ hj => hj.imp id (fun h => by omega))⟩⟩
      · skip
        go_simp
        refine hK.out _ _ ?_ (fun hHeld => ?_)
        · exact z4
        clear hK K
        try go_frame
        refine wpAnyH_ready (rs := [4, 14]) (by kernel_rfl) (by simp) ?_
        refine (AllReadyH.cons (o := ?_) ?hi_30 (fun K hK => ?h_30) (AllReadyH.cons (o := ?_) ?hi_31 (fun K hK => ?h_31) AllReadyH.nil))
        case hi_30 => (simp only [List.getElem?_toArray, List.getElem?_cons_zero, List.getElem?_cons_succ] <;> rfl)
        case hi_31 => (simp only [List.getElem?_toArray, List.getElem?_cons_zero, List.getElem?_cons_succ] <;> rfl)
        · skip
          go_simp
          refine hK.out _ _ ?_ (fun hHeld => ?_)
          · exact z4
          clear hK K
          try go_frame
          refine wpAnyH_ready (rs := [14]) (by kernel_rfl) (by simp) ?_
          refine AllReadyH.cons (o := ?_) ?hi_32 (fun K hK => ?h_32) AllReadyH.nil
          case hi_32 => (simp only [List.getElem?_toArray, List.getElem?_cons_zero, List.getElem?_cons_succ] <;> rfl)
          go_simp
          refine hK.out _ _ ?_ (fun hHeld => ?_)
          · exact z5
          clear hK K
          try go_frame
          refine wpAnyH_ready (rs := [15]) (by kernel_rfl) (by simp) ?_
          refine AllReadyH.cons (o := ?_) ?hi_33 (fun K hK => ?h_33) AllReadyH.nil
          case hi_33 => (simp only [List.getElem?_toArray, List.getElem?_cons_zero, List.getElem?_cons_succ] <;> rfl)
          go_simp
          (refine (slInsertEnd (S := S) _ _ (ks.map fun k => .pointer (some ⟨b k, 0, none⟩)) _ w3.heap.size _ (Hrow.out.new q5) hks hB5).mono ?_; rintro e w6 ⟨v6, rfl, r6, c6⟩; obtain ⟨a6, cc6, rfl, -⟩ := r6.shape; have k6 := c6.cell t5 Hown.out; have f6 : w6.frozen? ⟨b KD, 3, none⟩ = false := by { simp [World.frozen?, c6.heap (q5.heap (Hpk.out ▸ Hcell.out _ (New.refl w))) Hown.out] }; have z6 := And.intro (c6.cell z5.1 (fun h => by { have := Hkl.out _ h; omega })) (c6.cell z5.2 (fun h => by { have := Hkl.out _ h; omega })); have z7 : (w6.setCell ⟨b KD, 3, none⟩ (.slice a6 (ks.length + 1) cc6)).cell? ⟨w.heap.size, 1, none⟩ = some (.bool o.dir) ∧ (w6.setCell ⟨b KD, 3, none⟩ (.slice a6 (ks.length + 1) cc6)).cell? ⟨w.heap.size, 2, none⟩ = some (.slice a o.ids.length c) := ⟨by { rw [World.cell?_setCell_other _ _ _ _ (by { intro e; injection e; omega })]; exact z6.1 }, by { rw [World.cell?_setCell_other _ _ _ _ (by { intro e; injection e; omega })]; exact z6.2 }⟩; go_wp2_with fail)
          refine hK.out _ _ ?_ (fun hHeld => ?_)
          · exact z6
          clear hK K
          try go_frame
          refine wpAnyH_take (i := 16) (v := ?_) (oi := ?_) ?hi_34 ?hs_34 ?hf_34 ?hr_34 ?hQ_34 ?hy_34 ?hS_34 ?h_34
          case hi_34 => (simp only [List.getElem?_toArray, List.getElem?_cons_zero, List.getElem?_cons_succ] <;> rfl)
          case hs_34 => kernel_rfl
          case hf_34 => kernel_rfl
          case hr_34 => kernel_rfl
          case hQ_34 => exact fun _ _ _ h => h
          case hy_34 => (refine Or.inl ⟨by rfl, ?_⟩; intro w hSw; (try dsimp only at hSw); go_simp; try with_reducible rfl)
          case hS_34 => assumption
          try go_frame
          refine wpAnyH_take (i := 17) (v := ?_) (oi := ?_) ?hi_35 ?hs_35 ?hf_35 ?hr_35 ?hQ_35 ?hy_35 ?hS_35 ?h_35
          case hi_35 => (simp only [List.getElem?_toArray, List.getElem?_cons_zero, List.getElem?_cons_succ] <;> rfl)
          case hs_35 => kernel_rfl
          case hf_35 => kernel_rfl
          case hr_35 => kernel_rfl
          case hQ_35 => exact fun _ _ _ h => h
          case hy_35 => (refine Or.inl ⟨by rfl, ?_⟩; intro w hSw; (try dsimp only at hSw); go_simp; try with_reducible rfl)
          case hS_35 => assumption
          try go_frame
          refine wpAnyH_ready (rs := [18]) (by kernel_rfl) (by simp) ?_
          refine AllReadyH.cons (o := ?_) ?hi_36 (fun K hK => ?h_36) AllReadyH.nil
          case hi_36 => (simp only [List.getElem?_toArray, List.getElem?_cons_zero, List.getElem?_cons_succ] <;> rfl)
          go_simp
          refine hK.out _ _ ?_ (fun hHeld => ?_)
          · exact z7
          clear hK K
          try go_frame
          refine wpAnyH_done (by kernel_rfl) ?_ _
          go_wp2_with fail
          go_ret
          have fin := grow_end (HF.out.new n2) HG.out hpd (Hvk.out.trans (by rw [Hpk.out])) (by rw [Hpk.out]; exact HKs.out) HN.out rfl (HK.out.trans Hpk.out.symm) Hlt.out ((New.refl w1).drew.trans n3) o3 rfl r6 c6
          rw [Hpk.out] at fin
          exact ⟨rfl, (n2.chg S).trans fin.1, by obtain ⟨-, b', u', kv', e, f⟩ := fin; exact ⟨b', e, u', kv', f.mono (fun j _ hj => hj.imp id (fun h => by omega))⟩⟩
        · skip
          go_simp
          refine hK.out _ _ ?_ (fun hHeld => ?_)
          · exact z5
          clear hK K
          try go_frame
          refine wpAnyH_ready (rs := [4]) (by kernel_rfl) (by simp) ?_
          refine AllReadyH.cons (o := ?_) ?hi_37 (fun K hK => ?h_37) AllReadyH.nil
          case hi_37 => (simp only [List.getElem?_toArray, List.getElem?_cons_zero, List.getElem?_cons_succ] <;> rfl)
          go_simp
          refine hK.out _ _ ?_ (fun hHeld => ?_)
          · exact z5
          clear hK K
          try go_frame
          refine wpAnyH_ready (rs := [15]) (by kernel_rfl) (by simp) ?_
          refine AllReadyH.cons (o := ?_) ?hi_38 (fun K hK => ?h_38) AllReadyH.nil
          case hi_38 => (simp only [List.getElem?_toArray, List.getElem?_cons_zero, List.getElem?_cons_succ] <;> rfl)
          go_simp
          (refine (slInsertEnd (S := S) _ _ (ks.map fun k => .pointer (some ⟨b k, 0, none⟩)) _ w3.heap.size _ (Hrow.out.new q5) hks hB5).mono ?_; rintro e w6 ⟨v6, rfl, r6, c6⟩; obtain ⟨a6, cc6, rfl, -⟩ := r6.shape; have k6 := c6.cell t5 Hown.out; have f6 : w6.frozen? ⟨b KD, 3, none⟩ = false := by { simp [World.frozen?, c6.heap (q5.heap (Hpk.out ▸ Hcell.out _ (New.refl w))) Hown.out] }; have z6 := And.intro (c6.cell z5.1 (fun h => by { have := Hkl.out _ h; omega })) (c6.cell z5.2 (fun h => by { have := Hkl.out _ h; omega })); have z7 : (w6.setCell ⟨b KD, 3, none⟩ (.slice a6 (ks.length + 1) cc6)).cell? ⟨w.heap.size, 1, none⟩ = some (.bool o.dir) ∧ (w6.setCell ⟨b KD, 3, none⟩ (.slice a6 (ks.length + 1) cc6)).cell? ⟨w.heap.size, 2, none⟩ = some (.slice a o.ids.length c) := ⟨by { rw [World.cell?_setCell_other _ _ _ _ (by { intro e; injection e; omega })]; exact z6.1 }, by { rw [World.cell?_setCell_other _ _ _ _ (by { intro e; injection e; omega })]; exact z6.2 }⟩; go_wp2_with fail)
          refine hK.out _ _ ?_ (fun hHeld => ?_)
          · exact z6
          clear hK K
          try go_frame
          refine wpAnyH_take (i := 16) (v := ?_) (oi := ?_) ?hi_39 ?hs_39 ?hf_39 ?hr_39 ?hQ_39 ?hy_39 ?hS_39 ?h_39
          case hi_39 => (simp only [List.getElem?_toArray, List.getElem?_cons_zero, List.getElem?_cons_succ] <;> rfl)
          case hs_39 => kernel_rfl
          case hf_39 => kernel_rfl
          case hr_39 => kernel_rfl
          case hQ_39 => exact fun _ _ _ h => h
          case hy_39 => (refine Or.inl ⟨by rfl, ?_⟩; intro w hSw; (try dsimp only at hSw); go_simp; try with_reducible rfl)
          case hS_39 => assumption
          try go_frame
          refine wpAnyH_take (i := 17) (v := ?_) (oi := ?_) ?hi_40 ?hs_40 ?hf_40 ?hr_40 ?hQ_40 ?hy_40 ?hS_40 ?h_40
          case hi_40 => (simp only [List.getElem?_toArray, List.getElem?_cons_zero, List.getElem?_cons_succ] <;> rfl)
          case hs_40 => kernel_rfl
          case hf_40 => kernel_rfl
          case hr_40 => kernel_rfl
          case hQ_40 => exact fun _ _ _ h => h
          case hy_40 => (refine Or.inl ⟨by rfl, ?_⟩; intro w hSw; (try dsimp only at hSw); go_simp; try with_reducible rfl)
          case hS_40 => assumption
          try go_frame
          refine wpAnyH_ready (rs := [18]) (by kernel_rfl) (by simp) ?_
          refine AllReadyH.cons (o := ?_) ?hi_41 (fun K hK => ?h_41) AllReadyH.nil
          case hi_41 => (simp only [List.getElem?_toArray, List.getElem?_cons_zero, List.getElem?_cons_succ] <;> rfl)
          go_simp
          refine hK.out _ _ ?_ (fun hHeld => ?_)
          · exact z7
          clear hK K
          try go_frame
          refine wpAnyH_done (by kernel_rfl) ?_ _
          go_wp2_with fail
          go_ret
          have fin := grow_end (HF.out.new n2) HG.out hpd (Hvk.out.trans (by rw [Hpk.out])) (by rw [Hpk.out]; exact HKs.out) HN.out rfl (HK.out.trans Hpk.out.symm) Hlt.out ((New.refl w1).drew.trans n3) o3 rfl r6 c6
          rw [Hpk.out] at fin
          exact ⟨rfl, (n2.chg S).trans fin.1, by obtain ⟨-, b', u', kv', e, f⟩ := fin; exact ⟨b', e, u', kv', f.mono (fun j _ hj => hj.imp id (fun h => by omega))⟩⟩
end Go.Proofs.YtkffejommncinaaDoor
