/- listIn, list, count: the items of a tree, as new memory. -/
import Derived.Test.YtkffejommncinaaDoorTreeA
import Derived.Test.YtkffejommncinaaDoorDirOf
import Derived.Test.YtkffejommncinaaDoorItemsA
import Derived.Deep.RegionHeld3
namespace Go.Proofs.YtkffejommncinaaDoor
open Go.RowKit

theorem Row.srcAll {e sz : Nat} {S : Nat → Prop} {w : World} {a : Option Addr} {n c : Nat} {us : List Value} (h : Row e sz S w (.slice a n c) n us) : Src w a n c sz us := by
  obtain ⟨a', c', hv, s1, s2, s3, s5⟩ := h.shape
  simp only [Value.slice.injEq] at hv
  obtain ⟨rfl, -, rfl⟩ := hv
  refine ⟨s3, fun e => ⟨?_, s5 e⟩, fun ad e j x hx => ?_⟩
  · have := s5 e; omega
  · have hp : 0 < n := by
      rcases Nat.eq_zero_or_pos n with h0 | h0
      · rw [h0, Nat.zero_mul] at s3
        rw [List.eq_nil_of_length_eq_zero s3] at hx; simp at hx
      · exact h0
    obtain ⟨g, cap, e1, -⟩ := h.head hp
    simp only [Value.slice.injEq] at e1
    obtain ⟨e1, -, rfl⟩ := e1
    rw [e1] at e h
    obtain rfl := Option.some.inj e
    rw [addr_add, Nat.zero_add]
    exact h.cellAt hx
/-- two lists of structs, one behind the other, the second's row left behind -/
theorem OwnRecs.join {e sz : Nat} {S T : Nat → Prop} {w w' : World} {v v' : Value} {n m : Nat} {fs gs : List Fld} {us ts : List Value} (h2 : Fields (fun j => S j ∧ v.ownBlock ≠ some j) w us fs) (hu : Fields T w ts gs)
    (h1 : Row e sz (fun k => v.ownBlock = some k ∨ k = w.heap.size) w' v' (n + m) (us ++ ts)) (g : Chg (fun k => v.ownBlock = some k) w w') (hS : ∀ j, v.ownBlock = some j → S j ∧ j < w.heap.size) (hT : ∀ j, S j → ¬ T j) :
    OwnRecs e sz (fun j => (S j ∧ j < w.heap.size) ∨ (T j ∧ j < w.heap.size) ∨ j = w.heap.size) w' v' (n + m) (fs ++ gs) := by
  refine ⟨us ++ ts, ?_, ?_⟩
  · exact h1.mono fun j _ hj => by
      rcases hj with hj | hj
      · exact .inl (hS j hj)
      · exact .inr (.inr hj)
  · have r := (Fields.append hu.old h2.old (fun j hj hT' => hT j hj.1.1 hT'.1)).chg g (fun j _ hj he => by
      rcases hj with hj | hj
      · exact hj.1.2 he
      · exact hT j (hS j he).1 hj.1)
    refine r.mono fun j hj hh => ?_
    have hlt : j < w.heap.size := by rcases hh with hh | hh <;> exact hh.2
    refine ⟨?_, fun e => ?_⟩
    · rcases hh with hh | hh
      · exact .inl ⟨hh.1.1, hh.2⟩
      · exact .inr (.inl ⟨hh.1, hh.2⟩)
    · rcases h1.2 j e with h | h
      · rcases hh with hh | hh
        · exact hh.1.2 h
        · exact hT j (hS j h).1 hh.1
      · omega
theorem itemFlds_append (a b : List ItemR) : itemFlds (a ++ b) = itemFlds a ++ itemFlds b := by simp [itemFlds]

theorem own_snoc {lo B : Nat} {w8 w9 : World} {v v' : Value} {os : List ItemR} {o : ItemR} {u : Value} {us : List Value}
    (r1 : Row 28 3 (fun j => lo ≤ j ∧ j < B) w8 v os.length us) (r2 : Fields (fun j => (lo ≤ j ∧ j < B) ∧ v.ownBlock ≠ some j) w8 us (itemFlds os))
    (x2 : OwnI (fun j => B ≤ j) w8 u o.ids) (hl : o.path.length ≤ maxLen)
    (q9 : Row 28 3 (fun j => v.ownBlock = some j ∨ w8.heap.size < j) w9 v' (os.length + 1) (us ++ [txt o.path, .bool o.dir, u])) (c9 : Chg (fun j => v.ownBlock = some j) w8 w9) (hB : lo ≤ B) (hz : B ≤ w8.heap.size) :
    OwnItems (fun j => lo ≤ j) w9 v' (os ++ [o]) := by
  have hv : ∀ j, v.ownBlock = some j → lo ≤ j ∧ j < B := fun j e => r1.2 j e
  have ft : Fields (fun j => B ≤ j) w8 [txt o.path, .bool o.dir, u] o.flds := ⟨⟨rfl, hl⟩, rfl, x2.mono (fun j _ hj => ⟨⟨hj, by simp [blk]⟩, by simp [blk]⟩), trivial⟩
  have os' := OwnRecs.snoc (S := fun j => lo ≤ j ∧ j < B) (T := fun j => B ≤ j) r2 ft q9 c9 (fun j hj => ⟨hv j hj, r1.lt j hj⟩) (fun j hj hT => by omega)
  unfold OwnItems
  rw [itemFlds_append, List.length_append, List.length_singleton, show itemFlds [o] = o.flds from by simp [itemFlds]]
  exact OwnRecs.mono os' (fun j hj hh => by rcases hh with hh | hh | hh <;> omega)
theorem own_join {lo B : Nat} {w8 w9 : World} {v v' : Value} {os ps : List ItemR} {us ts : List Value}
    (r1 : Row 28 3 (fun j => lo ≤ j ∧ j < B) w8 v os.length us) (r2 : Fields (fun j => (lo ≤ j ∧ j < B) ∧ v.ownBlock ≠ some j) w8 us (itemFlds os))
    (x2 : Fields (fun j => B ≤ j) w8 ts (itemFlds ps))
    (q9 : Row 28 3 (fun j => v.ownBlock = some j ∨ j = w8.heap.size) w9 v' (os.length + ps.length) (us ++ ts)) (c9 : Chg (fun j => v.ownBlock = some j) w8 w9) (hB : lo ≤ B) (hz : B ≤ w8.heap.size) :
    OwnItems (fun j => lo ≤ j) w9 v' (os ++ ps) := by
  have hv : ∀ j, v.ownBlock = some j → lo ≤ j ∧ j < B := fun j e => r1.2 j e
  have os' := OwnRecs.join (S := fun j => lo ≤ j ∧ j < B) (T := fun j => B ≤ j) r2 x2 q9 c9 (fun j hj => ⟨hv j hj, r1.lt j hj⟩) (fun j hj hT => by omega)
  unfold OwnItems
  rw [itemFlds_append, List.length_append]
  exact OwnRecs.mono os' (fun j hj hh => by rcases hh with hh | hh | hh <;> omega)

def stepI (ns : List Nd) (m : Nat) (start : List UInt8) (q : Key) : List ItemR := itemAt ns (start ++ nameOf q) q :: walkI ns m q (start ++ nameOf q ++ [47])

set_option maxRecDepth 4000 in
set_option maxHeartbeats 4000000 in
theorem nodeListStep {S : Nat → Prop} {w : World} {b : Key → Nat} {u kv : Key → Value} {ns : List Nd} (F : Forest S w b u kv ns) (G : Good ns) (hid : ∀ x ∈ ns, x.ids.length ≤ 1048576) {x : Nd} (hx : x ∈ ns) (m : Nat) (start : List UInt8) (hs : start.length ≤ 1000000)
    (hc : ((kidsOf ns x.key).flatMap (stepI ns m start)).length ≤ 1000)
    (IH : ∀ q ∈ kidsOf ns x.key, ∀ W, New w W → ∀ st : List UInt8, st.length ≤ start.length + 6 → Calls Tryd.prog 76 #[.pointer (some ⟨b q, 0, none⟩), txt st] W (ToItemsPost (walkI ns m q st) W)) :
    Calls Tryd.prog 76 #[.pointer (some ⟨b x.key, 0, none⟩), txt start] w (ToItemsPost ((kidsOf ns x.key).flatMap (stepI ns m start)) w) := by
  obtain ⟨-, -, -, d3, -, -⟩ := F.cells hx
  obtain ⟨ak, ck, hkv, s1, s2, -⟩ := (F.row x hx).shape
  have hkid := fun (W : World) (n : New w W) => (F.new n).kid hx hkv
  have hnd := fun (W : World) (n : New w W) (y : Nd) (hy : y ∈ ns) => (F.new n).cells hy
  have hbl := fun (y : Nd) (hy : y ∈ ns) => F.lt hy
  have hcl := fun (W : World) (n : New w W) (y : Nd) (hy : y ∈ ns) => slClone (u y.key) y.ids W (((F.new n).ids y hy).nums) (hid y hy)
  rw [hkv] at d3
  have hnode : ∀ q ∈ kidsOf ns x.key, ∃ y ∈ ns, y.key = q ∧ (nameOf q).length ≤ 5 := fun q hq => by
    obtain ⟨y, hy, rfl, -⟩ := mem_kids.1 hq
    exact ⟨y, hy, rfl, G.word y hy⟩
  have hnil : ToItemsPost [] w = ToItemsPost [] w := rfl
  have hitem := fun (y : Nd) (hy : y ∈ ns) (p : List UInt8) => itemAt_of G hy p
  unfold maxLen at s2
  have Hkid := Lib.hid hkid
  have Hnd := Lib.hid hnd
  have Hbl := Lib.hid hbl
  have Hcl := Lib.hid hcl
  have Hnode := Lib.hid hnode
  have Hitem := Lib.hid hitem
  unfold txt at IH ⊢
  have HIH := Lib.hid IH
  clear F hkv hkid hnd hbl hcl hnode hnil hitem IH
  generalize kidsOf ns x.key = ks at *
  generalize b x.key = bx at *
  clear G hid hx
  go_enter Tryd.func76, Tryd.ntmps76
  go_wp2_with fail
  go_loopg [5, 14] ks.length (fun gk s5 i wr => ∃ (k : Nat), gk = ks.length - k ∧ k ≤ ks.length ∧ i = .int .i64 k ∧ New w wr ∧ Hid (OwnItems (fun j => w.heap.size ≤ j) wr s5 ((ks.take k).flatMap (stepI ns m start))))
  case atStart => exact ⟨0, by omega, by omega, rfl, New.refl _, Lib.hid (OwnRecs.nil _ _ _ _)⟩
  case round =>
    obtain ⟨k, hgk, hk, rfl, hn, ho⟩ := hrel
    have Hgk := Lib.hid hgk
    clear hgk
    by_cases hlt : k < ks.length
    · obtain ⟨q, hq⟩ := get_of hlt
      obtain ⟨g, rfl, k1, k2⟩ := Hkid.out wr hn k q hq
      have hqm := List.mem_of_getElem? hq
      obtain ⟨y, hy, rfl, hwq⟩ := Hnode.out q hqm
      obtain ⟨c0, c1, c2, -, -, -⟩ := Hnd.out wr hn y hy
      have hby := Hbl.out y hy
      have hst : stepI ns m start y.key = ⟨start ++ nameOf y.key, y.dir, y.ids⟩ :: walkI ns m y.key (start ++ nameOf y.key ++ [47]) := by
        unfold stepI; rw [Hitem.out y hy]
      have htk : (ks.take (k + 1)).flatMap (stepI ns m start) = (ks.take k).flatMap (stepI ns m start) ++ stepI ns m start y.key := by
        obtain ⟨hk', e⟩ := List.getElem?_eq_some_iff.1 hq
        rw [List.take_succ_eq_append_getElem hk', e, List.flatMap_append]
        simp
      have hsplit : ks.flatMap (stepI ns m start) = (ks.take (k + 1)).flatMap (stepI ns m start) ++ (ks.drop (k + 1)).flatMap (stepI ns m start) := by
        rw [← List.flatMap_append, List.take_append_drop]
      have hlen : ((ks.take k).flatMap (stepI ns m start)).length + (1 + (walkI ns m y.key (start ++ nameOf y.key ++ [47])).length) ≤ 1000 := by
        have h1 := congrArg List.length hsplit
        rw [List.length_append, htk, List.length_append, hst, List.length_cons] at h1
        omega
      have hih := fun (W : World) (n : New w W) => HIH.out y.key hqm W n (start ++ nameOf y.key ++ [47]) (by simp; omega)
      have hcl := fun (W : World) (n : New w W) => Hcl.out W n y hy
      have hout := ho.out
      obtain ⟨us, r1, r2⟩ := OwnRecs.old hout
      obtain ⟨av, cv, rfl, x1, x2, -, -⟩ := r1.shape
      unfold maxLen at x2
      rw [hst] at htk
      have Htk := Lib.hid htk
      have hcat : (⟨start.toArray⟩ : ByteArray) ++ ⟨(nameOf y.key).toArray⟩ = ⟨(start ++ nameOf y.key).toArray⟩ := by
        apply ByteArray.ext
        simp
      have hcat2 : (⟨(start ++ nameOf y.key).toArray⟩ : ByteArray) ++ ⟨#[47]⟩ = ⟨(start ++ nameOf y.key ++ [47]).toArray⟩ := by
        apply ByteArray.ext
        simp
      have hpl : (start ++ nameOf y.key).length ≤ 1000005 := by simp; omega
      have hsum : ¬ (9223372036854775807 < start.length + (nameOf y.key).length) := by omega
      have hsum2 : ¬ (9223372036854775807 < (start ++ nameOf y.key).length + 1) := by omega
      unfold txt at c0 k2
      generalize hP : start ++ nameOf y.key = P at *
      generalize hN : nameOf y.key = N at *
      generalize hD : (ks.take k).flatMap (stepI ns m start) = D at *
      generalize hW : walkI ns m y.key (P ++ [47]) = WI at *
      obtain ⟨idl, hidl⟩ : ∃ t, u y.key = t := ⟨_, rfl⟩
      rw [hidl] at c2 hcl
      generalize hbk : b y.key = bk at *
      have Hih := Lib.hid hih
      have Hcl' := Lib.hid hcl
      have R1 := Lib.hid r1
      have R2 := Lib.hid r2
      have z0 := hn.size
      have hv : ∀ j, Value.ownBlock (.slice av D.length cv) = some j → w.heap.size ≤ j ∧ j < wr.heap.size := fun j e => r1.2 j e
      have Hv := Lib.hid hv
      obtain ⟨y0, ydir, yids⟩ := y
      simp only at *
      clear hq hqm hst hsplit hih hcl hout ho r1 r2 htk hN hD hW hidl hbk hy hP hv
      go_wp2_with fail
      have c1d : (wr.drewN 1).cell? ⟨bk, 1, none⟩ = some (.bool ydir) ∧ (wr.drewN 1).cell? ⟨bk, 2, none⟩ = some idl := ⟨c1, c2⟩
      refine wp_region_held_drew (S := (fun w' => w'.cell? ⟨bk, 1, none⟩ = some (.bool ydir) ∧ w'.cell? ⟨bk, 2, none⟩ = some idl)) (by kernel_rfl) ?_ (fun hHeld => ?_)
      · exact c1d
      refine wpAnyH_take (i := 0) (v := ?_) (oi := ?_) ?hi_1 ?hs_1 ?hf_1 ?hr_1 ?hQ_1 ?hy_1 ?hS_1 ?h_1
      case hi_1 => (simp only [List.getElem?_toArray, List.getElem?_cons_zero] <;> rfl)
      case hs_1 => kernel_rfl
      case hf_1 => kernel_rfl
      case hr_1 => kernel_rfl
      case hQ_1 => exact fun _ _ _ h => h
      case hy_1 => (refine Or.inl ⟨by rfl, ?_⟩; intro w hSw; (try dsimp only at hSw); go_simp; try with_reducible rfl)
      case hS_1 => assumption
      try go_frame
      refine wpAnyH_take (i := 1) (v := ?_) (oi := ?_) ?hi_2 ?hs_2 ?hf_2 ?hr_2 ?hQ_2 ?hy_2 ?hS_2 ?h_2
      case hi_2 => (simp only [List.getElem?_toArray, List.getElem?_cons_zero, List.getElem?_cons_succ] <;> rfl)
      case hs_2 => kernel_rfl
      case hf_2 => kernel_rfl
      case hr_2 => kernel_rfl
      case hQ_2 => exact fun _ _ _ h => h
      case hy_2 => (refine Or.inl ⟨by rfl, ?_⟩; intro w hSw; (try dsimp only at hSw); go_simp; try with_reducible rfl)
      case hS_2 => assumption
      try go_frame
      refine wpAnyH_take (i := 2) (v := ?_) (oi := ?_) ?hi_3 ?hs_3 ?hf_3 ?hr_3 ?hQ_3 ?hy_3 ?hS_3 ?h_3
      case hi_3 => (simp only [List.getElem?_toArray, List.getElem?_cons_zero, List.getElem?_cons_succ] <;> rfl)
      case hs_3 => kernel_rfl
      case hf_3 => kernel_rfl
      case hr_3 => kernel_rfl
      case hQ_3 => exact fun _ _ _ h => h
      case hy_3 => (refine Or.inl ⟨by rfl, ?_⟩; intro w hSw; (try dsimp only at hSw); go_simp; try with_reducible rfl)
      case hS_3 => assumption
      try go_frame
      refine wpAnyH_take (i := 3) (v := ?_) (oi := ?_) ?hi_4 ?hs_4 ?hf_4 ?hr_4 ?hQ_4 ?hy_4 ?hS_4 ?h_4
      case hi_4 => (simp only [List.getElem?_toArray, List.getElem?_cons_zero, List.getElem?_cons_succ] <;> rfl)
      case hs_4 => kernel_rfl
      case hf_4 => kernel_rfl
      case hr_4 => kernel_rfl
      case hQ_4 => exact fun _ _ _ h => h
      case hy_4 => (refine Or.inl ⟨by rfl, ?_⟩; intro w hSw; (try dsimp only at hSw); go_simp; try with_reducible rfl)
      case hS_4 => assumption
      try go_frame
      refine wpAnyH_take (i := 4) (v := ?_) (oi := ?_) ?hi_5 ?hs_5 ?hf_5 ?hr_5 ?hQ_5 ?hy_5 ?hS_5 ?h_5
      case hi_5 => (simp only [List.getElem?_toArray, List.getElem?_cons_zero, List.getElem?_cons_succ] <;> rfl)
      case hs_5 => kernel_rfl
      case hf_5 => kernel_rfl
      case hr_5 => kernel_rfl
      case hQ_5 => exact fun _ _ _ h => h
      case hy_5 => (refine Or.inl ⟨by rfl, ?_⟩; intro w hSw; (try dsimp only at hSw); go_simp; try with_reducible rfl)
      case hS_5 => assumption
      try go_frame
      refine wpAnyH_take (i := 5) (v := ?_) (oi := ?_) ?hi_6 ?hs_6 ?hf_6 ?hr_6 ?hQ_6 ?hy_6 ?hS_6 ?h_6
      case hi_6 => (simp only [List.getElem?_toArray, List.getElem?_cons_zero, List.getElem?_cons_succ] <;> rfl)
      case hs_6 => kernel_rfl
      case hf_6 => kernel_rfl
      case hr_6 => kernel_rfl
      case hQ_6 => exact fun _ _ _ h => h
      case hy_6 => (refine Or.inl ⟨by rfl, ?_⟩; intro w hSw; (try dsimp only at hSw); go_simp; try with_reducible rfl)
      case hS_6 => assumption
      try go_frame
      refine wpAnyH_take (i := 6) (v := ?_) (oi := ?_) ?hi_7 ?hs_7 ?hf_7 ?hr_7 ?hQ_7 ?hy_7 ?hS_7 ?h_7
      case hi_7 => (simp only [List.getElem?_toArray, List.getElem?_cons_zero, List.getElem?_cons_succ] <;> rfl)
      case hs_7 => kernel_rfl
      case hf_7 => kernel_rfl
      case hr_7 => kernel_rfl
      case hQ_7 => exact fun _ _ _ h => h
      case hy_7 => (refine Or.inl ⟨by rfl, ?_⟩; intro w hSw; (try dsimp only at hSw); go_simp; try with_reducible rfl)
      case hS_7 => assumption
      try go_frame
      refine wpAnyH_take (i := 7) (v := ?_) (oi := ?_) ?hi_8 ?hs_8 ?hf_8 ?hr_8 ?hQ_8 ?hy_8 ?hS_8 ?h_8
      case hi_8 => (simp only [List.getElem?_toArray, List.getElem?_cons_zero, List.getElem?_cons_succ] <;> rfl)
      case hs_8 => kernel_rfl
      case hf_8 => kernel_rfl
      case hr_8 => kernel_rfl
      case hQ_8 => exact fun _ _ _ h => h
      case hy_8 => (refine Or.inl ⟨by rfl, ?_⟩; intro w hSw; (try dsimp only at hSw); go_simp; try with_reducible rfl)
      case hS_8 => assumption
      try go_frame
      refine wpAnyH_take (i := 8) (v := ?_) (oi := ?_) ?hi_9 ?hs_9 ?hf_9 ?hr_9 ?hQ_9 ?hy_9 ?hS_9 ?h_9
      case hi_9 => (simp only [List.getElem?_toArray, List.getElem?_cons_zero, List.getElem?_cons_succ] <;> rfl)
      case hs_9 => kernel_rfl
      case hf_9 => kernel_rfl
      case hr_9 => kernel_rfl
      case hQ_9 => exact fun _ _ _ h => h
      case hy_9 => (refine Or.inl ⟨by rfl, ?_⟩; intro w hSw; (try dsimp only at hSw); go_simp; try with_reducible rfl)
      case hS_9 => assumption
      try go_frame
      refine wpAnyH_take (i := 9) (v := ?_) (oi := ?_) ?hi_10 ?hs_10 ?hf_10 ?hr_10 ?hQ_10 ?hy_10 ?hS_10 ?h_10
      case hi_10 => (simp only [List.getElem?_toArray, List.getElem?_cons_zero, List.getElem?_cons_succ] <;> rfl)
      case hs_10 => kernel_rfl
      case hf_10 => kernel_rfl
      case hr_10 => kernel_rfl
      case hQ_10 => exact fun _ _ _ h => h
      case hy_10 => (refine Or.inl ⟨by rfl, ?_⟩; intro w hSw; (try dsimp only at hSw); go_simp; try with_reducible rfl)
      case hS_10 => assumption
      try go_frame
      refine wpAnyH_ready (rs := [10]) (by kernel_rfl) (by simp) ?_
      refine AllReadyH.cons (o := ?_) ?hi_11 (fun K hK => ?h_11) AllReadyH.nil
      case hi_11 => (simp only [List.getElem?_toArray, List.getElem?_cons_zero, List.getElem?_cons_succ] <;> rfl)
      go_simp
      (refine (Hcl'.out _ (hn.trans ((New.refl _).drewN 1))).mono ?_; rintro e w3 ⟨v3, rfl, n3, o3⟩; obtain ⟨a3, d3x, rfl, -⟩ := o3.shape; have z3 := n3.size; go_wp2_with fail)
      refine hK.out _ _ ?_ (fun hHeld => ?_)
      · exact ⟨n3.cell c1d.1, n3.cell c1d.2⟩
      clear hK K
      try go_frame
      refine wpAnyH_take (i := 11) (v := ?_) (oi := ?_) ?hi_12 ?hs_12 ?hf_12 ?hr_12 ?hQ_12 ?hy_12 ?hS_12 ?h_12
      case hi_12 => (simp only [List.getElem?_toArray, List.getElem?_cons_zero, List.getElem?_cons_succ] <;> rfl)
      case hs_12 => kernel_rfl
      case hf_12 => kernel_rfl
      case hr_12 => kernel_rfl
      case hQ_12 => exact fun _ _ _ h => h
      case hy_12 => (refine Or.inl ⟨by rfl, ?_⟩; intro w hSw; (try dsimp only at hSw); go_simp; try with_reducible rfl)
      case hS_12 => assumption
      try go_frame
      refine wpAnyH_ready (rs := [12]) (by kernel_rfl) (by simp) ?_
      refine AllReadyH.cons (o := ?_) ?hi_13 (fun K hK => ?h_13) AllReadyH.nil
      case hi_13 => (simp only [List.getElem?_toArray, List.getElem?_cons_zero, List.getElem?_cons_succ] <;> rfl)
      go_simp
      refine hK.out _ _ ?_ (fun hHeld => ?_)
      · exact ⟨((New.refl w3).alloc _).cell (n3.cell c1d.1), ((New.refl w3).alloc _).cell (n3.cell c1d.2)⟩
      clear hK K
      try go_frame
      refine wpAnyH_ready (rs := [13]) (by kernel_rfl) (by simp) ?_
      refine (AllReadyH.cons (o := ?_) ?hi_14 (fun K hK => ?h_14) AllReadyH.nil)
      case hi_14 => (simp only [List.getElem?_toArray, List.getElem?_cons_zero, List.getElem?_cons_succ] <;> rfl)
      have hdz : (wr.drewN 1).heap.size = wr.heap.size := rfl
      refine stepRow_appendRec slItem _ _ rfl rfl (.slice av D.length cv) D.length us [.string ⟨P.toArray⟩, .bool ydir, .slice a3 yids.length d3x] 28 rfl ((R1.out.new ((New.refl wr).drewN 1)).new n3) rfl (by intro u hu; simp at hu; rcases hu with rfl | rfl | rfl <;> rfl) rfl (by omega) (by decide) ?_
      intro v4 w4 q4 c4
      refine hK.out _ _ ?_ (fun hHeld => ?_)
      · exact ⟨c4.cell (n3.cell c1d.1) (fun e => by have := Hv.out _ e; omega), c4.cell (n3.cell c1d.2) (fun e => by have := Hv.out _ e; omega)⟩
      clear hK K
      try go_frame
      refine wpAnyH_take (i := 14) (v := ?_) (oi := ?_) ?hi_15 ?hs_15 ?hf_15 ?hr_15 ?hQ_15 ?hy_15 ?hS_15 ?h_15
      case hi_15 => (simp only [List.getElem?_toArray, List.getElem?_cons_zero, List.getElem?_cons_succ] <;> rfl)
      case hs_15 => kernel_rfl
      case hf_15 => kernel_rfl
      case hr_15 => kernel_rfl
      case hQ_15 => exact fun _ _ _ h => h
      case hy_15 => (refine Or.inl ⟨by rfl, ?_⟩; intro w hSw; (try dsimp only at hSw); go_simp; try with_reducible rfl)
      case hS_15 => assumption
      try go_frame
      refine wpAnyH_done (by kernel_rfl) ?_ _
      have o4 := own_snoc (o := ⟨P, ydir, yids⟩) ((R1.out.new ((New.refl wr).drewN 1)).new n3) ((R2.out.new ((New.refl wr).drewN 1)).new n3) (OwnI.of o3) (by show P.length ≤ maxLen; unfold maxLen; omega) q4 c4 (by omega) (by omega)
      have n4 : New w w4 := ((hn.drewN 1).trans n3).trans_chg c4 (fun j hj e => by have := Hv.out _ e; omega)
      clear o3 q4 c4 n3 c1d R1 R2 Hcl' Hv hcat hsum
      go_wp2_with fail
      refine (Hih.out _ n4).mono ?_
      rintro e w5 ⟨v5, rfl, o5, n5⟩
      have o45 := OwnRecs.new (OwnRecs.old o4) n5
      obtain ⟨us4, r4, f4⟩ := o45
      obtain ⟨us5, r5, f5⟩ := o5
      obtain ⟨a4, c4, rfl, y1, y2, -, -⟩ := r4.shape
      obtain ⟨a5, c5, rfl, y3, y4, -, -⟩ := r5.shape
      unfold maxLen at y2 y4
      have hone := f5.reads.one
      have src := r5.srcAll
      have z4 := n4.size
      have z5 := n5.size
      have Hone := Lib.hid hone
      have Src := Lib.hid src
      have R4 := Lib.hid r4
      have F4 := Lib.hid f4
      have F5 := Lib.hid f5
      have hdl : (D ++ [(⟨P, ydir, yids⟩ : ItemR)]).length = D.length + 1 := by simp
      have n45 := n4.trans n5
      clear hone src r4 f4 r5 f5 o4 n4 n5
      generalize hD2 : D ++ [(⟨P, ydir, yids⟩ : ItemR)] = D2 at *
      have HD2 := Lib.hid hD2
      clear hD2
      go_wp2_with first
        | (at_builtin
           refine wpRow_append slItem _ _ rfl rfl (.slice a4 (D.length + 1) c4) (D.length + 1) us4 rfl (hdl ▸ R4.out) a5 WI.length c5 us5 rfl Src.out Hone.out (by unfold maxLen; omega) (by omega) ?_
           intro v8 w8 q8 c8)
        | fail
      rw [← hdl] at q8 c8
      have o8 := own_join R4.out F4.out (F5.out.mono (fun j _ hj => hj.1)) q8 c8 z4 z5
      have n8 : New w w8 := n45.trans_chg c8 (fun j hj e => by have := (R4.out.2 _ e).1; omega)
      go_roundg (ks.length - (k + 1))
      case measure => rw [Hgk.out]; omega
      case rel =>
        refine ⟨k + 1, rfl, by omega, by go_num, n8, Lib.hid ?_⟩
        rw [Htk.out, show D ++ (⟨P, ydir, yids⟩ : ItemR) :: WI = (D ++ [(⟨P, ydir, yids⟩ : ItemR)]) ++ WI from by simp, HD2.out]
        exact o8
    · have ek : ks.take k = ks := List.take_of_length_le (by omega)
      rw [ek] at ho
      have ho' := ho.out
      obtain ⟨av, cv, rfl, -⟩ := OwnRecs.shape ho'
      clear ek ho'
      go_wp2_with fail
      go_ret
      exact ⟨_, rfl, ho.out, hn⟩
end Go.Proofs.YtkffejommncinaaDoor
