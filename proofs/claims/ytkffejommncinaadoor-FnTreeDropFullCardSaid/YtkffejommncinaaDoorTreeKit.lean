/- Small things that the trees' texts use: texts written into fields, a cell of a row of numbers, slices.Clone. -/
import Derived.Test.YtkffejommncinaaDoorSz
import Derived.Test.YtkffejommncinaaDoorMarkText
import Derived.Test.YtkffejommncinaaDoorRecsPut
import Derived.Test.YtkffejommncinaaDoorRecsRow
namespace Go.Proofs.YtkffejommncinaaDoor
open Go.RowKit

theorem OwnRecs.putTxt {e sz : Nat} {S : Nat → Prop} {w : World} {b c n i : Nat} {fs : List Fld} {x y : List UInt8} (h : OwnRecs e sz S w (.slice (some ⟨b, 0, none⟩) n c) n fs) (hf : fs[i]? = some (.txt x)) (hy : y.length ≤ maxLen) :
    OwnRecs e sz S (w.setCell ⟨b, i, none⟩ (txt y)) (.slice (some ⟨b, 0, none⟩) n c) n (fs.set i (.txt y)) := by
  obtain ⟨us, h1, h2⟩ := h
  obtain ⟨u, hu, ho⟩ := h2.get hf
  refine ⟨us.set i (txt y), h1.set i _, ?_⟩
  have h3 := h2.chg (chg_set1 w b i (txt y)) (fun j _ hj e => hj.2 (by rw [e]; rfl))
  exact Fields.put (f := .txt x) (f' := .txt y) (T := fun _ => False) (Chg.refl _ _) (fun _ h => h.elim) (fun j hj => by simp [blk] at hj) h3 hu hf (fun S' _ => ⟨rfl, hy⟩)
theorem markT_len {k : Int} (hk : k ≤ 1152921504606846976) : (markT k).length ≤ maxLen := by
  have h : (decs k.toNat).length ≤ 19 := decs_len 18 k.toNat (by
    have : k.toNat ≤ 1152921504606846976 := by omega
    omega)
  unfold markT maxLen
  rw [List.length_cons]; omega
theorem OwnRecs.putBool {e sz : Nat} {S : Nat → Prop} {w : World} {b c n i : Nat} {fs : List Fld} {x y : Bool} (h : OwnRecs e sz S w (.slice (some ⟨b, 0, none⟩) n c) n fs) (hf : fs[i]? = some (.bool x)) :
    OwnRecs e sz S (w.setCell ⟨b, i, none⟩ (.bool y)) (.slice (some ⟨b, 0, none⟩) n c) n (fs.set i (.bool y)) := by
  obtain ⟨us, h1, h2⟩ := h
  obtain ⟨u, hu, ho⟩ := h2.get hf
  refine ⟨us.set i (.bool y), h1.set i _, ?_⟩
  have h3 := h2.chg (chg_set1 w b i (.bool y)) (fun j _ hj e => hj.2 (by rw [e]; rfl))
  exact Fields.put (f := .bool x) (f' := .bool y) (T := fun _ => False) (Chg.refl _ _) (fun _ h => h.elim) (fun j hj => by simp [blk] at hj) h3 hu hf (fun S' _ => rfl)
theorem cell_alloc (w : World) (c : Array Value) (e : TypeId) (i : Nat) : (w.alloc (.cells c e)).cell? ⟨w.heap.size, i, none⟩ = c[i]? := by
  simp only [World.cell?, heap_alloc_new]
  rfl

theorem Ints.cellAt {S : Nat → Prop} {w : World} {a : Option Addr} {n c : Nat} {xs : List Int} (h : Ints S w (.slice a n c) xs) {i : Nat} {x : Int} (hx : xs[i]? = some x) : ∃ b off, a = some ⟨b, off, none⟩ ∧ w.cell? ⟨b, off + i, none⟩ = some (.int .i64 x) := by
  obtain ⟨a', c', e, -, -, -, h4⟩ := h
  simp only [Value.slice.injEq] at e
  obtain ⟨rfl, -, -⟩ := e
  rcases h4 with rfl | ⟨b, off, rfl, -, -, hc⟩
  · simp at hx
  · exact ⟨b, off, rfl, hc i x hx⟩

set_option maxRecDepth 4000 in
set_option maxHeartbeats 400000 in
theorem slClone {S : Nat → Prop} (v : Value) (xs : List Int) (w : World) (h : Ints S w v xs) (hl : xs.length ≤ 1048576) :
    Calls Tryd.prog 79 #[v] w fun e w' => ∃ v', e = .returned v' ∧ New w w' ∧ OwnInts 3 (fun k => w.heap.size ≤ k) w' v' xs := by
  have h0 := h
  obtain ⟨a, c, rfl, h1, ⟨h2, h2'⟩, h3, h4⟩ := h
  unfold maxLen at h2
  rcases a with _ | ad
  · obtain rfl := h2' rfl
    obtain rfl : xs = [] := List.eq_nil_of_length_eq_zero (by omega)
    have hnil : (binOp .eql 26 (.slice none 0 0) (.slice none 0 0)).run Tryd.prog w = .ok (.bool true) w := by kernel_rfl
    go_enter Tryd.func79, Tryd.ntmps79
    go_wp2_with fail
    go_ret
    exact ⟨_, rfl, New.refl _, OwnNums.nil _ _ _ _⟩
  · clear h4
    have hnil : ∀ n : Nat, (binOp .eql 26 (.slice (some ad) n c) (.slice none 0 0)).run Tryd.prog w = .ok (.bool false) w := fun n => by kernel_rfl
    go_enter Tryd.func79, Tryd.ntmps79
    go_wp2_with first
      | fail
      | (refine wpRow_append slInt _ _ rfl rfl (.slice (some ⟨w.heap.size, 0, none⟩) 0 0) 0 [] rfl (Row.empty 3 1 w) (some ad) xs.length c (xs.map (Value.int .i64)) rfl (Nums.src (h0.new ((New.refl _).alloc _))) (oneCells _ _) ?_ ?_ ?_
         · unfold maxLen; omega
         · omega
         intro v1 w1 o1 c1)
    go_ret
    rw [Nat.zero_add, List.nil_append] at o1
    refine ⟨_, rfl, ((New.refl _).alloc _).trans_chg c1 (fun j hj e => by have e' := own_some e; simp only at e'; omega), ⟨o1.mono (fun j _ hj => ?_), h3⟩⟩
    rcases hj with hj | hj
    · have e' := own_some hj; simp only at e'; omega
    · simp at hj; omega

end Go.Proofs.YtkffejommncinaaDoor
