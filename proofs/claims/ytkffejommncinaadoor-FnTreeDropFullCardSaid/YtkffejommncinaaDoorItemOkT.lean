/- A valid item: the program's itemValid, the reference's l5Item. -/
import Derived.Test.YtkffejommncinaaDoorItemT
import Derived.Test.YtkffejommncinaaDoorPath2
import Derived.Test.YtkffejommncinaaDoorTreeKit
namespace Go.Proofs.YtkffejommncinaaDoor
open Go.RowKit

def idsIn (xs : List Int) : Bool := xs.all fun i => inB i 1 99
def itemOk (o : ItemR) : Bool := pathOk o.path && decide (o.ids.length ≤ 4) && (!o.dir || o.ids.isEmpty) && idsIn o.ids
theorem idsIn_cons (x : Int) (r : List Int) : idsIn (x :: r) = (inB x 1 99 && idsIn r) := by simp [idsIn]

set_option maxRecDepth 4000 in
set_option maxHeartbeats 1000000 in
theorem implItem {S : Nat → Prop} (o : ItemR) (u : Value) (w : World) (h : Ints S w u o.ids) (hp : o.path.length ≤ 1048576) :
    Calls Tryd.prog 51 #[.agg #[txt o.path, .bool o.dir, u]] w fun e w' => e = .returned (.bool (itemOk o)) ∧ New w w' := by
  obtain ⟨l, d, xs⟩ := o
  simp only at h hp ⊢
  unfold txt
  have hn : ∀ (W : World) (o : Obj), New W (W.alloc o) := fun W o => (New.refl W).alloc o
  have Hn := Lib.hid hn
  have hps : (⟨l.toArray⟩ : ByteArray).size ≤ 1048576 := by show l.toArray.size ≤ _; simpa using hp
  have cp := fun (W : World) => implPath ⟨l.toArray⟩ W (by omega)
  rw [show (⟨l.toArray⟩ : ByteArray).data.toList = l from rfl] at cp
  have hg := fun (W : World) (n : New w W) => h.new n
  have Hg := Lib.hid hg
  obtain ⟨a, c, rfl, h1, ⟨h2, -⟩, -, -⟩ := h
  unfold maxLen at h2
  clear hn hg
  rcases hpo : pathOk l with _ | _
  · have hr : itemOk ⟨l, d, xs⟩ = false := by simp [itemOk, hpo]
    rw [hpo] at cp
    have Cp := Lib.hid cp
    rw [hr]
    clear cp hr hpo
    go_enter Tryd.func51, Tryd.ntmps51
    go_wp2_with fail
    refine (Cp.out _).mono ?_
    rintro e w1 ⟨rfl, n1⟩
    have n2 := (Hn.out w _).trans n1
    go_wp2_with fail
    go_ret
    exact ⟨rfl, n2⟩
  · rw [hpo] at cp
    have Cp := Lib.hid cp
    by_cases hl4 : 4 < xs.length
    · have hr : itemOk ⟨l, d, xs⟩ = false := by simp [itemOk, hpo]; omega
      rw [hr]
      have hl4' : (4 : Int) < (xs.length : Int) := by omega
      clear cp hr hpo
      go_enter Tryd.func51, Tryd.ntmps51
      go_wp2_with fail
      refine (Cp.out _).mono ?_
      rintro e w1 ⟨rfl, n1⟩
      have b1 : w1.heap[w.heap.size]? = _ := n1.heap (heap_alloc_new w _)
      have c2 : w1.cell? ⟨w.heap.size, 2, none⟩ = some (.slice a xs.length c) := by simp [World.cell?, b1]
      have n2 := (Hn.out w _).trans n1
      clear b1 n1
      go_wp2_with fail
      go_ret
      exact ⟨rfl, n2⟩
    · have hl4' : ¬ (4 : Int) < (xs.length : Int) := by omega
      by_cases hd : d = true ∧ 0 < xs.length
      · obtain ⟨rfl, hx0⟩ := hd
        have hr : itemOk ⟨l, true, xs⟩ = false := by
          have : xs.isEmpty = false := by rw [List.isEmpty_eq_false_iff]; intro e; subst e; simp at hx0
          simp [itemOk, this]
        rw [hr]
        have hx0' : (0 : Int) < (xs.length : Int) := by omega
        clear cp hr hpo
        go_enter Tryd.func51, Tryd.ntmps51
        go_wp2_with fail
        refine (Cp.out _).mono ?_
        rintro e w1 ⟨rfl, n1⟩
        have b1 : w1.heap[w.heap.size]? = _ := n1.heap (heap_alloc_new w _)
        have c1 : w1.cell? ⟨w.heap.size, 1, none⟩ = some (.bool true) := by simp [World.cell?, b1]
        have c2 : w1.cell? ⟨w.heap.size, 2, none⟩ = some (.slice a xs.length c) := by simp [World.cell?, b1]
        have n2 := (Hn.out w _).trans n1
        clear b1 n1
        go_wp2_with fail
        go_ret
        exact ⟨rfl, n2⟩
      · have hr : itemOk ⟨l, d, xs⟩ = idsIn xs := by
          have h4 : decide (xs.length ≤ 4) = true := by simp; omega
          have h5 : (!d || xs.isEmpty) = true := by
            rcases d with _ | _
            · rfl
            · have : ¬ 0 < xs.length := fun h => hd ⟨rfl, h⟩
              have : xs = [] := List.eq_nil_of_length_eq_zero (by omega)
              simp [this]
          simp [itemOk, hpo, h4, h5]
        rw [hr]
        have hdd : d = false ∨ (d = true ∧ ¬ (0 : Int) < (xs.length : Int)) := by
          rcases d with _ | _
          · exact .inl rfl
          · exact .inr ⟨rfl, fun h => hd ⟨rfl, by omega⟩⟩
        clear cp hr hpo hd
        rcases hdd with rfl | ⟨rfl, hx0⟩
        · go_enter Tryd.func51, Tryd.ntmps51
          go_wp2_with fail
          refine (Cp.out _).mono ?_
          rintro e w1 ⟨rfl, n1⟩
          have b1 : w1.heap[w.heap.size]? = _ := n1.heap (heap_alloc_new w _)
          have c1 : w1.cell? ⟨w.heap.size, 1, none⟩ = some (.bool false) := by simp [World.cell?, b1]
          have c2 : w1.cell? ⟨w.heap.size, 2, none⟩ = some (.slice a xs.length c) := by simp [World.cell?, b1]
          have n2 := (Hn.out w _).trans n1
          clear b1 n1
          go_wp2_with fail
          go_loopg [28] xs.length (fun gk i wr => ∃ k : Nat, gk = xs.length - k ∧ k ≤ xs.length ∧ i = .int .i64 k ∧ w1 = wr ∧ idsIn xs = idsIn (xs.drop k))
          case atStart => exact ⟨0, rfl, Nat.zero_le _, rfl, rfl, rfl⟩
          case round =>
            obtain ⟨k, hgk, hk, rfl, rfl, he⟩ := hrel
            have Hgk := Lib.hid hgk
            have He := Lib.hid he
            clear hgk he
            by_cases hlt : k < xs.length
            · obtain ⟨x, hx⟩ := get_of hlt
              obtain ⟨b', off, rfl, kx⟩ := Ints.cellAt (Hg.out _ n2) hx
              have hd2 := He.out
              rw [drop_of hx, idsIn_cons] at hd2
              by_cases hb1 : x < 1
              · have hf : idsIn xs = false := by rw [hd2]; simp [inB]; omega
                have Hf := Lib.hid hf
                clear hf hd2 hx
                go_wp2_with fail
                go_ret
                exact ⟨ret_bool Hf.out.symm, n2⟩
              · by_cases hb2 : 99 < x
                · have hf : idsIn xs = false := by rw [hd2]; simp [inB]; omega
                  have Hf := Lib.hid hf
                  clear hf hd2 hx
                  go_wp2_with fail
                  go_ret
                  exact ⟨ret_bool Hf.out.symm, n2⟩
                · have hf : idsIn xs = idsIn (xs.drop (k + 1)) := by
                    have hin : inB x 1 99 = true := by simp [inB]; omega
                    rw [hd2, hin, Bool.true_and]
                  have Hf := Lib.hid hf
                  clear hf hd2 hx
                  go_wp2_with fail
                  go_roundg (xs.length - (k + 1))
                  case measure => rw [Hgk.out]; omega
                  case rel => exact ⟨k + 1, rfl, by omega, by go_num, rfl, Hf.out⟩
            · have hf : idsIn xs = true := by rw [He.out, drop_end hlt]; rfl
              have Hf := Lib.hid hf
              clear hf
              go_wp2_with fail
              go_ret
              exact ⟨ret_bool Hf.out.symm, n2⟩
        · obtain rfl : xs = [] := List.eq_nil_of_length_eq_zero (by omega)
          have he : idsIn [] = true := rfl
          rw [he]
          simp only [List.length_nil] at h1 hl4 hl4' hx0 ⊢
          go_enter Tryd.func51, Tryd.ntmps51
          go_wp2_with fail
          refine (Cp.out _).mono ?_
          rintro e w1 ⟨rfl, n1⟩
          have b1 : w1.heap[w.heap.size]? = _ := n1.heap (heap_alloc_new w _)
          have c1 : w1.cell? ⟨w.heap.size, 1, none⟩ = some (.bool true) := by simp [World.cell?, b1]
          have c2 : w1.cell? ⟨w.heap.size, 2, none⟩ = some (.slice a 0 c) := by simp [World.cell?, b1]
          have n2 := (Hn.out w _).trans n1
          clear b1 n1
          go_wp2_with fail
          go_loopg [28] 0 (fun gk i wr => i = .int .i64 0 ∧ w1 = wr)
          case atStart => exact ⟨rfl, rfl⟩
          case round =>
            obtain ⟨rfl, rfl⟩ := hrel
            go_wp2_with fail
            go_ret
            exact ⟨rfl, n2⟩

set_option maxRecDepth 4000 in
set_option maxHeartbeats 1000000 in
theorem specItem {S : Nat → Prop} (o : ItemR) (u : Value) (w : World) (h : Ints S w u o.ids) (hp : o.path.length ≤ 1048576) :
    Calls Tryd.prog 53 #[.agg #[txt o.path, .bool o.dir, u]] w fun e w' => e = .returned (.bool (itemOk o)) ∧ New w w' := by
  obtain ⟨l, d, xs⟩ := o
  simp only at h hp ⊢
  unfold txt
  have hps : (⟨l.toArray⟩ : ByteArray).size ≤ 1048576 := by show l.toArray.size ≤ _; simpa using hp
  have cp := fun (W : World) => specPath ⟨l.toArray⟩ W (by omega)
  rw [show (⟨l.toArray⟩ : ByteArray).data.toList = l from rfl] at cp
  have Cp := Lib.hid cp
  have hg := fun (W : World) (n : New w W) => h.new n
  have Hg := Lib.hid hg
  obtain ⟨a, c, rfl, h1, ⟨h2, -⟩, -, -⟩ := h
  unfold maxLen at h2
  have n0 : New w (w.alloc (.cells #[.string ⟨l.toArray⟩, .bool d, .slice a xs.length c] 28)) := (New.refl w).alloc _
  have hce : decide (xs.length ≤ 4) = decide ((xs.length : Int) ≤ 4) := decide_eq_decide.2 (by omega)
  have Hce := Lib.hid hce
  clear cp hg hce
  by_cases hd : d = true ∧ 0 < xs.length
  · obtain ⟨rfl, hx0⟩ := hd
    have hr : itemOk ⟨l, true, xs⟩ = false := by
      have : xs.isEmpty = false := by rw [List.isEmpty_eq_false_iff]; intro e; subst e; simp at hx0
      simp [itemOk, this]
    rw [hr]
    have hx0' : (0 : Int) < (xs.length : Int) := by omega
    have k1 : (w.alloc (.cells #[.string ⟨l.toArray⟩, .bool true, .slice a xs.length c] 28)).cell? ⟨w.heap.size, 1, none⟩ = some (.bool true) := by rw [cell_alloc]; rfl
    have k2 : (w.alloc (.cells #[.string ⟨l.toArray⟩, .bool true, .slice a xs.length c] 28)).cell? ⟨w.heap.size, 2, none⟩ = some (.slice a xs.length c) := by rw [cell_alloc]; rfl
    clear hr
    go_enter Tryd.func53, Tryd.ntmps53
    go_wp2_with fail
    generalize w.alloc (.cells #[.string ⟨l.toArray⟩, .bool true, .slice a xs.length c] 28) = w1 at *
    go_loopg [3] 0 (fun gk i wr => i = .int .i64 0 ∧ w1 = wr)
    case atStart => exact ⟨rfl, rfl⟩
    case round =>
      obtain ⟨rfl, rfl⟩ := hrel
      go_wp2_with fail
      go_ret
      exact ⟨rfl, n0⟩
  · have hr : itemOk ⟨l, d, xs⟩ = (idsIn xs && (pathOk l && decide ((xs.length : Int) ≤ 4))) := by
      have h5 : (!d || xs.isEmpty) = true := by
        rcases d with _ | _
        · rfl
        · have : ¬ 0 < xs.length := fun h => hd ⟨rfl, h⟩
          have : xs = [] := List.eq_nil_of_length_eq_zero (by omega)
          simp [this]
      rw [← Hce.out]
      simp only [itemOk, h5, Bool.and_true]
      rw [Bool.and_comm]
    rw [hr]
    have k0 : (w.alloc (.cells #[.string ⟨l.toArray⟩, .bool d, .slice a xs.length c] 28)).cell? ⟨w.heap.size, 0, none⟩ = some (.string ⟨l.toArray⟩) := by rw [cell_alloc]; rfl
    have k1 : (w.alloc (.cells #[.string ⟨l.toArray⟩, .bool d, .slice a xs.length c] 28)).cell? ⟨w.heap.size, 1, none⟩ = some (.bool d) := by rw [cell_alloc]; rfl
    have k2 : (w.alloc (.cells #[.string ⟨l.toArray⟩, .bool d, .slice a xs.length c] 28)).cell? ⟨w.heap.size, 2, none⟩ = some (.slice a xs.length c) := by rw [cell_alloc]; rfl
    have hdd : ∀ k, k < xs.length → d = false := fun k hk => by
      rcases d with _ | _
      · rfl
      · exact absurd ⟨rfl, by omega⟩ hd
    have Hdd := Lib.hid hdd
    clear hr hdd hd
    go_enter Tryd.func53, Tryd.ntmps53
    go_wp2_with fail
    generalize w.alloc (.cells #[.string ⟨l.toArray⟩, .bool d, .slice a xs.length c] 28) = w1 at *
    go_loopg [3] xs.length (fun gk i wr => ∃ k : Nat, gk = xs.length - k ∧ k ≤ xs.length ∧ i = .int .i64 k ∧ w1 = wr ∧ idsIn xs = idsIn (xs.drop k))
    case atStart => exact ⟨0, rfl, Nat.zero_le _, rfl, rfl, rfl⟩
    case round =>
      obtain ⟨k, hgk, hk, rfl, rfl, he⟩ := hrel
      have Hgk := Lib.hid hgk
      have He := Lib.hid he
      clear hgk he
      by_cases hlt : k < xs.length
      · obtain rfl := Hdd.out k hlt
        obtain ⟨x, hx⟩ := get_of hlt
        obtain ⟨b', off, rfl, kx⟩ := Ints.cellAt (Hg.out _ n0) hx
        have hd2 := He.out
        rw [drop_of hx, idsIn_cons] at hd2
        rcases hin : inB x 1 99 with _ | _
        · have Hin := Lib.hid hin
          have hf : idsIn xs = false := by rw [hd2, hin]; rfl
          have Hf := Lib.hid hf
          clear hf hd2 hx hin
          go_wp2_with fail
          refine (in_is Hin.out _).mono ?_
          rintro e w2 ⟨rfl, rfl⟩
          go_wp2_with fail
          go_ret
          exact ⟨ret_bool (by rw [Hf.out]; rfl), n0⟩
        · have Hin := Lib.hid hin
          have hf : idsIn xs = idsIn (xs.drop (k + 1)) := by rw [hd2, hin, Bool.true_and]
          have Hf := Lib.hid hf
          clear hf hd2 hx hin
          go_wp2_with fail
          refine (in_is Hin.out _).mono ?_
          rintro e w2 ⟨rfl, rfl⟩
          go_wp2_with fail
          go_roundg (xs.length - (k + 1))
          case measure => rw [Hgk.out]; omega
          case rel => exact ⟨k + 1, rfl, by omega, by go_num, rfl, Hf.out⟩
      · have hf : idsIn xs = true := by rw [He.out, drop_end hlt]; rfl
        have Hf := Lib.hid hf
        clear hf
        rcases hpo : pathOk l with _ | _
        · rw [hpo] at Cp
          have Hpo := Lib.hid hpo
          clear hpo
          go_wp2_with fail
          refine (Cp.out _).mono ?_
          rintro e w2 ⟨rfl, n2⟩
          go_wp2_with fail
          go_ret
          exact ⟨ret_bool (by rw [Hf.out, Hpo.out]; rfl), n0.trans n2⟩
        · rw [hpo] at Cp
          have Hpo := Lib.hid hpo
          clear hpo
          go_wp2_with fail
          refine (Cp.out _).mono ?_
          rintro e w2 ⟨rfl, n2⟩
          have k2' := n2.cell k2
          go_wp2_with fail
          go_ret
          exact ⟨ret_bool (by rw [Hf.out, Hpo.out]; rfl), n0.trans n2⟩
end Go.Proofs.YtkffejommncinaaDoor
