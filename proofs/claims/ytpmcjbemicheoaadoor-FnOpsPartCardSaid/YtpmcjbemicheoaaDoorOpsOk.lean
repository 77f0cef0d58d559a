/- OpsValid: the program's and the reference's. -/
import Derived.Test.YtpmcjbemicheoaaDoorOps
import Derived.Test.YtpmcjbemicheoaaDoorPath2
namespace Go.Proofs.YtpmcjbemicheoaaDoor
open Go.RowKit

def opOk (o : OpR) : Bool :=
  if o.kind = 1 ∨ o.kind = 3 then pathOk o.path && o.bytes.isEmpty
  else if o.kind = 2 then pathOk o.path && fileOk o.bytes
  else if o.kind = 4 then wordOk o.path && o.bytes.isEmpty
  else false
def opsOk (os : List OpR) : Bool := decide (os.length ≤ 20) && os.all opOk

set_option maxHeartbeats 1000000 in
theorem implOp {S : Nat → Prop} (o : OpR) (u : Value) (w : World) (h : Ints S w u o.bytes) (hp : o.path.length ≤ 1048576) :
    Calls Tryd.prog 27 #[.agg #[.int .i64 o.kind, txt o.path, u]] w fun e w' => e = .returned (.bool (opOk o)) ∧ New w w' := by
  obtain ⟨k, l, xs⟩ := o
  simp only at h hp ⊢
  unfold txt
  have hn : ∀ (W : World) (o : Obj), New W (W.alloc o) := fun W o => (New.refl W).alloc o
  have Hn := Lib.hid hn
  have hps : (⟨l.toArray⟩ : ByteArray).size ≤ 1048576 := by show l.toArray.size ≤ _; simpa using hp
  have cp := fun (W : World) => implPath ⟨l.toArray⟩ W (by omega)
  have cw := fun (W : World) => implPart ⟨l.toArray⟩ W (by omega)
  have cf := fun (W : World) (n : New w W) => implFile u xs W (h.new n)
  rw [show (⟨l.toArray⟩ : ByteArray).data.toList = l from rfl] at cp cw
  obtain ⟨a, c, rfl, h1, ⟨h2, -⟩, -, -⟩ := h
  unfold maxLen at h2
  have hem : xs.isEmpty = ((xs.length : Int) == 0) := by cases xs <;> simp; omega
  by_cases h13 : k = 1 ∨ k = 3
  · have hr : opOk ⟨k, l, xs⟩ = (pathOk l && ((xs.length : Int) == 0)) := by rw [← hem]; simp [opOk, h13]
    rw [hr]
    rcases hpo : pathOk l with _ | _
    · rw [hpo] at cp
      have Cp := Lib.hid cp
      clear cp cw cf hr hpo hem hn
      rw [Bool.false_and]
      rcases h13 with rfl | rfl
      all_goals
        go_enter Tryd.func27, Tryd.ntmps27
        go_wp2_with fail
        refine (Cp.out _).mono ?_
        rintro e w1 ⟨rfl, n1⟩
        have n2 := (Hn.out w _).trans n1
        go_wp2_with fail
        go_ret
        exact ⟨rfl, n2⟩
    · rw [hpo] at cp
      have Cp := Lib.hid cp
      clear cp cw cf hr hpo hem hn
      rw [Bool.true_and]
      generalize hz : ((xs.length : Int) == 0) = z
      rcases h13 with rfl | rfl
      all_goals
        go_enter Tryd.func27, Tryd.ntmps27
        go_wp2_with fail
        refine (Cp.out _).mono ?_
        rintro e w1 ⟨rfl, n1⟩
        have n2 := (Hn.out w _).trans n1
        have b1 : w1.heap[w.heap.size]? = _ := n1.heap (heap_alloc_new w _)
        have c2 : w1.cell? ⟨w.heap.size, 2, none⟩ = some (.slice a xs.length c) := by simp [World.cell?, b1]
        clear b1
        go_wp2_with fail
        go_ret
        exact ⟨rfl, n2⟩
  · by_cases h22 : k = 2
    · subst h22
      have hr : opOk ⟨2, l, xs⟩ = (pathOk l && fileOk xs) := by simp [opOk]
      rw [hr]
      rcases hpo : pathOk l with _ | _
      · rw [hpo] at cp
        have Cp := Lib.hid cp
        clear cp cw cf hr hpo hem hn
        rw [Bool.false_and]
        go_enter Tryd.func27, Tryd.ntmps27
        go_wp2_with fail
        refine (Cp.out _).mono ?_
        rintro e w1 ⟨rfl, n1⟩
        have n2 := (Hn.out w _).trans n1
        go_wp2_with fail
        go_ret
        exact ⟨rfl, n2⟩
      · rw [hpo] at cp
        have Cp := Lib.hid cp
        have Cf := Lib.hid cf
        clear cp cw cf hr hpo hem hn
        rw [Bool.true_and]
        go_enter Tryd.func27, Tryd.ntmps27
        go_wp2_with fail
        refine (Cp.out _).mono ?_
        rintro e w1 ⟨rfl, n1⟩
        have n2 := (Hn.out w _).trans n1
        have b1 : w1.heap[w.heap.size]? = _ := n1.heap (heap_alloc_new w _)
        have c2 : w1.cell? ⟨w.heap.size, 2, none⟩ = some (.slice a xs.length c) := by simp [World.cell?, b1]
        clear b1
        go_wp2_with fail
        refine (Cf.out _ n2).mono ?_
        rintro e w2 ⟨rfl, rfl⟩
        go_wp2_with fail
        go_ret
        exact ⟨rfl, n2⟩
    · by_cases h44 : k = 4
      · subst h44
        have hr : opOk ⟨4, l, xs⟩ = (wordOk l && ((xs.length : Int) == 0)) := by rw [← hem]; simp [opOk]
        rw [hr]
        rcases hpo : wordOk l with _ | _
        · rw [hpo] at cw
          have Cw := Lib.hid cw
          clear cp cw cf hr hpo hem hn
          rw [Bool.false_and]
          go_enter Tryd.func27, Tryd.ntmps27
          go_wp2_with fail
          refine (Cw.out _).mono ?_
          rintro e w1 ⟨rfl, rfl⟩
          have n2 := Hn.out w (.cells #[.int .i64 4, .string ⟨l.toArray⟩, .slice a xs.length c] 34)
          go_wp2_with fail
          go_ret
          exact ⟨rfl, n2⟩
        · rw [hpo] at cw
          have Cw := Lib.hid cw
          clear cp cw cf hr hpo hem hn
          rw [Bool.true_and]
          go_enter Tryd.func27, Tryd.ntmps27
          go_wp2_with fail
          refine (Cw.out _).mono ?_
          rintro e w1 ⟨rfl, rfl⟩
          have n2 := Hn.out w (.cells #[.int .i64 4, .string ⟨l.toArray⟩, .slice a xs.length c] 34)
          go_wp2_with fail
          go_ret
          exact ⟨rfl, n2⟩
      · have hr : opOk ⟨k, l, xs⟩ = false := by simp [opOk, h13, h22, h44]
        rw [hr]
        have k1 : (k == 1) = false := by simp; omega
        have k3 : (k == 3) = false := by simp; omega
        have k2 : (k == 2) = false := by simp; omega
        have k4 : (k == 4) = false := by simp; omega
        clear cp cw cf hr hem hn h13 h22 h44
        go_enter Tryd.func27, Tryd.ntmps27
        go_wp2_with fail
        go_ret
        exact ⟨rfl, Hn.out _ _⟩
set_option maxHeartbeats 1000000 in
theorem specOp {S : Nat → Prop} (o : OpR) (u : Value) (w : World) (h : Ints S w u o.bytes) (hp : o.path.length ≤ 1048576) :
    Calls Tryd.prog 28 #[.agg #[.int .i64 o.kind, txt o.path, u]] w fun e w' => e = .returned (.bool (opOk o)) ∧ New w w' := by
  obtain ⟨k, l, xs⟩ := o
  simp only at h hp ⊢
  unfold txt
  have hn : ∀ (W : World) (o : Obj), New W (W.alloc o) := fun W o => (New.refl W).alloc o
  have Hn := Lib.hid hn
  have hps : (⟨l.toArray⟩ : ByteArray).size ≤ 1048576 := by show l.toArray.size ≤ _; simpa using hp
  have cp := fun (W : World) => specPath ⟨l.toArray⟩ W (by omega)
  have cw := fun (W : World) => specWord ⟨l.toArray⟩ W (by omega)
  have cf := fun (W : World) (n : New w W) => specFile u xs W (h.new n)
  rw [show (⟨l.toArray⟩ : ByteArray).data.toList = l from rfl] at cp cw
  obtain ⟨a, c, rfl, h1, ⟨h2, -⟩, -, -⟩ := h
  unfold maxLen at h2
  have hem : xs.isEmpty = ((xs.length : Int) == 0) := by cases xs <;> simp; omega
  by_cases h13 : k = 1 ∨ k = 3
  · have hr : opOk ⟨k, l, xs⟩ = (pathOk l && ((xs.length : Int) == 0)) := by rw [← hem]; simp [opOk, h13]
    rw [hr]
    rcases hpo : pathOk l with _ | _
    · rw [hpo] at cp
      have Cp := Lib.hid cp
      clear cp cw cf hr hpo hem hn
      rw [Bool.false_and]
      rcases h13 with rfl | rfl
      all_goals
        go_enter Tryd.func28, Tryd.ntmps28
        go_wp2_with fail
        refine (Cp.out _).mono ?_
        rintro e w1 ⟨rfl, n1⟩
        have n2 := (Hn.out w _).trans n1
        go_wp2_with fail
        go_ret
        exact ⟨rfl, n2⟩
    · rw [hpo] at cp
      have Cp := Lib.hid cp
      clear cp cw cf hr hpo hem hn
      rw [Bool.true_and]
      generalize hz : ((xs.length : Int) == 0) = z
      rcases h13 with rfl | rfl
      all_goals
        go_enter Tryd.func28, Tryd.ntmps28
        go_wp2_with fail
        refine (Cp.out _).mono ?_
        rintro e w1 ⟨rfl, n1⟩
        have n2 := (Hn.out w _).trans n1
        have b1 : w1.heap[w.heap.size]? = _ := n1.heap (heap_alloc_new w _)
        have c2 : w1.cell? ⟨w.heap.size, 2, none⟩ = some (.slice a xs.length c) := by simp [World.cell?, b1]
        clear b1
        go_wp2_with fail
        go_ret
        exact ⟨rfl, n2⟩
  · by_cases h22 : k = 2
    · subst h22
      have hr : opOk ⟨2, l, xs⟩ = (pathOk l && fileOk xs) := by simp [opOk]
      rw [hr]
      rcases hpo : pathOk l with _ | _
      · rw [hpo] at cp
        have Cp := Lib.hid cp
        clear cp cw cf hr hpo hem hn
        rw [Bool.false_and]
        go_enter Tryd.func28, Tryd.ntmps28
        go_wp2_with fail
        refine (Cp.out _).mono ?_
        rintro e w1 ⟨rfl, n1⟩
        have n2 := (Hn.out w _).trans n1
        go_wp2_with fail
        go_ret
        exact ⟨rfl, n2⟩
      · rw [hpo] at cp
        have Cp := Lib.hid cp
        have Cf := Lib.hid cf
        clear cp cw cf hr hpo hem hn
        rw [Bool.true_and]
        go_enter Tryd.func28, Tryd.ntmps28
        go_wp2_with fail
        refine (Cp.out _).mono ?_
        rintro e w1 ⟨rfl, n1⟩
        have n2 := (Hn.out w _).trans n1
        have b1 : w1.heap[w.heap.size]? = _ := n1.heap (heap_alloc_new w _)
        have c2 : w1.cell? ⟨w.heap.size, 2, none⟩ = some (.slice a xs.length c) := by simp [World.cell?, b1]
        clear b1
        go_wp2_with fail
        refine (Cf.out _ n2).mono ?_
        rintro e w2 ⟨rfl, rfl⟩
        go_wp2_with fail
        go_ret
        exact ⟨rfl, n2⟩
    · by_cases h44 : k = 4
      · subst h44
        have hr : opOk ⟨4, l, xs⟩ = (wordOk l && ((xs.length : Int) == 0)) := by rw [← hem]; simp [opOk]
        rw [hr]
        rcases hpo : wordOk l with _ | _
        · rw [hpo] at cw
          have Cw := Lib.hid cw
          clear cp cw cf hr hpo hem hn
          rw [Bool.false_and]
          go_enter Tryd.func28, Tryd.ntmps28
          go_wp2_with fail
          refine (Cw.out _).mono ?_
          rintro e w1 ⟨rfl, rfl⟩
          have n2 := Hn.out w (.cells #[.int .i64 4, .string ⟨l.toArray⟩, .slice a xs.length c] 34)
          go_wp2_with fail
          go_ret
          exact ⟨rfl, n2⟩
        · rw [hpo] at cw
          have Cw := Lib.hid cw
          clear cp cw cf hr hpo hem hn
          rw [Bool.true_and]
          go_enter Tryd.func28, Tryd.ntmps28
          go_wp2_with fail
          refine (Cw.out _).mono ?_
          rintro e w1 ⟨rfl, rfl⟩
          have n2 := Hn.out w (.cells #[.int .i64 4, .string ⟨l.toArray⟩, .slice a xs.length c] 34)
          go_wp2_with fail
          go_ret
          exact ⟨rfl, n2⟩
      · have hr : opOk ⟨k, l, xs⟩ = false := by simp [opOk, h13, h22, h44]
        rw [hr]
        have k1 : (k == 1) = false := by simp; omega
        have k3 : (k == 3) = false := by simp; omega
        have k2 : (k == 2) = false := by simp; omega
        have k4 : (k == 4) = false := by simp; omega
        clear cp cw cf hr hem hn h13 h22 h44
        go_enter Tryd.func28, Tryd.ntmps28
        go_wp2_with fail
        go_ret
        exact ⟨rfl, Hn.out _ _⟩

set_option maxHeartbeats 400000 in
theorem implOps {S : Nat → Prop} (v : Value) (os : List OpR) (w : World) (h : Ops S w v os) (hp : ∀ o ∈ os, o.path.length ≤ 1048576) :
    Calls Tryd.prog 11 #[v] w fun e w' => e = .returned (.bool (opsOk os)) ∧ New w w' := by
  have h0 := h
  obtain ⟨-, a, c, rfl, h1, h2, -⟩ := h
  unfold maxLen at h2
  have hat := fun (W : World) (n : New w W) (k : Nat) (o : OpR) (ho : os[k]? = some o) => Ops.at (Recs.new h0 n) ho
  have Hat := Lib.hid hat
  have Hp := Lib.hid hp
  clear hat hp
  by_cases hl : 20 < os.length
  · have hr : opsOk os = false := by simp [opsOk]; omega
    rw [hr]
    have hd : (20 : Int) < (os.length : Int) := by omega
    clear hr
    go_enter Tryd.func11, Tryd.ntmps11
    go_wp2_with fail
    go_ret
    exact ⟨rfl, New.refl _⟩
  · have hr : opsOk os = os.all opOk := by unfold opsOk; rw [decide_eq_true (by omega)]; rfl
    rw [hr]
    have hd : ¬ ((20 : Int) < (os.length : Int)) := by omega
    clear hr
    go_enter Tryd.func11, Tryd.ntmps11
    go_wp2_with fail
    go_loopg [10] os.length (fun gk i wr => ∃ (k : Nat), gk = os.length - k ∧ k ≤ os.length ∧ i = .int .i64 k ∧ New w wr ∧ os.all opOk = (os.drop k).all opOk)
    case atStart => exact ⟨0, by omega, by omega, rfl, New.refl _, rfl⟩
    case round =>
      obtain ⟨k, hgk, hk, rfl, hn, ha⟩ := hrel
      have Hgk := Lib.hid hgk
      have Ha := Lib.hid ha
      clear hgk ha
      by_cases hlt : k < os.length
      · obtain ⟨o, ho⟩ := get_of hlt
        obtain ⟨b, off, c', u, e1, hb, c0, c1, c2, i0, l1, r2⟩ := Hat.out wr hn k o ho
        simp only [Value.slice.injEq] at e1
        obtain ⟨rfl, -, rfl⟩ := e1
        have hpl := Hp.out o (List.mem_of_getElem? ho)
        have hcall := fun (W : World) (n : New wr W) => implOp o u W (r2.new n) hpl
        unfold txt at c1 hcall
        have hdrop := drop_of ho
        have Hdrop := Lib.hid hdrop
        obtain ⟨au, cu, rfl, -, -, -, -⟩ := r2
        rcases hok : opOk o with _ | _
        · rw [hok] at hcall
          have Hcall := Lib.hid hcall
          have hall : os.all opOk = false := by rw [Ha.out, hdrop, List.all_cons, hok]; rfl
          have Hall := Lib.hid hall
          clear hcall ho hdrop hok hall
          go_wp2_with fail
          refine (Hcall.out _ ((New.refl _).alloc _)).mono ?_
          rintro e w2 ⟨rfl, n2⟩
          have n3 := (hn.alloc _).trans n2
          go_wp2_with fail
          go_ret
          exact ⟨ret_bool Hall.out.symm, n3⟩
        · rw [hok] at hcall
          have Hcall := Lib.hid hcall
          have hall : os.all opOk = (os.drop (k + 1)).all opOk := by rw [Ha.out, hdrop, List.all_cons, hok]; rfl
          have Hall := Lib.hid hall
          clear hcall ho hdrop hok hall
          go_wp2_with fail
          refine (Hcall.out _ ((New.refl _).alloc _)).mono ?_
          rintro e w2 ⟨rfl, n2⟩
          have n3 := (hn.alloc _).trans n2
          go_wp2_with fail
          go_roundg (os.length - (k + 1))
          case measure => rw [Hgk.out]; omega
          case rel => exact ⟨k + 1, rfl, by omega, by go_num, n3, Hall.out⟩
      · have hall : os.all opOk = true := by rw [Ha.out, drop_end hlt]; rfl
        have Hall := Lib.hid hall
        clear hall
        go_wp2_with fail
        go_ret
        exact ⟨ret_bool Hall.out.symm, hn⟩

set_option maxHeartbeats 400000 in
theorem specOps {S : Nat → Prop} (v : Value) (os : List OpR) (w : World) (h : Ops S w v os) (hp : ∀ o ∈ os, o.path.length ≤ 1048576) :
    Calls Tryd.prog 12 #[v] w fun e w' => e = .returned (.bool (opsOk os)) ∧ New w w' := by
  have h0 := h
  obtain ⟨-, a, c, rfl, h1, h2, -⟩ := h
  unfold maxLen at h2
  have hat := fun (W : World) (n : New w W) (k : Nat) (o : OpR) (ho : os[k]? = some o) => Ops.at (Recs.new h0 n) ho
  have Hat := Lib.hid hat
  have Hp := Lib.hid hp
  clear hat hp
  go_enter Tryd.func12, Tryd.ntmps12
  go_wp2_with fail
  go_loopg [3] os.length (fun gk i wr => ∃ (k : Nat), gk = os.length - k ∧ k ≤ os.length ∧ i = .int .i64 k ∧ New w wr ∧ os.all opOk = (os.drop k).all opOk)
  case atStart => exact ⟨0, by omega, by omega, rfl, New.refl _, rfl⟩
  case round =>
    obtain ⟨k, hgk, hk, rfl, hn, ha⟩ := hrel
    have Hgk := Lib.hid hgk
    have Ha := Lib.hid ha
    clear hgk ha
    by_cases hlt : k < os.length
    · obtain ⟨o, ho⟩ := get_of hlt
      obtain ⟨b, off, c', u, e1, hb, c0, c1, c2, i0, l1, r2⟩ := Hat.out wr hn k o ho
      simp only [Value.slice.injEq] at e1
      obtain ⟨rfl, -, rfl⟩ := e1
      have hpl := Hp.out o (List.mem_of_getElem? ho)
      have hcall := specOp o u wr r2 hpl
      unfold txt at c1 hcall
      have hdrop := drop_of ho
      rcases hok : opOk o with _ | _
      · rw [hok] at hcall
        have Hcall := Lib.hid hcall
        have hall : opsOk os = false := by unfold opsOk; rw [Ha.out, hdrop, List.all_cons, hok]; simp
        have Hall := Lib.hid hall
        clear hcall ho hdrop hok hall r2
        go_wp2_with fail
        refine Hcall.out.mono ?_
        rintro e w2 ⟨rfl, n2⟩
        go_wp2_with fail
        go_ret
        exact ⟨ret_bool Hall.out.symm, hn.trans n2⟩
      · rw [hok] at hcall
        have Hcall := Lib.hid hcall
        have hall : os.all opOk = (os.drop (k + 1)).all opOk := by rw [Ha.out, hdrop, List.all_cons, hok]; rfl
        have Hall := Lib.hid hall
        clear hcall ho hdrop hok hall r2
        go_wp2_with fail
        refine Hcall.out.mono ?_
        rintro e w2 ⟨rfl, n2⟩
        go_wp2_with fail
        go_roundg (os.length - (k + 1))
        case measure => rw [Hgk.out]; omega
        case rel => exact ⟨k + 1, rfl, by omega, by go_num, hn.trans n2, Hall.out⟩
    · have hall : opsOk os = decide ((os.length : Int) ≤ 20) := by
        unfold opsOk; rw [Ha.out, drop_end hlt, List.all_nil, Bool.and_true, decide_eq_decide]; omega
      have Hall := Lib.hid hall
      clear hall
      go_wp2_with fail
      go_ret
      exact ⟨ret_bool Hall.out.symm, hn⟩

end Go.Proofs.YtpmcjbemicheoaaDoor
