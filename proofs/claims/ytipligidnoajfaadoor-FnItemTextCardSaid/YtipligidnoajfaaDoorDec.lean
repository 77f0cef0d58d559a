/- Small numbers in decimals: strconv.Itoa and the reference's l6Dec. -/
import Derived.Test.YtipligidnoajfaaDoorRecs
import Derived.Test.YtipligidnoajfaaDoorStoreOk
import Derived.Deep.RegionWith
namespace Go.Proofs.YtipligidnoajfaaDoor
open Go.RowKit

set_option maxRecDepth 4000 in
set_option maxHeartbeats 1000000 in
theorem smallIs (n : Nat) (hn : n ≤ 40) (w : World) :
    Calls Tryd.prog 65 #[.int .i64 n] w fun e w' => e = .returned (txt (decs n)) ∧ w = w' := by
  by_cases h10 : n < 10
  · have h10' : (n : Int) < 10 := by omega
    go_enter Tryd.func65, Tryd.ntmps65
    go_wp2_with fail
    go_ret
    refine ⟨congrArg _ (congrArg Value.string ?_), rfl⟩
    rename_i q K ha
    clear ha K q
    revert n
    decide +kernel
  · have h10' : ¬ (n : Int) < 10 := by omega
    go_enter Tryd.func65, Tryd.ntmps65
    go_wp2_with fail
    go_ret
    refine ⟨congrArg _ (congrArg Value.string ?_), rfl⟩
    revert n
    decide +kernel

set_option maxRecDepth 4000 in
theorem itoaIs (n : Nat) (hn : n ≤ 40) (w : World) :
    Calls Tryd.prog 44 #[.int .i64 n] w fun e w' => e = .returned (txt (decs n)) ∧ w = w' := by
  have hs := smallIs n hn w
  have Hs := Lib.hid hs
  clear hs
  have hf : Calls Tryd.prog 62 #[.int .i64 n, .int .i64 10] w fun e w' => e = .returned (txt (decs n)) ∧ w = w' := by
    go_enter Tryd.func62, Tryd.ntmps62
    go_wp2_with fail
    refine Hs.out.mono ?_
    rintro e w1 ⟨rfl, rfl⟩
    go_wp2_with fail
    go_ret
    exact ⟨rfl, rfl⟩
  have Hf := Lib.hid hf
  clear hf
  have hi : Calls Tryd.prog 56 #[.int .i64 n] w fun e w' => e = .returned (txt (decs n)) ∧ w = w' := by
    go_enter Tryd.func56, Tryd.ntmps56
    go_wp2_with fail
    refine Hf.out.mono ?_
    rintro e w1 ⟨rfl, rfl⟩
    go_wp2_with fail
    go_ret
    exact ⟨rfl, rfl⟩
  have Hi := Lib.hid hi
  clear hi
  go_enter Tryd.func44, Tryd.ntmps44
  go_wp2_with fail
  refine Hi.out.mono ?_
  rintro e w1 ⟨rfl, rfl⟩
  go_wp2_with fail
  go_ret
  exact ⟨rfl, rfl⟩

/-- The one cell that a digit's slice holds. -/
def digW (w : World) (k : Nat) : World := w.alloc (.cells #[.int .u8 (48 + (k : Int))] 5)

theorem digRun (k : Nat) (hk : k < 10) (w' : World) (a : Addr) (hc : w'.cell? a = some (.int .u8 (48 + (k : Int)))) :
    (convert 36 9 (.slice (some a) 1 1)).run Tryd.prog w' = .ok (.string ⟨(decs k).toArray⟩) w' := by
  have hl : decs k = [(48 + k).toUInt8] := by
    clear hc
    revert k
    decide +kernel
  have h48 : ((48 + k).toUInt8).toNat = 48 + k := by
    clear hc hl
    revert k
    decide +kernel
  have h := run_convert_bytes_back (P := Tryd.prog) w' 36 9 5 a 1 (decs k) Tryd.underlying36 Tryd.underlying5 Tryd.underlying9 (by
    rw [hl]
    intro j hj
    have hj0 : j = 0 := by simpa using hj
    subst hj0
    simp only [List.getElem_cons_zero]
    rw [h48]
    have ha : a.add 0 = a := by simp [Addr.add]
    rw [ha, hc]
    simp)
  rw [hl] at h ⊢
  exact h

theorem txtAdd (a b : List UInt8) (ha : a.length ≤ 8388608) (hb : b.length ≤ 8388608) (W : World) :
    (binOp .add 9 (txt a) (txt b)).run Tryd.prog W = .ok (txt (a ++ b)) W := by
  unfold txt
  rw [binOp_string_add]
  refine (run_string_add (P := Tryd.prog) (w := W) ⟨a.toArray⟩ ⟨b.toArray⟩ ?_ ?_).trans ?_
  · show ((a.toArray).size : Int) ≤ _
    simp
    omega
  · show ((b.toArray).size : Int) ≤ _
    simp
    omega
  · have : (⟨a.toArray⟩ : ByteArray) ++ ⟨b.toArray⟩ = ⟨(a ++ b).toArray⟩ := by
      apply ByteArray.ext
      simp
    rw [this]

theorem digCell (k : Nat) (w : World) : (digW w k).cell? { block := w.heap.size, off := 0 } = some (.int .u8 (48 + (k : Int))) := by
  unfold digW
  rw [cell_alloc]
  rfl

set_option maxRecDepth 4000 in
set_option maxHeartbeats 1000000 in
theorem dec1 (n : Nat) (hn : n < 10) (w : World) :
    Calls Tryd.prog 38 #[.int .i64 n] w fun e w' => e = .returned (txt (decs n)) ∧ w' = digW w n := by
  have h10' : (n : Int) < 10 := by omega
  have hr := digRun n hn _ _ (digCell n w)
  unfold digW at hr ⊢
  go_enter Tryd.func38, Tryd.ntmps38
  go_wp2_with fail
  go_ret
  exact ⟨rfl, rfl⟩

set_option maxRecDepth 4000 in
set_option maxHeartbeats 1000000 in
theorem dec2 (n : Nat) (h10 : 10 ≤ n) (hn : n ≤ 40) (w : World) :
    Calls Tryd.prog 38 #[.int .i64 n] w fun e w' => e = .returned (txt (decs n)) ∧ New w w' := by
  have h10' : ¬ (n : Int) < 10 := by omega
  obtain ⟨m, hm⟩ : ∃ m, m = n / 10 := ⟨_, rfl⟩
  obtain ⟨k, hk⟩ : ∃ k, k = n % 10 := ⟨_, rfl⟩
  have hd : decs n = decs m ++ decs k := by
    rw [hm, hk]
    clear hm hk h10'
    have h : ∀ n, n ≤ 40 → 10 ≤ n → decs n = decs (n / 10) ++ decs (n % 10) := by decide +kernel
    exact h n hn h10
  have hd1 := dec1 m (by omega)
  have hk10 : k < 10 := by omega
  have q1 : IntKind.i64.wrap ((n : Int) / 10) = (m : Int) := by
    have : (n : Int) / 10 = (m : Int) := by omega
    rw [this]
    exact IntWalk.i64_in _ (by omega)
  have q2 : (n : Int).tmod 10 = (k : Int) := by
    rw [Int.tmod_eq_emod_of_nonneg (by omega)]
    omega
  have q3 : IntKind.i64.wrap (48 + (k : Int)) = 48 + (k : Int) := IntWalk.i64_in _ (by omega)
  have q4 : IntKind.u8.wrap (48 + (k : Int)) = 48 + (k : Int) := by
    clear q1 q2 q3 hk hd hd1
    revert k
    decide +kernel
  have l1 : ∀ j, j < 10 → (decs j).length = 1 := by decide +kernel
  have hcat : ∀ W : World, (binOp .add 9 (txt (decs m)) (.string ⟨(decs k).toArray⟩)).run Tryd.prog W = .ok (txt (decs n)) W := by
    intro W
    have h := txtAdd (decs m) (decs k) (by rw [l1 m (by omega)]; omega) (by rw [l1 k hk10]; omega) W
    rw [← hd] at h
    exact h
  have ka : ((w.alloc (.cells #[.int .u8 (48 + (m : Int))] 5)).alloc (.cells #[.int .u8 (48 + (k : Int))] 5)).cell? { block := w.heap.size + 1, off := 0 } = some (.int .u8 (48 + (k : Int))) := by
    have h := digCell k (w.alloc (.cells #[.int .u8 (48 + (m : Int))] 5))
    have hz : ∀ o, (w.alloc o).heap.size = w.heap.size + 1 := fun o => Array.size_push _
    rw [hz] at h
    exact h
  have kb : (w.alloc (.cells #[.int .u8 (48 + (k : Int))] 5)).cell? { block := w.heap.size, off := 0 } = some (.int .u8 (48 + (k : Int))) := digCell k w
  have kc : ((w.alloc (.cells #[.int .u8 (48 + (k : Int))] 5)).alloc (.cells #[.int .u8 (48 + (m : Int))] 5)).cell? { block := w.heap.size, off := 0 } = some (.int .u8 (48 + (k : Int))) := ((New.refl (w.alloc (.cells #[.int .u8 (48 + (k : Int))] 5))).alloc (.cells #[.int .u8 (48 + (m : Int))] 5)).cell kb
  have ra0 : (convert 36 9 (.slice (some { block := w.heap.size + 1, off := 0 }) 1 1)).run Tryd.prog ((w.alloc (.cells #[.int .u8 (48 + (m : Int))] 5)).alloc (.cells #[.int .u8 (48 + (k : Int))] 5)) = .ok (.string ⟨(decs k).toArray⟩) ((w.alloc (.cells #[.int .u8 (48 + (m : Int))] 5)).alloc (.cells #[.int .u8 (48 + (k : Int))] 5)) :=
    digRun k hk10 _ _ (ka)
  have rb0 : (convert 36 9 (.slice (some { block := w.heap.size, off := 0 }) 1 1)).run Tryd.prog (w.alloc (.cells #[.int .u8 (48 + (k : Int))] 5)) = .ok (.string ⟨(decs k).toArray⟩) (w.alloc (.cells #[.int .u8 (48 + (k : Int))] 5)) :=
    digRun k hk10 _ _ (kb)
  have rc0 : (convert 36 9 (.slice (some { block := w.heap.size, off := 0 }) 1 1)).run Tryd.prog ((w.alloc (.cells #[.int .u8 (48 + (k : Int))] 5)).alloc (.cells #[.int .u8 (48 + (m : Int))] 5)) = .ok (.string ⟨(decs k).toArray⟩) ((w.alloc (.cells #[.int .u8 (48 + (k : Int))] 5)).alloc (.cells #[.int .u8 (48 + (m : Int))] 5)) :=
    digRun k hk10 _ _ (kc)
  have ra1 : (convert 36 9 (.slice (some { block := w.heap.size + 1, off := 0 }) 1 1)).run Tryd.prog (((w.alloc (.cells #[.int .u8 (48 + (m : Int))] 5)).alloc (.cells #[.int .u8 (48 + (k : Int))] 5)).drew) = .ok (.string ⟨(decs k).toArray⟩) (((w.alloc (.cells #[.int .u8 (48 + (m : Int))] 5)).alloc (.cells #[.int .u8 (48 + (k : Int))] 5)).drew) :=
    digRun k hk10 _ _ (ka)
  have rb1 : (convert 36 9 (.slice (some { block := w.heap.size, off := 0 }) 1 1)).run Tryd.prog ((w.alloc (.cells #[.int .u8 (48 + (k : Int))] 5)).drew) = .ok (.string ⟨(decs k).toArray⟩) ((w.alloc (.cells #[.int .u8 (48 + (k : Int))] 5)).drew) :=
    digRun k hk10 _ _ (kb)
  have rc1 : (convert 36 9 (.slice (some { block := w.heap.size, off := 0 }) 1 1)).run Tryd.prog (((w.alloc (.cells #[.int .u8 (48 + (k : Int))] 5)).alloc (.cells #[.int .u8 (48 + (m : Int))] 5)).drew) = .ok (.string ⟨(decs k).toArray⟩) (((w.alloc (.cells #[.int .u8 (48 + (k : Int))] 5)).alloc (.cells #[.int .u8 (48 + (m : Int))] 5)).drew) :=
    digRun k hk10 _ _ (kc)
  have ra2 : (convert 36 9 (.slice (some { block := w.heap.size + 1, off := 0 }) 1 1)).run Tryd.prog (((w.alloc (.cells #[.int .u8 (48 + (m : Int))] 5)).alloc (.cells #[.int .u8 (48 + (k : Int))] 5)).drew.drew) = .ok (.string ⟨(decs k).toArray⟩) (((w.alloc (.cells #[.int .u8 (48 + (m : Int))] 5)).alloc (.cells #[.int .u8 (48 + (k : Int))] 5)).drew.drew) :=
    digRun k hk10 _ _ (ka)
  have rb2 : (convert 36 9 (.slice (some { block := w.heap.size, off := 0 }) 1 1)).run Tryd.prog ((w.alloc (.cells #[.int .u8 (48 + (k : Int))] 5)).drew.drew) = .ok (.string ⟨(decs k).toArray⟩) ((w.alloc (.cells #[.int .u8 (48 + (k : Int))] 5)).drew.drew) :=
    digRun k hk10 _ _ (kb)
  have rc2 : (convert 36 9 (.slice (some { block := w.heap.size, off := 0 }) 1 1)).run Tryd.prog (((w.alloc (.cells #[.int .u8 (48 + (k : Int))] 5)).alloc (.cells #[.int .u8 (48 + (m : Int))] 5)).drew.drew) = .ok (.string ⟨(decs k).toArray⟩) (((w.alloc (.cells #[.int .u8 (48 + (k : Int))] 5)).alloc (.cells #[.int .u8 (48 + (m : Int))] 5)).drew.drew) :=
    digRun k hk10 _ _ (kc)
  have ra3 : (convert 36 9 (.slice (some { block := w.heap.size + 1, off := 0 }) 1 1)).run Tryd.prog (((w.alloc (.cells #[.int .u8 (48 + (m : Int))] 5)).alloc (.cells #[.int .u8 (48 + (k : Int))] 5)).drew.drew.drew) = .ok (.string ⟨(decs k).toArray⟩) (((w.alloc (.cells #[.int .u8 (48 + (m : Int))] 5)).alloc (.cells #[.int .u8 (48 + (k : Int))] 5)).drew.drew.drew) :=
    digRun k hk10 _ _ (ka)
  have rb3 : (convert 36 9 (.slice (some { block := w.heap.size, off := 0 }) 1 1)).run Tryd.prog ((w.alloc (.cells #[.int .u8 (48 + (k : Int))] 5)).drew.drew.drew) = .ok (.string ⟨(decs k).toArray⟩) ((w.alloc (.cells #[.int .u8 (48 + (k : Int))] 5)).drew.drew.drew) :=
    digRun k hk10 _ _ (kb)
  have rc3 : (convert 36 9 (.slice (some { block := w.heap.size, off := 0 }) 1 1)).run Tryd.prog (((w.alloc (.cells #[.int .u8 (48 + (k : Int))] 5)).alloc (.cells #[.int .u8 (48 + (m : Int))] 5)).drew.drew.drew) = .ok (.string ⟨(decs k).toArray⟩) (((w.alloc (.cells #[.int .u8 (48 + (k : Int))] 5)).alloc (.cells #[.int .u8 (48 + (m : Int))] 5)).drew.drew.drew) :=
    digRun k hk10 _ _ (kc)
  have Hd1 := Lib.hid hd1
  have Hd := Lib.hid hd
  clear hd1 hd hm hk l1 ka kb kc
  unfold digW at Hd1
  go_enter Tryd.func38, Tryd.ntmps38
  go_wp2_with fail
  go_region_with (go_at_call 38; refine (Hd1.out _).mono ?_; rintro e w1 ⟨rfl, rfl⟩)
  all_goals (go_wp2_with fail; go_ret; refine ⟨rfl, ?_⟩; first | exact (((New.refl w).alloc _).alloc _).drew | exact ((New.refl w).alloc _).alloc _ | exact (((New.refl w).alloc _).alloc _).drew.drew | exact (((New.refl w).alloc _).alloc _).drew.drew.drew)

theorem decIs (n : Nat) (hn : n ≤ 40) (w : World) :
    Calls Tryd.prog 38 #[.int .i64 n] w fun e w' => e = .returned (txt (decs n)) ∧ New w w' := by
  by_cases h10 : n < 10
  · refine (dec1 n h10 w).mono ?_
    rintro e w' ⟨he, rfl⟩
    exact ⟨he, (New.refl w).alloc _⟩
  · exact dec2 n (by omega) hn w
end Go.Proofs.YtipligidnoajfaaDoor
