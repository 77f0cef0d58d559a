/- Holds sorted: math/bits.Len, slices.pdqsortCmpFunc and slices.SortFunc at twelve holds or fewer. -/
import Derived.Test.YtapobonfnjgnoaaHoldIns
import Derived.Shelf.Small.Bits
namespace Go.Proofs.Ytapobonfnjgnoaa
open Go.RowKit Go.Shelf

def lenH_ren : Go.Shelf.Ren := ⟨fun | 125 => 62 | 128 => 71 | 129 => 72 | n => n, fun | 3 => 3 | 4 => 4 | 5 => 5 | 9 => 9 | 46 => 82 | 51 => 92 | 53 => 94 | n => n, fun | n => n⟩
theorem lenH : Lays.n125 Try.prog lenH_ren where
  mixed := by kernel_rfl
  f125 := Try.func62.trans (congrArg some (by kernel_rfl))
  f128 := Try.func71.trans (congrArg some (by kernel_rfl))
  f129 := Try.func72.trans (congrArg some (by kernel_rfl))
  t3 := Try.underlying3
  a3 := Try.isAgg3
  z3 := Try.sizeOf3
  v3 := Try.zeroValue3
  t4 := Try.underlying4
  a4 := Try.isAgg4
  z4 := Try.sizeOf4
  v4 := Try.zeroValue4
  t5 := Try.underlying5
  a5 := Try.isAgg5
  z5 := Try.sizeOf5
  v5 := Try.zeroValue5
  t9 := Try.underlying9
  a9 := Try.isAgg9
  z9 := Try.sizeOf9
  v9 := Try.zeroValue9
  t46 := Try.underlying82
  a46 := Try.isAgg82
  z46 := Try.sizeOf82
  v46 := Try.zeroValue82
  t51 := Try.underlying92
  a51 := Try.isAgg92
  z51 := Try.sizeOf92
  v51 := Try.zeroValue92
  t53 := Try.underlying94
  a53 := Try.isAgg94
  z53 := Try.sizeOf94
  v53 := Try.zeroValue94
theorem bitsLen (n : Nat) (h : n ≤ 12) (w : World) : Calls Try.prog 62 #[.int .u64 n] w fun e w' => ∃ l : Int, e = .returned (.int .i64 l) ∧ w = w' :=
  (Any.bits_Len lenH n w (by omega) (by omega)).mono fun _ _ ⟨he, hw⟩ => ⟨_, he, hw.symm⟩

set_option maxRecDepth 4000 in
set_option maxHeartbeats 2000000 in
theorem pdqHolds {S : Nat → Prop} (g c : Nat) (ds : List HoldR) (l : Int) (w : World) (h : OwnHolds S w (.slice (some ⟨g, 0, none⟩) ds.length c) ds) (hnd : ds.Nodup) (h12 : ds.length ≤ 12) :
    Calls Try.prog 61 #[.slice (some ⟨g, 0, none⟩) ds.length c, .int .i64 0, .int .i64 ds.length, .int .i64 l, .func (.func 40) #[] #[]] w (InsPost S g (.slice (some ⟨g, 0, none⟩) ds.length c) ds w) := by
  have Hi := Lib.hid (insSort g c ds w h hnd h12)
  have hle : (ds.length : Int) ≤ 12 := by omega
  clear h hnd
  go_enter Try.func61, Try.ntmps61
  go_wp2_with fail
  refine wp_loop_rounds 1 ?_
  rw [rounds_succ]
  go_wp2_with fail
  refine Hi.out.mono ?_
  rintro e w1 ⟨rfl, hp⟩
  go_wp2_with fail
  (try simp only [Exit.inBlock, Exit.then]); refine bodyPost_ret (results_none rfl _ _ _) rfl ?_
  exact ⟨rfl, hp⟩

set_option maxRecDepth 4000 in
set_option maxHeartbeats 2000000 in
theorem sortHolds {S : Nat → Prop} (g c : Nat) (ds : List HoldR) (w : World) (h : OwnHolds S w (.slice (some ⟨g, 0, none⟩) ds.length c) ds) (hnd : ds.Nodup) (h12 : ds.length ≤ 12) :
    Calls Try.prog 56 #[.slice (some ⟨g, 0, none⟩) ds.length c, .func (.func 40) #[] #[]] w (InsPost S g (.slice (some ⟨g, 0, none⟩) ds.length c) ds w) := by
  have Hp := Lib.hid (fun l => pdqHolds g c ds l w h hnd h12)
  have Hl := Lib.hid (bitsLen ds.length h12 w)
  clear h hnd
  go_enter Try.func56, Try.ntmps56
  go_wp2_with fail
  refine Hl.out.mono ?_
  rintro e w1 ⟨l, rfl, rfl⟩
  go_wp2_with fail
  refine (Hp.out l).mono ?_
  rintro e w1 ⟨rfl, hp⟩
  go_wp2_with fail
  go_end0
  exact ⟨rfl, hp⟩
end Go.Proofs.Ytapobonfnjgnoaa
