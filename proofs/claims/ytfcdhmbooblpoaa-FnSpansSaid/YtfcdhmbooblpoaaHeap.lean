/- Walks of container/heap over *timeHeap. -/
import Derived.Test.YtfcdhmbooblpoaaInts
import Derived.Test.YtfcdhmbooblpoaaHeapLaw
import Derived.Deep.RegionWith
namespace Go.Proofs.Ytfcdhmbooblpoaa
open Go.RowKit

theorem wrapNil (xt : TypeId) (a : Addr) (n m : String) : Builtin.ssaWrapNilChk_ #[xt] xt #[.pointer (some a), strVal n, strVal m] = pure (.pointer (some a)) := rfl

theorem run_method_val {P : Program} {fuel : Nat} {t e : TypeId} {f : FuncId} {name : String} {w : World} {a : Addr} {v : Value}
    (hm : (P.info? t).map (fun i => (i.methods.find? (·.name == name)).map (fun m => (m.path, m.func))) = some (some (#[], some (f, false))))
    (ht : P.underlying t = some (.pointer e)) (hl : (loadVar e a).run P w = .ok v w) :
    (method (fuel + 1) t (.pointer (some a)) name).run P w = .ok (f, v) w := by
  obtain ⟨i, hi, h2⟩ := Option.map_eq_some_iff.1 hm
  obtain ⟨m, hf, h3⟩ := Option.map_eq_some_iff.1 h2
  simp only [Prod.mk.injEq] at h3
  obtain ⟨h4, h5⟩ := h3
  unfold method
  simp only [Sem.run_bind, typeInfo]
  simp [hi, hf, h4, h5, follow, receiverAt, run_underlying ht, Place.get, wrapNil, asAddr, hl]

theorem run_method_ptr {P : Program} {fuel : Nat} {t e : TypeId} {f : FuncId} {name : String} {w : World} {a : Addr}
    (hm : (P.info? t).map (fun i => (i.methods.find? (·.name == name)).map (fun m => (m.path, m.func))) = some (some (#[], some (f, true))))
    (ht : P.underlying t = some (.pointer e)) :
    (method (fuel + 1) t (.pointer (some a)) name).run P w = .ok (f, .pointer (some a)) w := by
  obtain ⟨i, hi, h2⟩ := Option.map_eq_some_iff.1 hm
  obtain ⟨m, hf, h3⟩ := Option.map_eq_some_iff.1 h2
  simp only [Prod.mk.injEq] at h3
  obtain ⟨h4, h5⟩ := h3
  unfold method
  simp only [Sem.run_bind, typeInfo]
  simp [hi, hf, h4, h5, follow, receiverAt, run_underlying ht, Place.get]

theorem u_ptr : (Try.prog).underlying 47 = some (.pointer 55) := by kernel_rfl

theorem load_slice {P : Program} {t e : TypeId} {w : World} {a : Addr} {v : Value} (h : P.underlying t = some (.slice e)) (hc : w.cell? a = some v) (hv : ∃ s n c, v = .slice s n c) : (loadVar t a).run P w = .ok v w := by
  obtain ⟨s, n, c, rfl⟩ := hv
  simp [loadVar, isAgg, run_underlying h, go_sem, hc]

theorem u_heap : (Try.prog).underlying 55 = some (.slice 3) := by kernel_rfl

theorem m_Len (g : Nat) (w : World) (s : Option Addr) (n c : Nat) (h : w.cell? ⟨g, 0, none⟩ = some (.slice s n c)) :
    (method 182 47 (.pointer (some ⟨g, 0, none⟩)) "Len").run Try.prog w = .ok (38, .slice s n c) w :=
  run_method_val (by kernel_rfl) u_ptr (load_slice u_heap h ⟨_, _, _, rfl⟩)
theorem m_Less (g : Nat) (w : World) (s : Option Addr) (n c : Nat) (h : w.cell? ⟨g, 0, none⟩ = some (.slice s n c)) :
    (method 182 47 (.pointer (some ⟨g, 0, none⟩)) "Less").run Try.prog w = .ok (64, .slice s n c) w :=
  run_method_val (by kernel_rfl) u_ptr (load_slice u_heap h ⟨_, _, _, rfl⟩)
theorem m_Swap (g : Nat) (w : World) (s : Option Addr) (n c : Nat) (h : w.cell? ⟨g, 0, none⟩ = some (.slice s n c)) :
    (method 182 47 (.pointer (some ⟨g, 0, none⟩)) "Swap").run Try.prog w = .ok (66, .slice s n c) w :=
  run_method_val (by kernel_rfl) u_ptr (load_slice u_heap h ⟨_, _, _, rfl⟩)
theorem m_Pop (g : Nat) (w : World) : (method 182 47 (.pointer (some ⟨g, 0, none⟩)) "Pop").run Try.prog w = .ok (65, .pointer (some ⟨g, 0, none⟩)) w :=
  run_method_ptr (by kernel_rfl) u_ptr

/-! The small methods. -/
set_option maxHeartbeats 400000 in
theorem hLen (s : Option Addr) (n c : Nat) (w : World) :
    Calls Try.prog 38 #[.slice s n c] w fun e w' => e = .returned (.int .i64 n) ∧ w = w' := by
  go_enter Try.func38, Try.ntmps38
  go_wp2
  go_ret
  exact ⟨rfl, rfl⟩

set_option maxHeartbeats 400000 in
theorem hLess (b n c : Nat) (i j : Int) (i' j' : Nat) (x y : Int) (w : World) (ei : i = (i' : Int)) (ej : j = (j' : Int)) (hi : i' < n) (hj : j' < n) (hx : w.cell? ⟨b, i', none⟩ = some (.int .i64 x)) (hy : w.cell? ⟨b, j', none⟩ = some (.int .i64 y)) :
    Calls Try.prog 64 #[.slice (some ⟨b, 0, none⟩) n c, .int .i64 i, .int .i64 j] w fun e w' => e = .returned (.bool (decide (y < x))) ∧ Drew w w' := by
  subst ei ej
  go_enter Try.func64, Try.ntmps64
  go_wp2
  go_quiet (fail)
  go_wp2
  go_ret
  exact ⟨rfl, (Drew.refl _).drewN _⟩

set_option maxHeartbeats 400000 in
theorem hSwap (b n c : Nat) (i1 j1 : Int) (i j : Nat) (x y : Int) (w : World) (ei : i1 = (i : Int)) (ej : j1 = (j : Int)) (hi : i < n) (hj : j < n) (hx : w.cell? ⟨b, i, none⟩ = some (.int .i64 x)) (hy : w.cell? ⟨b, j, none⟩ = some (.int .i64 y))
    (fx : w.frozen? ⟨b, i, none⟩ = false) (fy : w.frozen? ⟨b, j, none⟩ = false) :
    Calls Try.prog 66 #[.slice (some ⟨b, 0, none⟩) n c, .int .i64 i1, .int .i64 j1] w fun e w' => e = .returned (.tuple #[]) ∧ Drew ((w.setCell ⟨b, i, none⟩ (.int .i64 y)).setCell ⟨b, j, none⟩ (.int .i64 x)) w' := by
  subst ei ej
  obtain ⟨y', hy'⟩ := cell_set_some (w := w) (p := ⟨b, i, none⟩) (x := .int .i64 y) (q := ⟨b, j, none⟩) (v := .int .i64 y) hy
  obtain ⟨x', hx'⟩ := cell_set_some (w := w) (p := ⟨b, j, none⟩) (x := .int .i64 x) (q := ⟨b, i, none⟩) (v := .int .i64 x) hx
  go_enter Try.func66, Try.ntmps66
  go_wp2
  go_region
  all_goals (go_end0; exact ⟨rfl, (Drew.refl _).drew⟩)


/-- The heap behind the pointer to block g holds the numbers hs, in a row of its own in S. -/
def HeapM (g : Nat) (S : Nat → Prop) (w : World) (hs : List Int) : Prop :=
  ∃ v, w.heap[g]? = some (.cells #[v] 55 (0, 0)) ∧ OwnInts 3 S w v hs ∧ ¬ S g

theorem HeapM.chg {g : Nat} {S T : Nat → Prop} {w w' : World} {hs : List Int} (h : HeapM g S w hs) (c : Chg T w w') (hg : ¬ T g) (hT : ∀ k, k < w.heap.size → S k → ¬ T k) : HeapM g S w' hs := by
  obtain ⟨v, h1, h2, h3⟩ := h
  exact ⟨v, c.heap h1 hg, h2.chg c hT, h3⟩
theorem HeapM.new {g : Nat} {S : Nat → Prop} {w w' : World} {hs : List Int} (h : HeapM g S w hs) (c : New w w') : HeapM g S w' hs := HeapM.chg h c (fun h => h) (fun _ _ _ h => h)
theorem HeapM.mono {g : Nat} {S T : Nat → Prop} {w : World} {hs : List Int} (h : HeapM g S w hs) (hst : ∀ k, k < w.heap.size → S k → T k) (hg : ¬ T g) : HeapM g T w hs := by
  obtain ⟨v, h1, h2, h3⟩ := h
  exact ⟨v, h1, h2.mono hst, hg⟩
theorem HeapM.cell {g : Nat} {S : Nat → Prop} {w : World} {hs : List Int} (h : HeapM g S w hs) : ∃ a c, w.cell? ⟨g, 0, none⟩ = some (.slice a hs.length c) := by
  obtain ⟨v, h1, h2, h3⟩ := h
  obtain ⟨a, c, rfl, _⟩ := h2.shape
  exact ⟨a, c, by simp [World.cell?, h1]⟩
theorem HeapM.parts {g : Nat} {S : Nat → Prop} {w : World} {hs : List Int} (h : HeapM g S w hs) (hl : 0 < hs.length) :
    ∃ b c, w.cell? ⟨g, 0, none⟩ = some (.slice (some ⟨b, 0, none⟩) hs.length c) ∧ S b ∧ b ≠ g ∧ (∀ k, k < hs.length → w.cell? ⟨b, k, none⟩ = some (.int .i64 (at0 hs k)) ∧ w.frozen? ⟨b, k, none⟩ = false) ∧
      ∀ i j w', i < hs.length → j < hs.length → Drew ((w.setCell ⟨b, i, none⟩ (.int .i64 (at0 hs j))).setCell ⟨b, j, none⟩ (.int .i64 (at0 hs i))) w' → HeapM g S w' (sw hs i j) ∧ Chg S w w' := by
  obtain ⟨v, h1, h2, h3⟩ := h
  obtain ⟨b, c, rfl, hS, hb, _, _⟩ := h2.1.head hl
  have hbg : b ≠ g := fun e => h3 (e ▸ hS)
  refine ⟨b, c, by simp [World.cell?, h1], hS, hbg, fun k hk => ⟨h2.1.cellAt (by simp [at0_some hk]), h2.1.frozenAt k⟩, fun i j w' hi hj hd => ?_⟩
  have c1 : Chg S w w' := (((Chg.refl S w).setCell (a := ⟨b, i, none⟩) _ (fun _ => hS)).setCell (a := ⟨b, j, none⟩) _ (fun _ => hS)).trans (hd.new.chg S)
  refine ⟨⟨_, c1.heap h1 h3, ⟨?_, ?_⟩, h3⟩, c1⟩
  · rw [length_sw]
    have r := ((h2.1.set i (.int .i64 (at0 hs j))).set j (.int .i64 (at0 hs i))).new hd.new
    rw [← List.map_set, ← List.map_set] at r
    exact r
  · exact fun x hx => h2.2 x ((sw_perm hi hj).subset hx)

def DownPost (g n i0 : Nat) (S : Nat → Prop) (w : World) (hs : List Int) (e : Ending) (w' : World) : Prop :=
  ∃ r hs', e = .returned (.bool r) ∧ HeapM g S w' hs' ∧ hs'.length = hs.length ∧ hs'.Perm hs ∧ (∀ k, n ≤ k → hs'[k]? = hs[k]?) ∧ Hp hs' i0 n ∧ Chg S w w'

set_option maxHeartbeats 1000000 in
theorem heapDown (g n i0 : Nat) (S : Nat → Prop) (hs : List Int) (w : World) (h : HeapM g S w hs) (hp : Hp hs (i0 + 1) n) (hn : n ≤ hs.length) (hl : hs.length ≤ 1048576) (hi : i0 ≤ 1048576) :
    Calls Try.prog 47 #[.iface 47 (.pointer (some ⟨g, 0, none⟩)), .int .i64 i0, .int .i64 n] w (DownPost g n i0 S w hs) := by
  go_enter Try.func47, Try.ntmps47
  go_wp2_with fail
  go_loopw [7] (fun s wr => ∃ (i : Nat) (hr : List Int), s = .int .i64 i ∧ i0 ≤ i ∧ i ≤ 1048576 ∧ hr.length = hs.length ∧ hr.Perm hs ∧ (∀ k, n ≤ k → hr[k]? = hs[k]?) ∧ Hd hr i0 n i ∧ HeapM g S wr hr ∧ Chg S w wr) (fun s _ => n - (intOf s).toNat)
  case atStart => exact ⟨i0, hs, rfl, Nat.le_refl _, hi, rfl, List.Perm.refl _, fun _ _ => rfl, Hd.start hp, h, Chg.refl _ _⟩
  case round =>
    obtain ⟨i, hr, rfl, hi0, hi1, hlen, hperm, hfar, hd, hm, hc⟩ := hrel
    rename World => wr
    have Hlen := Lib.hid hlen
    have Hfar := Lib.hid hfar
    clear hlen hfar
    by_cases hj1 : n ≤ 2 * i + 1
    · have hb : decide ((n : Int) ≤ 2 * (i : Int) + 1) = true := by simp; omega
      go_wp2_with fail
      go_ret
      exact ⟨_, hr, rfl, hm, Hlen.out, hperm, Hfar.out, hd.none hj1, hc⟩
    · have hb : decide ((n : Int) ≤ 2 * (i : Int) + 1) = false := by simp; omega
      have hpos : 0 < hr.length := by rw [Hlen.out]; omega
      have hnl : n ≤ hr.length := by rw [Hlen.out]; exact hn
      obtain ⟨b, c, hcg, hSb, hbg, hcells, hsw⟩ := hm.parts hpos
      have Hcells := Lib.hid hcells
      have Hsw := Lib.hid hsw
      clear hcells hsw
      by_cases hj2 : 2 * i + 2 < n
      · by_cases hcmp : at0 hr (2 * i + 1) < at0 hr (2 * i + 2)
        · skip
          have hdec : decide (at0 hr (2 * i + 1) < at0 hr (2 * i + 2)) = true := by simp [hcmp]
          have hm1 := m_Less g wr _ _ _ hcg
          have hl1 := hLess b hr.length c (2 * (i : Int) + 1 + 1) (2 * (i : Int) + 1) (2 * i + 2) (2 * i + 1) (at0 hr (2 * i + 2)) (at0 hr (2 * i + 1)) wr (by omega) (by omega) (by omega) (by omega) (Hcells.out _ (by omega)).1 (Hcells.out _ (by omega)).1
          rw [hdec] at hl1
          have Hl1 := Lib.hid hl1
          clear hl1 hdec
          go_wp2_with fail
          refine Hl1.out.mono ?_
          rintro e w1 ⟨rfl, dw⟩
          have hcg1 : w1.cell? ⟨g, 0, none⟩ = some (.slice (some ⟨b, 0, none⟩) hr.length c) := by rw [dw.cell]; exact hcg
          have hm2 := m_Less g w1 _ _ _ hcg1
          have hl2 := hLess b hr.length c (2 * (i : Int) + 1 + 1 : Int) (i : Int) (2 * i + 2) i (at0 hr (2 * i + 2)) (at0 hr i) w1 (by omega) rfl (by omega) (by omega) (by rw [dw.cell]; exact (Hcells.out _ (by omega)).1) (by rw [dw.cell]; exact (Hcells.out _ (by omega)).1)
          have hmax : ∀ c, (c = 2 * i + 1 ∨ c = 2 * i + 2) → c < n → at0 hr c ≤ at0 hr (2 * i + 2) := by
            intro c hc hcn
            rcases hc with rfl | rfl <;> omega
          by_cases hlt : at0 hr i < at0 hr (2 * i + 2)
          · have hdec2 : decide (at0 hr i < at0 hr (2 * i + 2)) = true := by simp [hlt]
            rw [hdec2] at hl2
            have Hl2 := Lib.hid hl2
            clear hl2 hdec2
            go_wp2_with fail
            refine Hl2.out.mono ?_
            rintro e w3 ⟨rfl, d3⟩
            have d3' := dw.trans d3
            have hcg3 : w3.cell? ⟨g, 0, none⟩ = some (.slice (some ⟨b, 0, none⟩) hr.length c) := by rw [d3'.cell]; exact hcg
            have hms := m_Swap g w3 _ _ _ hcg3
            have hs3 := hSwap b hr.length c (i : Int) _ i (2 * i + 2) (at0 hr i) (at0 hr (2 * i + 2)) w3 rfl (show (2 * (i : Int) + 1 + 1 : Int) = _ by omega) (by omega) (by omega) (by rw [d3'.cell]; exact (Hcells.out _ (by omega)).1) (by rw [d3'.cell]; exact (Hcells.out _ (by omega)).1) (by rw [d3'.frozen]; exact (Hcells.out _ (by omega)).2) (by rw [d3'.frozen]; exact (Hcells.out _ (by omega)).2)
            have Hs3 := Lib.hid hs3
            clear hs3
            go_wp2_with fail
            refine Hs3.out.mono ?_
            rintro e w4 ⟨rfl, d4⟩
            go_wp2_with fail
            have hsw := Hsw.out i (2 * i + 2) w4 (by omega) (by omega) (by obtain ⟨a, rfl⟩ := d3'; obtain ⟨b, rfl⟩ := d4; exact ⟨a + b, by simp [World.setCell, World.drewN, Nat.add_assoc]⟩)
            go_roundw
            case rel => exact ⟨2 * i + 2, _, by go_num, by omega, by omega, by rw [length_sw, Hlen.out], (sw_perm (by omega) (by omega)).trans hperm, fun k hk => by rw [sw_far (by omega) (by omega)]; exact Hfar.out k hk, hd.step hnl hi0 (by omega) (by omega) hlt hmax, hsw.1, hc.trans hsw.2⟩
            case measure => simp [intOf]; omega
          · have hdec2 : decide (at0 hr i < at0 hr (2 * i + 2)) = false := by simp [hlt]
            rw [hdec2] at hl2
            have Hl2 := Lib.hid hl2
            clear hl2 hdec2
            go_wp2_with fail
            refine Hl2.out.mono ?_
            rintro e w3 ⟨rfl, d3⟩
            go_wp2_with fail
            go_ret
            exact ⟨_, hr, rfl, hm.new (dw.trans d3).new, Hlen.out, hperm, Hfar.out, hd.stop (by omega) hmax, hc.trans ((dw.trans d3).new.chg _)⟩
        · skip
          have hdec : decide (at0 hr (2 * i + 1) < at0 hr (2 * i + 2)) = false := by simp [hcmp]
          have hm1 := m_Less g wr _ _ _ hcg
          have hl1 := hLess b hr.length c (2 * (i : Int) + 1 + 1) (2 * (i : Int) + 1) (2 * i + 2) (2 * i + 1) (at0 hr (2 * i + 2)) (at0 hr (2 * i + 1)) wr (by omega) (by omega) (by omega) (by omega) (Hcells.out _ (by omega)).1 (Hcells.out _ (by omega)).1
          rw [hdec] at hl1
          have Hl1 := Lib.hid hl1
          clear hl1 hdec
          go_wp2_with fail
          refine Hl1.out.mono ?_
          rintro e w1 ⟨rfl, dw⟩
          have hcg1 : w1.cell? ⟨g, 0, none⟩ = some (.slice (some ⟨b, 0, none⟩) hr.length c) := by rw [dw.cell]; exact hcg
          have hm2 := m_Less g w1 _ _ _ hcg1
          have hl2 := hLess b hr.length c (2 * (i : Int) + 1 : Int) (i : Int) (2 * i + 1) i (at0 hr (2 * i + 1)) (at0 hr i) w1 (by omega) rfl (by omega) (by omega) (by rw [dw.cell]; exact (Hcells.out _ (by omega)).1) (by rw [dw.cell]; exact (Hcells.out _ (by omega)).1)
          have hmax : ∀ c, (c = 2 * i + 1 ∨ c = 2 * i + 2) → c < n → at0 hr c ≤ at0 hr (2 * i + 1) := by
            intro c hc hcn
            rcases hc with rfl | rfl <;> omega
          by_cases hlt : at0 hr i < at0 hr (2 * i + 1)
          · have hdec2 : decide (at0 hr i < at0 hr (2 * i + 1)) = true := by simp [hlt]
            rw [hdec2] at hl2
            have Hl2 := Lib.hid hl2
            clear hl2 hdec2
            go_wp2_with fail
            refine Hl2.out.mono ?_
            rintro e w3 ⟨rfl, d3⟩
            have d3' := dw.trans d3
            have hcg3 : w3.cell? ⟨g, 0, none⟩ = some (.slice (some ⟨b, 0, none⟩) hr.length c) := by rw [d3'.cell]; exact hcg
            have hms := m_Swap g w3 _ _ _ hcg3
            have hs3 := hSwap b hr.length c (i : Int) _ i (2 * i + 1) (at0 hr i) (at0 hr (2 * i + 1)) w3 rfl (show (2 * (i : Int) + 1 : Int) = _ by omega) (by omega) (by omega) (by rw [d3'.cell]; exact (Hcells.out _ (by omega)).1) (by rw [d3'.cell]; exact (Hcells.out _ (by omega)).1) (by rw [d3'.frozen]; exact (Hcells.out _ (by omega)).2) (by rw [d3'.frozen]; exact (Hcells.out _ (by omega)).2)
            have Hs3 := Lib.hid hs3
            clear hs3
            go_wp2_with fail
            refine Hs3.out.mono ?_
            rintro e w4 ⟨rfl, d4⟩
            go_wp2_with fail
            have hsw := Hsw.out i (2 * i + 1) w4 (by omega) (by omega) (by obtain ⟨a, rfl⟩ := d3'; obtain ⟨b, rfl⟩ := d4; exact ⟨a + b, by simp [World.setCell, World.drewN, Nat.add_assoc]⟩)
            go_roundw
            case rel => exact ⟨2 * i + 1, _, by go_num, by omega, by omega, by rw [length_sw, Hlen.out], (sw_perm (by omega) (by omega)).trans hperm, fun k hk => by rw [sw_far (by omega) (by omega)]; exact Hfar.out k hk, hd.step hnl hi0 (by omega) (by omega) hlt hmax, hsw.1, hc.trans hsw.2⟩
            case measure => simp [intOf]; omega
          · have hdec2 : decide (at0 hr i < at0 hr (2 * i + 1)) = false := by simp [hlt]
            rw [hdec2] at hl2
            have Hl2 := Lib.hid hl2
            clear hl2 hdec2
            go_wp2_with fail
            refine Hl2.out.mono ?_
            rintro e w3 ⟨rfl, d3⟩
            go_wp2_with fail
            go_ret
            exact ⟨_, hr, rfl, hm.new (dw.trans d3).new, Hlen.out, hperm, Hfar.out, hd.stop (by omega) hmax, hc.trans ((dw.trans d3).new.chg _)⟩
      · have hj3 : decide (2 * (i : Int) + 1 + 1 < (n : Int)) = false := by simp; omega
        have hcg1 := hcg
        have dw := Drew.refl wr
        have hm2 := m_Less g wr _ _ _ hcg1
        have hl2 := hLess b hr.length c (2 * (i : Int) + 1 : Int) (i : Int) (2 * i + 1) i (at0 hr (2 * i + 1)) (at0 hr i) wr (by omega) rfl (by omega) (by omega) (by rw [dw.cell]; exact (Hcells.out _ (by omega)).1) (by rw [dw.cell]; exact (Hcells.out _ (by omega)).1)
        have hmax : ∀ c, (c = 2 * i + 1 ∨ c = 2 * i + 2) → c < n → at0 hr c ≤ at0 hr (2 * i + 1) := by
          intro c hc hcn
          rcases hc with rfl | rfl <;> omega
        by_cases hlt : at0 hr i < at0 hr (2 * i + 1)
        · have hdec2 : decide (at0 hr i < at0 hr (2 * i + 1)) = true := by simp [hlt]
          rw [hdec2] at hl2
          have Hl2 := Lib.hid hl2
          clear hl2 hdec2
          go_wp2_with fail
          refine Hl2.out.mono ?_
          rintro e w3 ⟨rfl, d3⟩
          have d3' := dw.trans d3
          have hcg3 : w3.cell? ⟨g, 0, none⟩ = some (.slice (some ⟨b, 0, none⟩) hr.length c) := by rw [d3'.cell]; exact hcg
          have hms := m_Swap g w3 _ _ _ hcg3
          have hs3 := hSwap b hr.length c (i : Int) _ i (2 * i + 1) (at0 hr i) (at0 hr (2 * i + 1)) w3 rfl (show (2 * (i : Int) + 1 : Int) = _ by omega) (by omega) (by omega) (by rw [d3'.cell]; exact (Hcells.out _ (by omega)).1) (by rw [d3'.cell]; exact (Hcells.out _ (by omega)).1) (by rw [d3'.frozen]; exact (Hcells.out _ (by omega)).2) (by rw [d3'.frozen]; exact (Hcells.out _ (by omega)).2)
          have Hs3 := Lib.hid hs3
          clear hs3
          go_wp2_with fail
          refine Hs3.out.mono ?_
          rintro e w4 ⟨rfl, d4⟩
          go_wp2_with fail
          have hsw := Hsw.out i (2 * i + 1) w4 (by omega) (by omega) (by obtain ⟨a, rfl⟩ := d3'; obtain ⟨b, rfl⟩ := d4; exact ⟨a + b, by simp [World.setCell, World.drewN, Nat.add_assoc]⟩)
          go_roundw
          case rel => exact ⟨2 * i + 1, _, by go_num, by omega, by omega, by rw [length_sw, Hlen.out], (sw_perm (by omega) (by omega)).trans hperm, fun k hk => by rw [sw_far (by omega) (by omega)]; exact Hfar.out k hk, hd.step hnl hi0 (by omega) (by omega) hlt hmax, hsw.1, hc.trans hsw.2⟩
          case measure => simp [intOf]; omega
        · have hdec2 : decide (at0 hr i < at0 hr (2 * i + 1)) = false := by simp [hlt]
          rw [hdec2] at hl2
          have Hl2 := Lib.hid hl2
          clear hl2 hdec2
          go_wp2_with fail
          refine Hl2.out.mono ?_
          rintro e w3 ⟨rfl, d3⟩
          go_wp2_with fail
          go_ret
          exact ⟨_, hr, rfl, hm.new (dw.trans d3).new, Hlen.out, hperm, Hfar.out, hd.stop (by omega) hmax, hc.trans ((dw.trans d3).new.chg _)⟩

end Go.Proofs.Ytfcdhmbooblpoaa
