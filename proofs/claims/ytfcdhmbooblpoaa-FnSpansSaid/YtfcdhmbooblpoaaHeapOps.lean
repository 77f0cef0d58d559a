/- Walks of container/heap's Init and Pop over *timeHeap, and of timeHeap's own next, Pop. -/
import Derived.Test.YtfcdhmbooblpoaaHeap
namespace Go.Proofs.Ytfcdhmbooblpoaa
open Go.RowKit

def InitPost (g : Nat) (S : Nat → Prop) (w : World) (hs : List Int) (e : Ending) (w' : World) : Prop :=
  ∃ hs', e = .returned (.tuple #[]) ∧ HeapM g S w' hs' ∧ hs'.Perm hs ∧ Hp hs' 0 hs'.length ∧ Chg S w w'

set_option maxHeartbeats 400000 in
theorem heapInit (g : Nat) (S : Nat → Prop) (hs : List Int) (w : World) (h : HeapM g S w hs) (hl : hs.length ≤ 1048576) :
    Calls Try.prog 44 #[.iface 47 (.pointer (some ⟨g, 0, none⟩))] w (InitPost g S w hs) := by
  obtain ⟨a, c, hcell⟩ := h.cell
  have hm := m_Len g w _ _ _ hcell
  go_enter Try.func44, Try.ntmps44
  go_wp2_with fail
  refine (hLen a hs.length c w).mono ?_
  rintro e w1 ⟨rfl, rfl⟩
  go_wp2_with fail
  go_loopw [3] (fun s wr => ∃ (i : Int) (hr : List Int), s = .int .i64 i ∧ -1 ≤ i ∧ i < hs.length ∧ hr.length = hs.length ∧ hr.Perm hs ∧ Hp hr (i + 1).toNat hs.length ∧ HeapM g S wr hr ∧ Chg S w wr) (fun s _ => (intOf s + 1).toNat)
  case atStart => exact ⟨(hs.length : Int) / 2 - 1, hs, rfl, by omega, by omega, rfl, List.Perm.refl _, Hp.far (by omega), h, Chg.refl _ _⟩
  case round =>
    obtain ⟨i, hr, rfl, hi0, hi1, hlen, hperm, hp, hm', hc⟩ := hrel
    rename World => wr
    have Hlen := Lib.hid hlen
    clear hlen hm
    by_cases hi : 0 ≤ i
    · obtain ⟨k, rfl⟩ := Int.eq_ofNat_of_zero_le hi
      have hd := heapDown g hs.length k S hr wr hm' (by rw [show ((k : Int) + 1).toNat = k + 1 from by omega] at hp; exact hp) (by rw [Hlen.out]; exact Nat.le_refl _) (by rw [Hlen.out]; exact hl) (by omega)
      have Hd := Lib.hid hd
      clear hd
      go_wp2_with fail
      refine Hd.out.mono ?_
      rintro e w2 ⟨r, hr2, rfl, hm2, hlen2, hperm2, -, hp2, hc2⟩
      go_wp2_with fail
      go_roundw
      case rel => exact ⟨(k : Int) - 1, hr2, rfl, by omega, by omega, by rw [hlen2, Hlen.out], hperm2.trans hperm, by rw [show ((k : Int) - 1 + 1).toNat = k from by omega]; exact hp2, hm2, hc.trans hc2⟩
      case measure => simp [intOf]
    · go_wp2_with fail
      go_end0
      exact ⟨hr, rfl, hm', hperm, by rw [Hlen.out, show (0 : Nat) = (i + 1).toNat from by omega]; exact hp, hc⟩

def PopMPost (g : Nat) (S : Nat → Prop) (w : World) (hs : List Int) (e : Ending) (w' : World) : Prop :=
  ∃ v, e = .returned v ∧ HeapM g S w' (hs.take (hs.length - 1)) ∧ Chg (fun k => k = g) w w'

theorem Row.cut {e : TypeId} {S : Nat → Prop} {w : World} {b n c : Nat} {xs : List Value} (h : Row e 1 S w (.slice (some ⟨b, 0, none⟩) n c) n xs) (m : Nat) (hm : m ≤ n) : Row e 1 S w (.slice (some ⟨b, 0, none⟩) m c) m (xs.take m) := by
  obtain ⟨⟨h1, h2⟩, hS⟩ := h
  rcases h2 with ⟨hv, _⟩ | ⟨g', cap', cur, hv, hb, hh, hn, hmx, hs, ht⟩
  · simp at hv
  · simp only [Value.slice.injEq, Option.some.injEq, Addr.mk.injEq] at hv
    obtain ⟨⟨rfl, _, _⟩, _, rfl⟩ := hv
    refine ⟨⟨by simp at h1 ⊢; omega, .inr ⟨b, c, cur, rfl, Nat.zero_le _, hh, by omega, hmx, hs, ?_⟩⟩, fun k hk => hS k (by rw [own_some hk]; rfl)⟩
    rw [← ht, List.take_take]
    congr 1
    omega

set_option maxHeartbeats 400000 in
theorem hPop (g : Nat) (S : Nat → Prop) (hs : List Int) (w : World) (h : HeapM g S w hs) (hpos : 0 < hs.length) (hl : hs.length ≤ 1048576) :
    Calls Try.prog 65 #[.pointer (some ⟨g, 0, none⟩)] w (PopMPost g S w hs) := by
  obtain ⟨b, c, hcg, hSb, hbg, hcells, -⟩ := h.parts hpos
  have hlast := (hcells (hs.length - 1) (by omega)).1
  obtain ⟨v, h1, h2, h3⟩ := h
  have hv : v = .slice (some ⟨b, 0, none⟩) hs.length c := by simpa [World.cell?, h1] using hcg
  subst hv
  have hf : w.frozen? ⟨g, 0, none⟩ = false := by simp [World.frozen?, h1]
  obtain ⟨_, _, e1, e2, _⟩ := h2.shape
  simp only [Value.slice.injEq] at e1
  obtain ⟨-, -, rfl⟩ := e1
  have fin : PopMPost g S w hs (.returned (.iface 3 (.int .i64 (at0 hs (hs.length - 1))))) (w.setCell ⟨g, 0, none⟩ (.slice (some ⟨b, 0, none⟩) (hs.length - 1) c)) := by
    have hc : Chg (fun k => k = g) w (w.setCell ⟨g, 0, none⟩ (.slice (some ⟨b, 0, none⟩) (hs.length - 1) c)) := (Chg.refl (fun k => k = g) w).setCell (a := ⟨g, 0, none⟩) _ (fun _ => rfl)
    have ht : (hs.take (hs.length - 1)).length = hs.length - 1 := by simp
    refine ⟨_, rfl, ⟨_, by simp [World.setCell, Array.getElem?_modify, h1]; rfl, ⟨?_, fun x hx => h2.2 x (List.mem_of_mem_take hx)⟩, h3⟩, hc⟩
    rw [ht, List.map_take]
    exact (h2.1.cut _ (by omega)).chg hc (fun k _ hk e => h3 (e ▸ hk))
  have Fin := Lib.hid fin
  have hn1 : ((hs.length : Int) - 1) = ((hs.length - 1 : Nat) : Int) := by omega
  have hlt : hs.length - 1 < hs.length := by omega
  clear fin hcells h1 h2
  go_enter Try.func65, Try.ntmps65
  go_wp2_with fail
  go_ret
  exact Fin.out


def HPopPost (g : Nat) (S : Nat → Prop) (w : World) (hs : List Int) (e : Ending) (w' : World) : Prop :=
  ∃ v hs', e = .returned v ∧ HeapM g S w' hs' ∧ hs.Perm (at0 hs 0 :: hs') ∧ Hp hs' 0 hs'.length ∧ Chg (fun k => k = g ∨ S k) w w'

theorem pop_perm {hs h2 : List Int} (hpos : 0 < hs.length) (hlen : h2.length = hs.length) (hp : h2.Perm (sw hs 0 (hs.length - 1))) (hfar : ∀ k, hs.length - 1 ≤ k → h2[k]? = (sw hs 0 (hs.length - 1))[k]?) :
    hs.Perm (at0 hs 0 :: h2.take (hs.length - 1)) := by
  have h1 : h2 = h2.take (hs.length - 1) ++ [at0 hs 0] := by
    have hk : hs.length - 1 < h2.length := by omega
    have h3 : h2[hs.length - 1]? = some (at0 hs 0) := by
      rw [hfar _ (Nat.le_refl _), at0_some (by rw [length_sw]; omega), at0_sw (by omega) (by omega), if_pos rfl]
    have h4 : h2 = h2.take (hs.length - 1 + 1) := by rw [List.take_of_length_le (by omega)]
    have h5 : h2[hs.length - 1] = at0 hs 0 := by rw [List.getElem?_eq_getElem hk] at h3; exact Option.some.inj h3
    rw [List.take_succ_eq_append_getElem hk, h5] at h4
    exact h4
  have h6 : h2.Perm hs := hp.trans (sw_perm (by omega) (by omega))
  rw [h1] at h6
  exact (h6.symm.trans (List.perm_append_singleton _ _))

set_option maxHeartbeats 400000 in
theorem heapPop (g : Nat) (S : Nat → Prop) (hs : List Int) (w : World) (h : HeapM g S w hs) (hp : Hp hs 0 hs.length) (hpos : 0 < hs.length) (hl : hs.length ≤ 1048576) :
    Calls Try.prog 45 #[.iface 47 (.pointer (some ⟨g, 0, none⟩))] w (HPopPost g S w hs) := by
  obtain ⟨b, c, hcg, hSb, hbg, hcells, hsw⟩ := h.parts hpos
  have hm1 := m_Len g w _ _ _ hcg
  have hm2 := m_Swap g w _ _ _ hcg
  have hn1 : ((hs.length : Int) - 1) = ((hs.length - 1 : Nat) : Int) := by omega
  have hs1 := hSwap b hs.length c 0 ((hs.length - 1 : Nat) : Int) 0 (hs.length - 1) (at0 hs 0) (at0 hs (hs.length - 1)) w rfl rfl (by omega) (by omega) (hcells 0 (by omega)).1 (hcells _ (by omega)).1 (hcells 0 (by omega)).2 (hcells _ (by omega)).2
  have Hs1 := Lib.hid hs1
  have Hsw := Lib.hid hsw
  clear hcells hs1 hsw
  go_enter Try.func45, Try.ntmps45
  go_wp2_with fail
  refine (hLen _ hs.length c w).mono ?_
  rintro e w1 ⟨rfl, rfl⟩
  go_wp2_with fail
  refine Hs1.out.mono ?_
  rintro e w2 ⟨rfl, d2⟩
  obtain ⟨hmw, hcw⟩ := Hsw.out 0 (hs.length - 1) w2 (by omega) (by omega) d2
  have hd := heapDown g (hs.length - 1) 0 S _ w2 hmw (hp.swap (Nat.le_refl _) hpos) (by rw [length_sw]; omega) (by rw [length_sw]; exact hl) (by omega)
  have Hd := Lib.hid hd
  clear hd d2 hm1 hm2
  go_wp2_with fail
  refine Hd.out.mono ?_
  rintro e w3 ⟨r, h2, rfl, hm3, hlen3, hperm3, hfar3, hp3, hc3⟩
  rw [length_sw] at hlen3
  have hm4 := m_Pop g w3
  have hpop := hPop g S h2 w3 hm3 (by omega) (by omega)
  have Hpop := Lib.hid hpop
  have Hlen := Lib.hid hlen3
  clear hpop hlen3
  go_wp2_with fail
  refine Hpop.out.mono ?_
  rintro e w4 ⟨v, rfl, hm5, hc5⟩
  go_wp2_with fail
  go_ret
  rw [Hlen.out] at hm5
  refine ⟨_, h2.take (hs.length - 1), rfl, hm5, pop_perm hpos Hlen.out hperm3 hfar3, ?_, (((hcw.trans hc3).mono fun k _ hk => .inr hk).trans (hc5.mono fun k _ hk => .inl hk))⟩
  have hl2 : (h2.take (hs.length - 1)).length = hs.length - 1 := by have := Hlen.out; simp; omega
  rw [hl2]
  exact hp3.same fun k hk => by rw [List.getElem?_take_of_lt hk]

/-- The heap behind g hands out D, largest first. -/
def HeapD (g : Nat) (S : Nat → Prop) (w : World) (D : List Int) : Prop := ∃ hs, HeapM g S w hs ∧ Hp hs 0 hs.length ∧ hs.Perm D ∧ Desc D
theorem HeapD.chg {g : Nat} {S T : Nat → Prop} {w w' : World} {D : List Int} (h : HeapD g S w D) (c : Chg T w w') (hg : ¬ T g) (hT : ∀ k, k < w.heap.size → S k → ¬ T k) : HeapD g S w' D := by
  obtain ⟨hs, h1, h2⟩ := h
  exact ⟨hs, h1.chg c hg hT, h2⟩

def NextPost (g : Nat) (S : Nat → Prop) (w : World) (d : Int) (D : List Int) (e : Ending) (w' : World) : Prop :=
  e = .returned (.int .i64 d) ∧ HeapD g S w' D ∧ Chg (fun k => k = g ∨ S k) w w'

set_option maxHeartbeats 400000 in
theorem heapNext (g : Nat) (S : Nat → Prop) (d : Int) (D : List Int) (w : World) (h : HeapD g S w (d :: D)) (hl : D.length ≤ 1000000) :
    Calls Try.prog 39 #[.pointer (some ⟨g, 0, none⟩)] w (NextPost g S w d D) := by
  obtain ⟨hs, hm, hp, hperm, hd⟩ := h
  have hlen : hs.length = D.length + 1 := by rw [hperm.length_eq]; simp
  have htop := top_head hp hperm hd
  obtain ⟨b, c, hcg, hSb, hbg, hcells, hsw⟩ := hm.parts (by omega)
  have h0 := (hcells 0 (by omega)).1
  rw [htop] at h0
  have hpop := heapPop g S hs w hm hp (by omega) (by omega)
  have Hpop := Lib.hid hpop
  have hpos : 0 < hs.length := by omega
  clear hcells hsw hpop
  have Hlen := Lib.hid hlen
  have Htop := Lib.hid htop
  clear hlen htop
  go_enter Try.func39, Try.ntmps39
  go_wp2_with fail
  refine Hpop.out.mono ?_
  rintro e w1 ⟨v, h2, rfl, hm2, hperm2, hp2, hc2⟩
  go_wp2_with fail
  go_ret
  rw [Htop.out] at hperm2
  exact ⟨rfl, ⟨h2, hm2, hp2, (List.perm_cons _).1 (hperm2.symm.trans hperm), (List.pairwise_cons.1 hd).2⟩, hc2⟩

end Go.Proofs.Ytfcdhmbooblpoaa
