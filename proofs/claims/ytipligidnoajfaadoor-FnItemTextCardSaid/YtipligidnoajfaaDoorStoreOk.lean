/- StoreValid: the program's and the reference's. -/
import Derived.Test.YtipligidnoajfaaDoorHeld
import Derived.Test.YtipligidnoajfaaDoorSame
namespace Go.Proofs.YtipligidnoajfaaDoor
open Go.RowKit

/-- a block may follow blocks with these bytes, the last id being l -/
def heldOk (l : Int) (seen : List (List Int)) (h : HeldR) : Bool :=
  decide (l < h.id) && decide (h.id ≤ 99) && decide (1 ≤ h.uses) && decide (h.uses ≤ 999) && blockOk h.bytes && !(seen.contains h.bytes)
def heldsFrom (l : Int) (seen : List (List Int)) : List HeldR → Bool
  | [] => true
  | h :: r => heldOk l seen h && heldsFrom h.id (seen ++ [h.bytes]) r
def storeOk (os : List HeldR) : Bool := decide (os.length ≤ 16) && heldsFrom 0 [] os

theorem cell_alloc (w : World) (c : Array Value) (e : TypeId) (i : Nat) : (w.alloc (.cells c e)).cell? ⟨w.heap.size, i, none⟩ = c[i]? := by
  simp only [World.cell?, heap_alloc_new]
  rfl

theorem Helds.bytesAt {S : Nat → Prop} {w : World} {v : Value} {os : List HeldR} (h : Helds S w v os) {i : Nat} {o : HeldR} (ho : os[i]? = some o) : ∃ u, Ints S w u o.bytes := by
  obtain ⟨_, _, _, u, _, _, _, _, _, _, _, r⟩ := h.at ho
  exact ⟨u, r⟩

set_option maxRecDepth 4000 in
set_option maxHeartbeats 2000000 in
theorem implStoreValid {S : Nat → Prop} (v : Value) (os : List HeldR) (w : World) (h : Helds S w v os) :
    Calls Tryd.prog 40 #[v] w fun e w' => e = .returned (.bool (storeOk os)) ∧ New w w' := by
  have h0 := h
  obtain ⟨-, a, c, rfl, h1, h2, -⟩ := h
  unfold maxLen at h2
  by_cases hl : 16 < os.length
  · go_enter Tryd.func40, Tryd.ntmps40
    go_wp2
    go_ret
    exact ⟨ret_bool (by simp [storeOk]; omega), New.refl _⟩
  · have hat := fun (W : World) (n : New w W) (k : Nat) (o : HeldR) (ho : os[k]? = some o) => Helds.at (Recs.new h0 n) ho
    have Hat := Lib.hid hat
    clear hat
    go_enter Tryd.func40, Tryd.ntmps40
    go_wp2
    go_loopg [3, 13] os.length (fun gk q i wr => ∃ (k : Nat) (l : Int), gk = os.length - k ∧ k ≤ os.length ∧ i = .int .i64 k ∧ q = .int .i64 l ∧ I64 l ∧ New w wr ∧ heldsFrom 0 [] os = heldsFrom l ((os.take k).map HeldR.bytes) (os.drop k))
    case atStart => exact ⟨0, 0, by omega, Nat.zero_le _, rfl, rfl, I64.mk (by omega) (by omega), New.refl _, rfl⟩
    case round =>
      obtain ⟨k, l, hgk, hk, rfl, rfl, hl64, hn, he⟩ := hrel
      have Hgk := Lib.hid hgk
      have He := Lib.hid he
      clear he hgk
      by_cases hlt : k < os.length
      · obtain ⟨o, ho⟩ := get_of hlt
        obtain ⟨b, off, c', u, e1, hb, c0, c1, c2, i0, i2, r2⟩ := Hat.out wr hn k o ho
        simp only [Value.slice.injEq] at e1
        obtain ⟨rfl, -, rfl⟩ := e1
        have hd := drop_of ho
        have hfr : heldsFrom 0 [] os = (heldOk l ((os.take k).map HeldR.bytes) o && heldsFrom o.id (((os.take k).map HeldR.bytes) ++ [o.bytes]) (os.drop (k + 1))) := by
          rw [He.out, hd, heldsFrom]
        have htk : (os.take (k + 1)).map HeldR.bytes = ((os.take k).map HeldR.bytes) ++ [o.bytes] := by
          obtain ⟨hk', e⟩ := List.getElem?_eq_some_iff.1 ho
          rw [List.take_succ_eq_append_getElem hk', e, List.map_append]; rfl
        have Hfr := Lib.hid hfr
        have Htk := Lib.hid htk
        have Ho := Lib.hid ho
        have hcall := fun (W : World) (n : New wr W) => implBlock u o.bytes W (r2.new n)
        have Hcall := Lib.hid hcall
        have R2 := Lib.hid r2
        obtain ⟨au, cu, rfl, u1, ⟨u2, -⟩, -, -⟩ := r2
        unfold maxLen at u2
        have hN : ∀ ob, New wr (wr.alloc ob) := fun ob => (New.refl wr).alloc ob
        have HN := Lib.hid hN
        clear hd hfr htk ho hcall hN
        by_cases hA : o.id ≤ l
        · have hf : heldsFrom 0 [] os = false := by rw [Hfr.out]; simp [heldOk, show ¬ (l < o.id) by omega]
          have Hf := Lib.hid hf
          clear hf
          go_wp2_with fail
          go_ret
          exact ⟨ret_bool (by simp [storeOk, Hf.out]), hn.trans (HN.out _)⟩
        · by_cases hB : 99 < o.id
          · have hf : heldsFrom 0 [] os = false := by rw [Hfr.out]; simp [heldOk, show ¬ (o.id ≤ 99) by omega]
            have Hf := Lib.hid hf
            clear hf
            go_wp2_with fail
            go_ret
            exact ⟨ret_bool (by simp [storeOk, Hf.out]), hn.trans (HN.out _)⟩
          · by_cases hC : o.uses < 1
            · have hf : heldsFrom 0 [] os = false := by rw [Hfr.out]; simp [heldOk, show ¬ (1 ≤ o.uses) by omega]
              have Hf := Lib.hid hf
              clear hf
              go_wp2_with fail
              go_ret
              exact ⟨ret_bool (by simp [storeOk, Hf.out]), hn.trans (HN.out _)⟩
            · by_cases hD : 999 < o.uses
              · have hf : heldsFrom 0 [] os = false := by rw [Hfr.out]; simp [heldOk, show ¬ (o.uses ≤ 999) by omega]
                have Hf := Lib.hid hf
                clear hf
                go_wp2_with fail
                go_ret
                exact ⟨ret_bool (by simp [storeOk, Hf.out]), hn.trans (HN.out _)⟩
              · rcases hbo : blockOk o.bytes with _ | _
                · rw [hbo] at Hcall
                  have hf : heldsFrom 0 [] os = false := by rw [Hfr.out]; simp [heldOk, hbo]
                  have Hf := Lib.hid hf
                  clear hf
                  go_wp2_with fail
                  refine (Hcall.out _ (HN.out _)).mono ?_
                  rintro e w1 ⟨rfl, rfl⟩
                  go_wp2_with fail
                  go_ret
                  exact ⟨ret_bool (by simp [storeOk, Hf.out]), hn.trans (HN.out _)⟩
                · rw [hbo] at Hcall
                  have Hbo := Lib.hid hbo
                  clear hbo
                  have hcap : k ≤ c := by omega
                  go_wp2_with fail
                  refine (Hcall.out _ (HN.out _)).mono ?_
                  rintro e w1 ⟨rfl, rfl⟩
                  go_wp2_with fail
                  have k0 : (wr.alloc (.cells #[.int .i64 o.id, .slice au o.bytes.length cu, .int .i64 o.uses] 47)).cell? ⟨wr.heap.size, 0, none⟩ = some (.int .i64 o.id) := by rw [cell_alloc]; rfl
                  have k1 : (wr.alloc (.cells #[.int .i64 o.id, .slice au o.bytes.length cu, .int .i64 o.uses] 47)).cell? ⟨wr.heap.size, 1, none⟩ = some (.slice au o.bytes.length cu) := by rw [cell_alloc]; rfl
                  have z0 : wr.heap.size < (wr.alloc (.cells #[.int .i64 o.id, .slice au o.bytes.length cu, .int .i64 o.uses] 47)).heap.size := by simp
                  have nb := HN.out (.cells #[.int .i64 o.id, .slice au o.bytes.length cu, .int .i64 o.uses] 47)
                  generalize hwb : wr.alloc (.cells #[.int .i64 o.id, .slice au o.bytes.length cu, .int .i64 o.uses] 47) = wb at *
                  have Hwb := Lib.hid hwb
                  clear hwb
                  go_loopg [47] k (fun gk s wr => ∃ (m : Nat), gk = k - m ∧ m ≤ k ∧ s = .int .i64 m ∧ New wb wr ∧ o.bytes ∉ (os.take m).map HeldR.bytes)
                  case atStart => exact ⟨0, by omega, Nat.zero_le _, rfl, New.refl _, by simp⟩
                  case round =>
                    obtain ⟨m, hgm, hm, rfl, nx, hseen⟩ := hrel
                    have Hgm := Lib.hid hgm
                    have Hseen := Lib.hid hseen
                    clear hgm hseen
                    by_cases hmk : m < k
                    · obtain ⟨p, hp⟩ := get_of (show m < os.length by omega)
                      obtain ⟨b', off', c', u', e1, hb', d0, d1, d2, j0, j2, s2⟩ := Hat.out wr ((hn.trans nb).trans nx) m p hp
                      simp only [Value.slice.injEq, Option.some.injEq, Addr.mk.injEq] at e1
                      obtain ⟨⟨rfl, rfl, -⟩, -, rfl⟩ := e1
                      have S2 := Lib.hid s2
                      obtain ⟨au', cu', rfl, v1, ⟨v2, -⟩, -, -⟩ := s2
                      unfold maxLen at v2
                      have k0' := nx.cell k0
                      have k1' := nx.cell k1
                      have z1 := Nat.lt_of_lt_of_le z0 nx.size
                      have hnx : ∀ ob, New wr (wr.alloc ob) := fun ob => (New.refl wr).alloc ob
                      have Hnx := Lib.hid hnx
                      have htk : (os.take (m + 1)).map HeldR.bytes = ((os.take m).map HeldR.bytes) ++ [p.bytes] := by
                        obtain ⟨hk', e⟩ := List.getElem?_eq_some_iff.1 hp
                        rw [List.take_succ_eq_append_getElem hk', e, List.map_append]; rfl
                      have Htm := Lib.hid htk
                      have Hp := Lib.hid hp
                      have hq := fun (W : World) (n : New wr W) => slEqual (.slice au' p.bytes.length cu') (.slice au o.bytes.length cu) p.bytes o.bytes W (S2.out.new n) ((R2.out.new (nb.trans nx)).new n)
                      clear htk hp hnx
                      by_cases hpo : p.bytes = o.bytes
                      · rw [decide_eq_true hpo] at hq
                        have Hq := Lib.hid hq
                        have hf : heldsFrom 0 [] os = false := by
                          rw [Hfr.out]
                          have hmem : o.bytes ∈ (os.take k).map HeldR.bytes := by
                            rw [← hpo]
                            exact List.mem_map_of_mem (List.mem_of_getElem? (show (os.take k)[m]? = some p by rw [List.getElem?_take_of_lt hmk]; exact Hp.out))
                          rw [heldOk, List.contains_iff_mem.2 hmem]; simp
                        have Hf := Lib.hid hf
                        clear hf hq hpo
                        go_wp2_with fail
                        refine (Hq.out _ (Hnx.out _)).mono ?_
                        rintro e w2 ⟨rfl, n2⟩
                        go_wp2_with fail
                        go_ret
                        exact ⟨ret_bool (by simp [storeOk, Hf.out]), (((hn.trans nb).trans nx).trans (Hnx.out _)).trans n2.new⟩
                      · rw [decide_eq_false hpo] at hq
                        have Hq := Lib.hid hq
                        have Hpo := Lib.hid hpo
                        clear hq hpo
                        go_wp2_with fail
                        refine (Hq.out _ (Hnx.out _)).mono ?_
                        rintro e w2 ⟨rfl, n2⟩
                        go_wp2_with fail
                        go_roundg (k - (m + 1))
                        case measure => rw [Hgm.out]; omega
                        case rel =>
                          refine ⟨m + 1, rfl, by omega, by go_num, (nx.trans (Hnx.out _)).trans n2.new, ?_⟩
                          rw [Htm.out, List.mem_append, List.mem_singleton]
                          rintro (h | h)
                          · exact Hseen.out h
                          · exact Hpo.out h.symm
                    · have emk : m = k := by omega
                      have hok : heldOk l ((os.take k).map HeldR.bytes) o = true := by
                        have hs := Hseen.out
                        rw [emk] at hs
                        have : ((os.take k).map HeldR.bytes).contains o.bytes = false := by
                          rcases hc : ((os.take k).map HeldR.bytes).contains o.bytes with _ | _
                          · rfl
                          · exact absurd (List.contains_iff_mem.1 hc) hs
                        simp only [heldOk, this, Hbo.out, decide_eq_true hA, decide_eq_true hB, decide_eq_true hC, decide_eq_true hD]
                        rfl
                      have Hok := Lib.hid hok
                      have k0' := nx.cell k0
                      clear emk hok
                      go_wp2_with fail
                      go_roundg (os.length - (k + 1))
                      case measure => rw [Hgk.out]; omega
                      case rel =>
                        refine ⟨k + 1, o.id, rfl, by omega, by go_num, rfl, i0, (hn.trans nb).trans nx, ?_⟩
                        rw [Hfr.out, Hok.out, Htk.out]; rfl
      · go_wp2_with fail
        go_ret
        exact ⟨ret_bool (by rw [storeOk, He.out, drop_end hlt, heldsFrom, decide_eq_true (show os.length ≤ 16 by omega)]; rfl), hn⟩

set_option maxRecDepth 4000 in
set_option maxHeartbeats 4000000 in
theorem specStoreValid {S : Nat → Prop} (v : Value) (os : List HeldR) (w : World) (h : Helds S w v os) :
    Calls Tryd.prog 16 #[v] w fun e w' => e = .returned (.bool (storeOk os)) ∧ New w w' := by
  have h0 := h
  obtain ⟨-, a, c, rfl, h1, h2, -⟩ := h
  unfold maxLen at h2
  have hat := fun (W : World) (n : New w W) (k : Nat) (o : HeldR) (ho : os[k]? = some o) => Helds.at (Recs.new h0 n) ho
  have Hat := Lib.hid hat
  clear hat
  go_enter Tryd.func16, Tryd.ntmps16
  go_wp2
  go_loopg [3] os.length (fun gk i wr => ∃ (k : Nat) (l : Int), gk = os.length - k ∧ k ≤ os.length ∧ i = .int .i64 k ∧ 0 ≤ l ∧ ((k = 0 ∧ l = 0) ∨ ∃ p, 0 < k ∧ os[k-1]? = some p ∧ l = p.id) ∧ New w wr ∧ heldsFrom 0 [] os = heldsFrom l ((os.take k).map HeldR.bytes) (os.drop k))
  case atStart => exact ⟨0, 0, by omega, Nat.zero_le _, rfl, by omega, .inl ⟨rfl, rfl⟩, New.refl _, rfl⟩
  case round =>
    obtain ⟨k, l, hgk, hk, rfl, hl0, hlp, hn, he⟩ := hrel
    have Hgk := Lib.hid hgk
    have He := Lib.hid he
    clear he hgk
    by_cases hlt : k < os.length
    · obtain ⟨o, ho⟩ := get_of hlt
      obtain ⟨b, off, c', u, e1, hb, c0, c1, c2, i0, i2, r2⟩ := Hat.out wr hn k o ho
      simp only [Value.slice.injEq] at e1
      obtain ⟨rfl, -, rfl⟩ := e1
      have hd := drop_of ho
      have hfr : heldsFrom 0 [] os = (heldOk l ((os.take k).map HeldR.bytes) o && heldsFrom o.id (((os.take k).map HeldR.bytes) ++ [o.bytes]) (os.drop (k + 1))) := by
        rw [He.out, hd, heldsFrom]
      have htk : (os.take (k + 1)).map HeldR.bytes = ((os.take k).map HeldR.bytes) ++ [o.bytes] := by
        obtain ⟨hk', e⟩ := List.getElem?_eq_some_iff.1 ho
        rw [List.take_succ_eq_append_getElem hk', e, List.map_append]; rfl
      have Hfr := Lib.hid hfr
      have Htk := Lib.hid htk
      have Ho := Lib.hid ho
      have R2 := Lib.hid r2
      obtain ⟨au, cu, rfl, u1, ⟨u2, -⟩, -, -⟩ := r2
      unfold maxLen at u2
      have k0 : (wr.alloc (.cells #[.int .i64 o.id, .slice au o.bytes.length cu, .int .i64 o.uses] 47)).cell? ⟨wr.heap.size, 0, none⟩ = some (.int .i64 o.id) := by rw [cell_alloc]; rfl
      have k1 : (wr.alloc (.cells #[.int .i64 o.id, .slice au o.bytes.length cu, .int .i64 o.uses] 47)).cell? ⟨wr.heap.size, 1, none⟩ = some (.slice au o.bytes.length cu) := by rw [cell_alloc]; rfl
      have k2 : (wr.alloc (.cells #[.int .i64 o.id, .slice au o.bytes.length cu, .int .i64 o.uses] 47)).cell? ⟨wr.heap.size, 2, none⟩ = some (.int .i64 o.uses) := by rw [cell_alloc]; rfl
      have nb : New wr (wr.alloc (.cells #[.int .i64 o.id, .slice au o.bytes.length cu, .int .i64 o.uses] 47)) := (New.refl wr).alloc _
      have z0 : wr.heap.size < (wr.alloc (.cells #[.int .i64 o.id, .slice au o.bytes.length cu, .int .i64 o.uses] 47)).heap.size := by simp
      clear hd hfr htk ho
      go_wp2_with fail
      generalize hwb : wr.alloc (.cells #[.int .i64 o.id, .slice au o.bytes.length cu, .int .i64 o.uses] 47) = wb at *
      have Hwb := Lib.hid hwb
      have hcall := fun (W : World) (n : New wb W) => specBlock (.slice au o.bytes.length cu) o.bytes W (R2.out.new (nb.trans n))
      have Hcall := Lib.hid hcall
      have hN : ∀ m, New wb (wb.drewN m) := fun m => (New.refl _).drewN m
      have HN := Lib.hid hN
      clear hwb hcall hN
      rcases hin : inB o.id 1 99 with _ | _
      · have hf : heldsFrom 0 [] os = false := by
          rw [Hfr.out, heldOk]
          by_cases hA : l < o.id
          · have : ¬ (o.id ≤ 99) := fun h => by
              have : inB o.id 1 99 = true := by simp [inB]; omega
              rw [hin] at this; cases this
            simp [this]
          · simp [hA]
        have Hf := Lib.hid hf
        have Hin := Lib.hid hin
        clear hf hin
        go_quiet ((go_at_call 33; refine quiet_of_eq (in_is Hin.out _)))
        go_wp2_with fail
        go_ret
        exact ⟨ret_bool (by simp [storeOk, Hf.out]), (hn.trans nb).trans (HN.out _)⟩
      · have hid : 1 ≤ o.id ∧ o.id ≤ 99 := by simpa [inB] using hin
        rcases hbo : blockOk o.bytes with _ | _
        · rw [hbo] at Hcall
          have hf : heldsFrom 0 [] os = false := by rw [Hfr.out]; simp [heldOk, hbo]
          have Hf := Lib.hid hf
          clear hf hbo
          go_quiet (first | (go_at_call 33; refine quiet_of_eq (in_any _ _ _ _)) | (go_at_call 34; exact quiet_of_eq (Hcall.out _ (HN.out _))))
          go_wp2_with fail
          go_ret
          exact ⟨ret_bool (by simp [storeOk, Hf.out]), (hn.trans nb).trans (HN.out _)⟩
        · rw [hbo] at Hcall
          have Hbo := Lib.hid hbo
          clear hbo
          rcases hus : inB o.uses 1 999 with _ | _
          · have hf : heldsFrom 0 [] os = false := by
              rw [Hfr.out, heldOk]
              by_cases hA : 1 ≤ o.uses
              · have : ¬ (o.uses ≤ 999) := fun h => by
                  have : inB o.uses 1 999 = true := by simp [inB]; omega
                  rw [hus] at this; cases this
                simp [this]
              · simp [hA]
            have Hf := Lib.hid hf
            clear hf
            go_quiet (first | (go_at_call 33; refine quiet_of_eq (in_any _ _ _ _)) | (go_at_call 34; exact quiet_of_eq (Hcall.out _ (HN.out _))))
            go_wp2_with fail
            go_ret
            exact ⟨ret_bool (by simp [storeOk, Hf.out]), (hn.trans nb).trans (HN.out _)⟩
          · have hU : 1 ≤ o.uses ∧ o.uses ≤ 999 := by simpa [inB] using hus
            by_cases hk0 : k = 0
            · have hA : l < o.id ∧ o.id ≤ 99 := by
                rcases hlp with ⟨-, h⟩ | ⟨_, h, _⟩
                · omega
                · omega
              subst hk0
              clear hlp
              go_quiet (first | (go_at_call 33; refine quiet_of_eq (in_any _ _ _ _)) | (go_at_call 34; exact quiet_of_eq (Hcall.out _ (HN.out _))))
              go_wp2_with fail
              go_loopg [5] 0 (fun gk s wr => gk = 0 ∧ s = .int .i64 0 ∧ New wb wr)
              case atStart => exact ⟨rfl, rfl, HN.out _⟩
              case round =>
                obtain ⟨rfl, rfl, nx⟩ := hrel
                have hok : heldOk l ((os.take 0).map HeldR.bytes) o = true := by
                  simp only [heldOk, Hbo.out, decide_eq_true hA.1, decide_eq_true hA.2, decide_eq_true hU.1, decide_eq_true hU.2]
                  rfl
                have Hok := Lib.hid hok
                clear hok
                go_wp2_with fail
                go_roundg (os.length - 1)
                case measure => rw [Hgk.out]; omega
                case rel =>
                  refine ⟨1, o.id, rfl, by omega, rfl, by omega, .inr ⟨o, by omega, by simpa using Ho.out, rfl⟩, (hn.trans nb).trans nx, ?_⟩
                  rw [Hfr.out, Hok.out, Htk.out]; rfl
            · have hpr : ∃ p, os[k-1]? = some p ∧ l = p.id := by
                rcases hlp with ⟨h, -⟩ | ⟨p, _, h1, h2⟩
                · exact absurd h hk0
                · exact ⟨p, h1, h2⟩
              obtain ⟨p, hp, rfl⟩ := hpr
              clear hlp
              obtain ⟨b', off', c', u', e1, -, d0, -, -, j0, -, -⟩ := Hat.out wb (hn.trans nb) (k-1) p hp
              simp only [Value.slice.injEq, Option.some.injEq, Addr.mk.injEq] at e1
              obtain ⟨⟨rfl, rfl, -⟩, -, rfl⟩ := e1
              have Hp := Lib.hid hp
              clear hp
              have hpos : decide (0 < k) = true := by simp; omega
              by_cases hge : o.id ≤ p.id
              · have hf : heldsFrom 0 [] os = false := by rw [Hfr.out, heldOk]; simp [show ¬ (p.id < o.id) by omega]
                have Hf := Lib.hid hf
                clear hf
                go_quiet (first | (go_at_call 33; refine quiet_of_eq (in_any _ _ _ _)) | (go_at_call 34; exact quiet_of_eq (Hcall.out _ (HN.out _))))
                go_wp2_with fail
                go_ret
                exact ⟨ret_bool (by simp [storeOk, Hf.out]), (hn.trans nb).trans (HN.out _)⟩
              · have hA : p.id < o.id ∧ o.id ≤ 99 := by omega
                go_quiet (first | (go_at_call 33; refine quiet_of_eq (in_any _ _ _ _)) | (go_at_call 34; exact quiet_of_eq (Hcall.out _ (HN.out _))))
                go_wp2_with fail
                go_loopg [5] k (fun gk s wr => ∃ (m : Nat), gk = k - m ∧ m ≤ k ∧ s = .int .i64 m ∧ New wb wr ∧ o.bytes ∉ (os.take m).map HeldR.bytes)
                case atStart => exact ⟨0, by omega, Nat.zero_le _, rfl, HN.out _, by simp⟩
                case round =>
                  obtain ⟨m, hgm, hm, rfl, nx, hseen⟩ := hrel
                  have Hgm := Lib.hid hgm
                  have Hseen := Lib.hid hseen
                  clear hgm hseen
                  by_cases hmk : m < k
                  · obtain ⟨p', hp'⟩ := get_of (show m < os.length by omega)
                    obtain ⟨b', off', c', u', e1, hb', d0, d1, d2, j0, j2, s2⟩ := Hat.out wr ((hn.trans nb).trans nx) m p' hp'
                    simp only [Value.slice.injEq, Option.some.injEq, Addr.mk.injEq] at e1
                    obtain ⟨⟨rfl, rfl, -⟩, -, rfl⟩ := e1
                    have S2 := Lib.hid s2
                    obtain ⟨au', cu', rfl, v1, ⟨v2, -⟩, -, -⟩ := s2
                    unfold maxLen at v2
                    have k1' := nx.cell k1
                    have htk : (os.take (m + 1)).map HeldR.bytes = ((os.take m).map HeldR.bytes) ++ [p'.bytes] := by
                      obtain ⟨hk', e⟩ := List.getElem?_eq_some_iff.1 hp'
                      rw [List.take_succ_eq_append_getElem hk', e, List.map_append]; rfl
                    have Htm := Lib.hid htk
                    have Hp' := Lib.hid hp'
                    have hq : ∀ n, Calls Tryd.prog 35 #[.slice au' p'.bytes.length cu', .slice au o.bytes.length cu] (wr.drewN n) fun e w'' => e = .returned (.bool (decide (p'.bytes = o.bytes))) ∧ ∃ m, w'' = wr.drewN m := fun n => quiet_of_drew (l2Same (.slice au' p'.bytes.length cu') (.slice au o.bytes.length cu) p'.bytes o.bytes _ (S2.out.new ((New.refl _).drewN n)) ((R2.out.new (nb.trans nx)).new ((New.refl _).drewN n)))
                    clear htk hp'
                    by_cases hp'o : p'.bytes = o.bytes
                    · rw [decide_eq_true hp'o] at hq
                      have Hq := Lib.hid hq
                      have hf : heldsFrom 0 [] os = false := by
                        rw [Hfr.out]
                        have hmem : o.bytes ∈ (os.take k).map HeldR.bytes := by
                          rw [← hp'o]
                          exact List.mem_map_of_mem (List.mem_of_getElem? (show (os.take k)[m]? = some p' by rw [List.getElem?_take_of_lt hmk]; exact Hp'.out))
                        rw [heldOk, List.contains_iff_mem.2 hmem]; simp
                      have Hf := Lib.hid hf
                      clear hf hq hp'o
                      go_wp2_with fail
                      go_quiet ((go_at_call 35; exact Hq.out _))
                      go_wp2_with fail
                      go_ret
                      exact ⟨ret_bool (by simp [storeOk, Hf.out]), ((hn.trans nb).trans nx).trans ((New.refl _).drewN _)⟩
                    · rw [decide_eq_false hp'o] at hq
                      have Hq := Lib.hid hq
                      have Hp'o := Lib.hid hp'o
                      clear hq hp'o
                      go_wp2_with fail
                      go_quiet ((go_at_call 35; exact Hq.out _))
                      go_wp2_with fail
                      go_roundg (k - (m + 1))
                      case measure => rw [Hgm.out]; omega
                      case rel =>
                        refine ⟨m + 1, rfl, by omega, by go_num, nx.trans ((New.refl _).drewN _), ?_⟩
                        rw [Htm.out, List.mem_append, List.mem_singleton]
                        rintro (h | h)
                        · exact Hseen.out h
                        · exact Hp'o.out h.symm
                  · have emk : m = k := by omega
                    have hok : heldOk p.id ((os.take k).map HeldR.bytes) o = true := by
                      have hs := Hseen.out
                      rw [emk] at hs
                      have : ((os.take k).map HeldR.bytes).contains o.bytes = false := by
                        rcases hc : ((os.take k).map HeldR.bytes).contains o.bytes with _ | _
                        · rfl
                        · exact absurd (List.contains_iff_mem.1 hc) hs
                      simp only [heldOk, this, Hbo.out, decide_eq_true hA.1, decide_eq_true hA.2, decide_eq_true hU.1, decide_eq_true hU.2]
                      rfl
                    have Hok := Lib.hid hok
                    clear emk hok
                    go_wp2_with fail
                    go_roundg (os.length - (k + 1))
                    case measure => rw [Hgk.out]; omega
                    case rel =>
                      refine ⟨k + 1, o.id, rfl, by omega, by go_num, by omega, .inr ⟨o, by omega, by simpa using Ho.out, rfl⟩, (hn.trans nb).trans nx, ?_⟩
                      rw [Hfr.out, Hok.out, Htk.out]; rfl
    · go_wp2_with fail
      go_ret
      exact ⟨ret_bool (by rw [storeOk, He.out, drop_end hlt, heldsFrom]; simp; omega), hn⟩
end Go.Proofs.YtipligidnoajfaaDoor
