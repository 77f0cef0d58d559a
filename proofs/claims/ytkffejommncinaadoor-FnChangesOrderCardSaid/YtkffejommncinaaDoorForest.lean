/- The tree of nodes in memory; place, at, dirOf, find. -/
import Derived.Test.YtkffejommncinaaDoorTreeA
import Derived.Test.YtkffejommncinaaDoorItemsA
import Derived.Test.YtkffejommncinaaDoorTextsA
namespace Go.Proofs.YtkffejommncinaaDoor
open Go.RowKit

def ptrAt (ns : List Nd) (b : Key → Nat) (k : Key) : Value := if hasKey ns k = true then .pointer (some ⟨b k, 0, none⟩) else .pointer none
theorem ptrAt_has {ns : List Nd} {b : Key → Nat} {k : Key} (h : hasKey ns k = true) : ptrAt ns b k = .pointer (some ⟨b k, 0, none⟩) := if_pos h
theorem ptrAt_not {ns : List Nd} {b : Key → Nat} {k : Key} (h : hasKey ns k = false) : ptrAt ns b k = .pointer none := if_neg (by simp [h])

/-- The nodes ns in memory: the node of key k lies in block b k, its numbers are u k, its row of pointers is kv k. -/
structure Forest (S : Nat → Prop) (w : World) (b : Key → Nat) (u kv : Key → Value) (ns : List Nd) : Prop where
  cell : ∀ x ∈ ns, w.heap[b x.key]? = some (.cells #[txt (nameOf x.key), .bool x.dir, u x.key, kv x.key] 69)
  row : ∀ x ∈ ns, Row 63 1 S w (kv x.key) (kidsOf ns x.key).length ((kidsOf ns x.key).map fun k => .pointer (some ⟨b k, 0, none⟩))
  ids : ∀ x ∈ ns, OwnI (fun j => S j ∧ ∀ y ∈ ns, j ≠ b y.key ∧ (kv y.key).ownBlock ≠ some j) w (u x.key) x.ids
  inS : ∀ x ∈ ns, S (b x.key)
  inj : ∀ x ∈ ns, ∀ y ∈ ns, b x.key = b y.key → x.key = y.key
  ap1 : ∀ x ∈ ns, ∀ y ∈ ns, (kv x.key).ownBlock ≠ some (b y.key)
  ap2 : ∀ x ∈ ns, ∀ y ∈ ns, ∀ j, (kv x.key).ownBlock = some j → (kv y.key).ownBlock = some j → x.key = y.key

section
variable {S T : Nat → Prop} {w w' : World} {b : Key → Nat} {u kv : Key → Value} {ns : List Nd}
theorem Forest.lt (F : Forest S w b u kv ns) {x : Nd} (hx : x ∈ ns) : b x.key < w.heap.size := (Array.getElem?_eq_some_iff.1 (F.cell x hx)).1
theorem Forest.chg (F : Forest S w b u kv ns) (g : Chg T w w') (hd : ∀ j, j < w.heap.size → S j → ¬ T j) : Forest S w' b u kv ns :=
  ⟨fun x hx => g.heap (F.cell x hx) (hd _ (F.lt hx) (F.inS x hx)), fun x hx => (F.row x hx).chg g hd, fun x hx => (F.ids x hx).chg g (fun j hj hh => hd j hj hh.1), F.inS, F.inj, F.ap1, F.ap2⟩
theorem Forest.new (F : Forest S w b u kv ns) (g : New w w') : Forest S w' b u kv ns := F.chg g fun _ _ _ hf => hf
theorem Forest.mono (F : Forest S w b u kv ns) (hs : ∀ j, j < w.heap.size → S j → T j) : Forest T w b u kv ns :=
  ⟨F.cell, fun x hx => (F.row x hx).mono hs, fun x hx => (F.ids x hx).mono (fun j hj hh => ⟨hs j hj hh.1, hh.2⟩), fun x hx => hs _ (F.lt hx) (F.inS x hx), F.inj, F.ap1, F.ap2⟩
theorem Forest.cells (F : Forest S w b u kv ns) {x : Nd} (hx : x ∈ ns) :
    w.cell? ⟨b x.key, 0, none⟩ = some (txt (nameOf x.key)) ∧ w.cell? ⟨b x.key, 1, none⟩ = some (.bool x.dir) ∧ w.cell? ⟨b x.key, 2, none⟩ = some (u x.key) ∧ w.cell? ⟨b x.key, 3, none⟩ = some (kv x.key) ∧ w.frozen? ⟨b x.key, 2, none⟩ = false ∧ w.frozen? ⟨b x.key, 3, none⟩ = false := by
  have h := F.cell x hx
  simp [World.cell?, World.frozen?, h]
theorem Forest.kid (F : Forest S w b u kv ns) {x : Nd} (hx : x ∈ ns) {a : Option Addr} {n c : Nat} (hv : kv x.key = .slice a n c) : ∀ t q, (kidsOf ns x.key)[t]? = some q → KidAt w a b t q := by
  intro t q hq
  have hr := F.row x hx
  rw [hv] at hr
  have ht := (List.getElem?_eq_some_iff.1 hq).1
  obtain ⟨g, cap, e, -⟩ := hr.head (by omega)
  simp only [Value.slice.injEq] at e
  obtain ⟨rfl, rfl, rfl⟩ := e
  obtain ⟨y, hy, rfl, -⟩ := mem_kids.1 (List.mem_of_getElem? hq)
  exact ⟨g, rfl, hr.cellAt (by simp [hq]), (F.cells hy).1⟩
theorem kids_le (ns : List Nd) (k : Key) : (kidsOf ns k).length ≤ ns.length := by
  unfold kidsOf; rw [List.length_map]; exact List.length_filter_le _ _
end

theorem there_key {ns : List Nd} (G : Good ns) {k : Key} {nm : List UInt8} {i : Nat} (h : PlaceAt (kidsOf ns k) nm i) :
    thereAt (kidsOf ns k) nm i = hasKey ns (k ++ [nm]) ∧ (hasKey ns (k ++ [nm]) = true → (kidsOf ns k)[i]? = some (k ++ [nm])) := by
  obtain ⟨h1, h2, h3⟩ := h
  have key : hasKey ns (k ++ [nm]) = true → (kidsOf ns k)[i]? = some (k ++ [nm]) := by
    intro hh
    obtain ⟨t, ht⟩ := List.mem_iff_getElem?.1 (kid_iff.2 hh)
    rcases Nat.lt_trichotomy t i with e | e | e
    · have := h2 t _ e ht
      rw [nameOf_snoc, sLt_irrefl] at this; cases this
    · rw [← e]; exact ht
    · have hi : i < (kidsOf ns k).length := by have := (List.getElem?_eq_some_iff.1 ht).1; omega
      obtain ⟨q, hq⟩ := get_of hi
      have h5 := asc_get (G.asc k) e hq ht
      rw [nameOf_snoc, h3 i q (Nat.le_refl _) hq] at h5; cases h5
  refine ⟨?_, key⟩
  rw [Bool.eq_iff_iff]
  constructor
  · intro ht
    unfold thereAt at ht
    have ht := of_decide_eq_true ht
    obtain ⟨q, hq, e⟩ := Option.map_eq_some_iff.1 ht
    have hm := List.mem_of_getElem? hq
    have e2 := kid_split hm
    rw [e] at e2
    rw [← kid_iff, ← e2]; exact hm
  · intro hh
    unfold thereAt
    rw [key hh]
    simp [nameOf_snoc]

set_option maxRecDepth 4000 in
set_option maxHeartbeats 400000 in
theorem nodePlace {S : Nat → Prop} {w : World} {b : Key → Nat} {u kv : Key → Value} {ns : List Nd} (F : Forest S w b u kv ns) (G : Good ns) (hl : ns.length ≤ 1000) {x : Nd} (hx : x ∈ ns) (nm : List UInt8) :
    Calls Tryd.prog 74 #[.pointer (some ⟨b x.key, 0, none⟩), txt nm] w (PlacePost (kidsOf ns x.key) nm w) := by
  obtain ⟨-, -, -, c3, -⟩ := F.cells hx
  obtain ⟨a, c, hv, h1, h2, -⟩ := (F.row x hx).shape
  have hk := F.kid hx hv
  have hb := binSearch (kidsOf ns x.key) b a c nm w hk (Nat.le_trans (kids_le _ _) hl) h1 (G.asc _)
  rw [hv] at c3
  have Hb := Lib.hid hb
  generalize kidsOf ns x.key = ks at *
  unfold txt at Hb ⊢
  clear hk hb
  go_enter Tryd.func74, Tryd.ntmps74
  go_wp2_with fail
  refine Hb.out.mono ?_
  rintro e w' ⟨i, hi, rfl, rfl⟩
  have Hi := Lib.hid hi
  clear hi
  go_wp2_with fail
  go_ret2
  exact ⟨i, Hi.out, rfl, rfl⟩

set_option maxRecDepth 4000 in
set_option maxHeartbeats 1000000 in
theorem nodeAt {S R : Nat → Prop} {w : World} {b : Key → Nat} {u kv : Key → Value} {ns : List Nd} (F : Forest S w b u kv ns) (G : Good ns) (hl : ns.length ≤ 1000) {k0 : Key} (hk0 : hasKey ns k0 = true) (ps : List (List UInt8)) (v : Value) (h : Texts R w v ps) :
    Calls Tryd.prog 71 #[.pointer (some ⟨b k0, 0, none⟩), v] w fun e w' => e = .returned (ptrAt ns b (k0 ++ ps)) ∧ w = w' := by
  obtain ⟨a, c, rfl, h1, h2, h4⟩ := h
  unfold maxLen at h2
  have hcell : ∀ i l, ps[i]? = some l → ∃ b off, a = some ⟨b, off, none⟩ ∧ w.cell? ⟨b, off + i, none⟩ = some (txt l) := by
    intro i l hi
    rcases h4 with rfl | ⟨b, off, rfl, -, -, hc⟩
    · simp at hi
    · exact ⟨b, off, rfl, hc i l hi⟩
  have HC := Lib.hid hcell
  have HK0 := Lib.hid hk0
  have HF := Lib.hid F
  have HG := Lib.hid G
  clear h4 hcell hk0 F G
  go_enter Tryd.func71, Tryd.ntmps71
  go_wp2
  go_loopg [0, 11] ps.length (fun gk s0 s11 wr => ∃ j : Nat, gk = ps.length - j ∧ j ≤ ps.length ∧ s11 = .int .i64 j ∧ s0 = .pointer (some ⟨b (k0 ++ ps.take j), 0, none⟩) ∧ Hid (hasKey ns (k0 ++ ps.take j) = true) ∧ w = wr)
  case atStart => exact ⟨0, by omega, Nat.zero_le _, rfl, by simp, by simpa using HK0, rfl⟩
  case round =>
    obtain ⟨j, hgk, hj, rfl, rfl, hh, rfl⟩ := hrel
    have Hgk := Lib.hid hgk
    clear hgk
    by_cases hlt : j < ps.length
    · obtain ⟨p, hp⟩ := get_of hlt
      obtain ⟨bb, off, rfl, hc⟩ := HC.out j p hp
      obtain ⟨x, hx, ex⟩ := hasKey_iff.1 hh.out
      have hpl := nodePlace HF.out HG.out hl hx p
      have hcs := (HF.out.cells hx).2.2.2.1
      obtain ⟨ar, cr, hv, hs1, hs2, -⟩ := (HF.out.row x hx).shape
      have hkid := HF.out.kid hx hv
      rw [ex] at hpl hcs hv hkid
      have htk : ps.take (j + 1) = ps.take j ++ [p] := by
        obtain ⟨hj', e⟩ := List.getElem?_eq_some_iff.1 hp
        rw [List.take_succ_eq_append_getElem hj', e]
      rw [hv] at hcs
      rw [ex] at hs1
      have Htk := Lib.hid htk
      have Hp := Lib.hid hp
      have HX := Lib.hid ex
      unfold txt at hc hpl
      have Hpl := Lib.hid hpl
      have Hkid := Lib.hid hkid
      clear htk hp hpl hkid hv ex
      generalize hkk : k0 ++ ps.take j = kk at *
      have Hkk := Lib.hid hkk
      clear hkk
      go_wp2_with fail
      refine Hpl.out.mono ?_
      rintro e w1 ⟨i, hi, rfl, rfl⟩
      obtain ⟨t1, t2⟩ := there_key HG.out hi
      rcases hhk : hasKey ns (kk ++ [p]) with _ | _
      · rw [hhk] at t1
        rw [t1]
        have hfin : ptrAt ns b (k0 ++ ps) = .pointer none := by
          refine ptrAt_not ?_
          rcases hq : hasKey ns (k0 ++ ps) with _ | _
          · rfl
          · have e3 : k0 ++ ps = (kk ++ [p]) ++ ps.drop (j + 1) := by
              rw [← Hkk.out, List.append_assoc, List.append_assoc, ← List.append_assoc (ps.take j), ← Htk.out, List.take_append_drop]
            rw [e3] at hq
            have := HG.out.prefix _ _ _ rfl hq
            rw [hhk] at this; cases this
        have Hfin := Lib.hid hfin
        clear hfin t1 t2 hhk hi
        go_wp2_with fail
        go_ret
        exact ⟨by rw [Hfin.out]; rfl, rfl⟩
      · rw [hhk] at t1
        rw [t1]
        have hki := t2 hhk
        obtain ⟨g, rfl, k1, k2⟩ := Hkid.out i _ hki
        have hil := (List.getElem?_eq_some_iff.1 hki).1
        have Hhk := Lib.hid hhk
        have hks := kids_le ns kk
        clear t1 t2 hhk hi k2 hki
        generalize kidsOf ns kk = ks at *
        go_wp2_with fail
        go_roundg (ps.length - (j + 1))
        case measure => rw [Hgk.out]; omega
        case rel => exact ⟨j + 1, rfl, by omega, by go_num, by rw [Htk.out, ← List.append_assoc, Hkk.out], by rw [Htk.out, ← List.append_assoc, Hkk.out]; exact Hhk, rfl⟩
    · have ej : ps.take j = ps := List.take_of_length_le (by omega)
      have hfin : ptrAt ns b (k0 ++ ps) = .pointer (some ⟨b (k0 ++ ps), 0, none⟩) := ptrAt_has (by rw [ej] at hh; exact hh)
      rw [ej]
      have Hfin := Lib.hid hfin
      clear hfin ej
      generalize hkk : k0 ++ ps = kk at *
      have Hkk := Lib.hid hkk
      clear hkk
      go_wp2_with fail
      go_ret
      exact ⟨by rw [Hkk.out, Hfin.out]; rfl, rfl⟩
end Go.Proofs.YtkffejommncinaaDoor
