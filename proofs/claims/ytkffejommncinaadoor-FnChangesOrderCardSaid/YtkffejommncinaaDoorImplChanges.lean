/- ChangesOf of the program. -/
import Derived.Test.YtkffejommncinaaDoorBetween
import Derived.Test.YtkffejommncinaaDoorSpecChanges
import Derived.Test.YtkffejommncinaaDoorItemOf
import Derived.Test.YtkffejommncinaaDoorImplDrop
import Derived.Test.YtkffejommncinaaDoorListAll
namespace Go.Proofs.YtkffejommncinaaDoor
open Go.RowKit

theorem chgs_len : ∀ (xs ys : List ItemR), (chgs xs ys).length ≤ xs.length + ys.length
  | [], [] => by simp [chgs]
  | a :: xs, [] => by
    have := chgs_len xs []
    rw [chgs]; simp at *; omega
  | [], b :: ys => by
    have := chgs_len [] ys
    rw [chgs]; simp at *; omega
  | a :: xs, b :: ys => by
    have h1 := chgs_len xs (b :: ys)
    have h2 := chgs_len (a :: xs) ys
    have h3 := chgs_len xs ys
    rw [chgs]
    split
    · simp at *; omega
    · split
      · simp at *; omega
      · have : (diffs a b).length ≤ 2 := by
          unfold diffs
          split
          · simp
          · split <;> simp
        simp at *; omega
termination_by xs ys => xs.length + ys.length

set_option maxRecDepth 4000 in
set_option maxHeartbeats 1000000 in
theorem implChangesNot {S T : Nat → Prop} (v u : Value) (os ps : List ItemR) (w : World) (h : Items S w v os) (g : Items T w u ps) (hall : ∀ o ∈ os, o.size ≤ 1048576) (gall : ∀ o ∈ ps, o.size ≤ 1048576)
    (hk : treeOk os = false ∨ treeOk ps = false) :
    Calls Tryd.prog 34 #[v, u] w (ChgPost [] false w) := by
  have hnil : Chs Any w (.slice none 0 0) [] := ⟨rfl, none, 0, rfl, by simp, by unfold maxLen; omega, .inl rfl⟩
  have ho := fun (W : World) (n : New w W) => openTree v os W (Recs.new h n) hall
  have go := fun (W : World) (n : New w W) => openTree u ps W (Recs.new g n) gall
  unfold OpenPost at ho go
  have Hnil := Lib.hid hnil
  obtain ⟨-, a, c, rfl, -⟩ := h
  obtain ⟨-, a', c', rfl, -⟩ := g
  rcases hk1 : treeOk os with _ | _
  · rw [hk1] at ho
    have Ho := Lib.hid ho
    clear ho go hk hk1 hnil
    go_enter Tryd.func34, Tryd.ntmps34
    go_wp2_with fail
    refine (Ho.out _ (New.refl _)).mono ?_
    rintro e w1 ⟨rfl, n1⟩
    go_wp2_with fail
    go_ret2
    exact ⟨_, rfl, Recs.new Hnil.out n1, n1⟩
  · have hk2 : treeOk ps = false := by
      rcases hk with hk | hk
      · rw [hk1] at hk; cases hk
      · exact hk
    rw [hk1] at ho
    rw [hk2] at go
    have Ho := Lib.hid ho
    have Go' := Lib.hid go
    clear ho go hk hk1 hk2 hnil
    go_enter Tryd.func34, Tryd.ntmps34
    go_wp2_with fail
    refine (Ho.out _ (New.refl _)).mono ?_
    rintro e w1 ⟨b, rfl, n1, -⟩
    go_wp2_with fail
    refine (Go'.out _ n1).mono ?_
    rintro e w2 ⟨rfl, n2⟩
    go_wp2_with fail
    go_ret2
    exact ⟨_, rfl, Recs.new Hnil.out (n1.trans n2), n1.trans n2⟩

theorem itemNew (v : Value) (w : World) : Sem.run Tryd.prog (method 252 110 v "loop.example/snapshotfiles/impl.item") w = .ok (134, v) w := by kernel_rfl
theorem itemGone (v : Value) (w : World) : Sem.run Tryd.prog (method 252 109 v "loop.example/snapshotfiles/impl.item") w = .ok (133, v) w := by kernel_rfl
theorem itemOther (v : Value) (w : World) : Sem.run Tryd.prog (method 252 111 v "loop.example/snapshotfiles/impl.item") w = .ok (135, v) w := by kernel_rfl

set_option maxRecDepth 4000 in
set_option maxHeartbeats 8000000 in
theorem implChangesOf {S T : Nat → Prop} (v u : Value) (os ps : List ItemR) (w : World) (h : Items S w v os) (g : Items T w u ps) (hall : ∀ o ∈ os, o.size ≤ 1048576) (gall : ∀ o ∈ ps, o.size ≤ 1048576)
    (hk1 : treeOk os = true) (hk2 : treeOk ps = true) :
    Calls Tryd.prog 34 #[v, u] w (ChgPost (chgs os ps) true w) := by
  have ho := fun (W : World) (n : New w W) => openTree v os W (Recs.new h n) hall
  have go := fun (W : World) (n : New w W) => openTree u ps W (Recs.new g n) gall
  unfold OpenPost at ho go
  rw [hk1] at ho
  rw [hk2] at go
  obtain ⟨hT, h12⟩ := treeOk_p hk1
  obtain ⟨gT, g12⟩ := treeOk_p hk2
  have hli := fun (S : Nat → Prop) (b : Key → Nat) (u kv : Key → Value) (W : World) (F : Forest S W b u kv (nodesOf os)) => nodeList F hT h12 (fun o ho => by have := itemOk_ids (hT.ok o ho); omega)
  have gli := fun (S : Nat → Prop) (b : Key → Nat) (u kv : Key → Value) (W : World) (F : Forest S W b u kv (nodesOf ps)) => nodeList F gT g12 (fun o ho => by have := itemOk_ids (gT.ok o ho); omega)
  have hcl := chgs_len os ps
  obtain ⟨-, a, c, rfl, -⟩ := h
  obtain ⟨-, a', c', rfl, -⟩ := g
  have Ho := Lib.hid ho
  have Go' := Lib.hid go
  have Hli := Lib.hid hli
  have Gli := Lib.hid gli
  clear ho go hk1 hk2 hT gT hli gli
  go_enter Tryd.func34, Tryd.ntmps34
  go_wp2_with fail
  refine (Ho.out _ (New.refl _)).mono ?_
  rintro e w1 ⟨b, rfl, n1, uf, kv, F⟩
  have HF := Lib.hid F
  clear F
  go_wp2_with fail
  refine (Go'.out _ n1).mono ?_
  rintro e w2 ⟨b', rfl, n2, uf', kv', G⟩
  have HG := Lib.hid G
  have HF2 := Lib.hid (HF.out.new n2)
  have n02 := n1.trans n2
  clear G HF n1 n2
  go_wp2_with fail
  refine (Hli.out _ b uf kv _ HF2.out).mono ?_
  rintro e w3 ⟨v3, rfl, o3, n3⟩
  obtain ⟨a3, c3, rfl, -⟩ := o3.shape
  have O3 := Lib.hid o3
  clear o3
  go_wp2_with fail
  refine (Gli.out _ b' uf' kv' _ (HG.out.new n3)).mono ?_
  rintro e w4 ⟨v4, rfl, o4, n4⟩
  obtain ⟨a4, c4, rfl, -⟩ := o4.shape
  have hb := between _ _ os ps w4 (OwnRecs.recs (OwnRecs.new O3.out n4)) (OwnRecs.recs o4) h12 g12
  have Hb := Lib.hid hb
  have n04 := (n02.trans n3).trans n4
  clear hb o4 O3 HG HF2 n02 n3 n4 Ho Go' Hli Gli
  go_wp2_with fail
  refine Hb.out.mono ?_
  rintro e w5 ⟨v5, rfl, ⟨us, r5, f5⟩, n5⟩
  obtain ⟨a5, c5, rfl, s1, s2, -⟩ := r5.shape
  unfold maxLen at s2
  have N5 := Lib.hid (n04.trans n5)
  have C0 : ChList w5.heap.size w5 (.slice none 0 0) [] := ⟨[], Row.nil _ _ _ _, rfl, fun i u f h _ => by simp at h⟩
  have CC0 := Lib.hid C0
  have R5 := Lib.hid r5
  have F5 := Lib.hid f5
  have N45 := Lib.hid n5
  generalize hcs : chgs os ps = cs at *
  have hc24 : cs.length ≤ 24 := by omega
  clear n5 n04 Hb r5 f5 C0 hcs hcl
  go_wp2_with fail
  go_loopg [9, 32] cs.length (fun gk s9 s32 wr => ∃ (k : Nat), gk = cs.length - k ∧ k ≤ cs.length ∧ s32 = .int .i64 k ∧ New w5 wr ∧ Hid (ChList w5.heap.size wr s9 (cs.take k)))
  case atStart => exact ⟨0, rfl, Nat.zero_le _, rfl, New.refl _, CC0⟩
  case round =>
    obtain ⟨k, hgk, hk, rfl, hn, hl⟩ := hrel
    have Hgk := Lib.hid hgk
    have z0 := hn.size
    clear hgk CC0
    by_cases hlt : k < cs.length
    · obtain ⟨x, hx⟩ := get_of hlt
      obtain ⟨t, ht, hko, hlp, hti⟩ := F5.out.2 k x hx
      obtain ⟨g5, d5, e5, -, -, -, -⟩ := R5.out.head (by omega)
      simp only [Value.slice.injEq] at e5
      obtain ⟨rfl, -, rfl⟩ := e5
      have hcell := hn.cell (R5.out.cellAt ht)
      obtain ⟨ta, tc, rfl, -⟩ := id hti
      have Hti := Lib.hid hti
      have Hlp := Lib.hid hlp
      have Hx := Lib.hid hx
      clear hx ht hlp hti
      have htk : cs.take (k + 1) = cs.take k ++ [x] := by
        obtain ⟨hk', e⟩ := List.getElem?_eq_some_iff.1 Hx.out
        rw [List.take_succ_eq_append_getElem hk', e]
      have hdb : (cs.take k).length ≤ 24 := by simp; omega
      generalize cs.take k = D at *
      have Htk := Lib.hid htk
      clear htk
      obtain ⟨us9, r9, f9⟩ := hl.out
      obtain ⟨av, cv, rfl, y1, y2, -, -⟩ := r9.shape
      unfold maxLen at y2
      have R9 := Lib.hid r9
      have F9 := Lib.hid f9
      clear r9 f9 hl
      obtain ⟨kd, o⟩ := x
      simp only at hcell Hti Hlp
      rcases hko with hko | hko | hko
      · simp only at hko
        subst hko
        have hki := kindOf ⟨1, o⟩ (.slice ta o.ids.length tc) wr (.inl rfl)
        rw [chV_new] at hcell hki
        have Hki := Lib.hid hki
        clear hki
        go_wp2_with fail
        refine Hki.out.mono ?_
        rintro e w6 ⟨rfl, n6⟩
        have hit := itemNew (.agg #[.string ⟨o.path.toArray⟩, .bool o.dir, .slice ta o.ids.length tc]) w6
        go_wp2_with fail
        refine (newItemItem o.path o.dir ta o.ids.length tc w6).mono ?_
        rintro e w7 ⟨rfl, n7⟩
        have n67 := n6.trans n7
        have z7 := n67.size
        have R7 := Lib.hid (R9.out.new n67)
        have F7 := Lib.hid (F9.out.new n67)
        have n7' := hn.trans n67
        clear hit R9 F9 n6 n7 hcell
        go_wp2_with first
          | (at_builtin; refine wpRow_appendRec slChange _ _ rfl rfl (.slice av D.length cv) D.length us9 [.int .i64 1, .string ⟨o.path.toArray⟩, .bool o.dir, .slice ta o.ids.length tc] 58 rfl R7.out rfl (by intro u hu; simp at hu; rcases hu with rfl | rfl | rfl | rfl <;> rfl) rfl (by omega) (by decide) ?_; intro va wa qa ca)
          | fail
        have oa := ch_one (c := ⟨1, o⟩) R7.out F7.out (I64.mk (x := 1) (by decide) (by decide)) Hlp.out ((Hti.out.old.new (N45.out.trans n7')).mono (fun j _ hj e => by have := R7.out.2 j e; have := N45.out.size; omega)) qa ca (by omega)
        have na : New w5 wa := n7'.trans_chg ca (fun j hj e => by have := R7.out.2 j e; omega)
        have Oa := Lib.hid oa
        clear oa qa ca
        go_roundg (cs.length - (k + 1))
        case measure => rw [Hgk.out]; omega
        case rel => exact ⟨k + 1, rfl, by omega, by go_num, na, Lib.hid (by rw [Htk.out]; exact Oa.out)⟩
      · simp only at hko
        subst hko
        have hki := kindOf ⟨2, o⟩ (.slice ta o.ids.length tc) wr (.inr (.inl rfl))
        rw [chV_gone] at hcell hki
        have Hki := Lib.hid hki
        clear hki
        go_wp2_with fail
        refine Hki.out.mono ?_
        rintro e w6 ⟨rfl, n6⟩
        have hit := itemGone (.agg #[.string ⟨o.path.toArray⟩, .bool o.dir, .slice ta o.ids.length tc]) w6
        go_wp2_with fail
        refine (goneItemItem o.path o.dir ta o.ids.length tc w6).mono ?_
        rintro e w7 ⟨rfl, n7⟩
        have n67 := n6.trans n7
        have z7 := n67.size
        have R7 := Lib.hid (R9.out.new n67)
        have F7 := Lib.hid (F9.out.new n67)
        have n7' := hn.trans n67
        clear hit R9 F9 n6 n7 hcell
        go_wp2_with first
          | (at_builtin; refine wpRow_appendRec slChange _ _ rfl rfl (.slice av D.length cv) D.length us9 [.int .i64 2, .string ⟨o.path.toArray⟩, .bool o.dir, .slice ta o.ids.length tc] 58 rfl R7.out rfl (by intro u hu; simp at hu; rcases hu with rfl | rfl | rfl | rfl <;> rfl) rfl (by omega) (by decide) ?_; intro va wa qa ca)
          | fail
        have oa := ch_one (c := ⟨2, o⟩) R7.out F7.out (I64.mk (x := 2) (by decide) (by decide)) Hlp.out ((Hti.out.old.new (N45.out.trans n7')).mono (fun j _ hj e => by have := R7.out.2 j e; have := N45.out.size; omega)) qa ca (by omega)
        have na : New w5 wa := n7'.trans_chg ca (fun j hj e => by have := R7.out.2 j e; omega)
        have Oa := Lib.hid oa
        clear oa qa ca
        go_roundg (cs.length - (k + 1))
        case measure => rw [Hgk.out]; omega
        case rel => exact ⟨k + 1, rfl, by omega, by go_num, na, Lib.hid (by rw [Htk.out]; exact Oa.out)⟩
      · simp only at hko
        subst hko
        have hki := kindOf ⟨3, o⟩ (.slice ta o.ids.length tc) wr (.inr (.inr rfl))
        rw [chV_other] at hcell hki
        have Hki := Lib.hid hki
        clear hki
        go_wp2_with fail
        refine Hki.out.mono ?_
        rintro e w6 ⟨rfl, n6⟩
        have hit := itemOther (.agg #[.string ⟨o.path.toArray⟩, .bool o.dir, .slice ta o.ids.length tc]) w6
        go_wp2_with fail
        refine (otherItemItem o.path o.dir ta o.ids.length tc w6).mono ?_
        rintro e w7 ⟨rfl, n7⟩
        have n67 := n6.trans n7
        have z7 := n67.size
        have R7 := Lib.hid (R9.out.new n67)
        have F7 := Lib.hid (F9.out.new n67)
        have n7' := hn.trans n67
        clear hit R9 F9 n6 n7 hcell
        go_wp2_with first
          | (at_builtin; refine wpRow_appendRec slChange _ _ rfl rfl (.slice av D.length cv) D.length us9 [.int .i64 3, .string ⟨o.path.toArray⟩, .bool o.dir, .slice ta o.ids.length tc] 58 rfl R7.out rfl (by intro u hu; simp at hu; rcases hu with rfl | rfl | rfl | rfl <;> rfl) rfl (by omega) (by decide) ?_; intro va wa qa ca)
          | fail
        have oa := ch_one (c := ⟨3, o⟩) R7.out F7.out (I64.mk (x := 3) (by decide) (by decide)) Hlp.out ((Hti.out.old.new (N45.out.trans n7')).mono (fun j _ hj e => by have := R7.out.2 j e; have := N45.out.size; omega)) qa ca (by omega)
        have na : New w5 wa := n7'.trans_chg ca (fun j hj e => by have := R7.out.2 j e; omega)
        have Oa := Lib.hid oa
        clear oa qa ca
        go_roundg (cs.length - (k + 1))
        case measure => rw [Hgk.out]; omega
        case rel => exact ⟨k + 1, rfl, by omega, by go_num, na, Lib.hid (by rw [Htk.out]; exact Oa.out)⟩
    · have ek : cs.take k = cs := List.take_of_length_le (by omega)
      rw [ek] at hl
      obtain ⟨av, cv, rfl⟩ := hl.out.shape
      clear ek
      go_wp2_with fail
      go_ret2
      exact ⟨_, rfl, hl.out.chs, N5.out.trans hn⟩
end Go.Proofs.YtkffejommncinaaDoor
