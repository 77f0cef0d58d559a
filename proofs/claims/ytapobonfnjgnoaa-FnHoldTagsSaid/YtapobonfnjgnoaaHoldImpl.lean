/- HoldPut, HoldDrop, HoldTags: the program's. -/
import Derived.Test.YtapobonfnjgnoaaHoldSeq
namespace Go.Proofs.Ytapobonfnjgnoaa
open Go.RowKit

def insH (x : HoldR) : List HoldR → List HoldR
  | [] => [x]
  | a :: r => if hLt x a then x :: a :: r else a :: insH x r
def putR (os : List HoldR) (x : HoldR) : List HoldR × Bool :=
  if holdsOk os = true ∧ holdOk x = true ∧ x ∉ os ∧ os.length < 8 then (insH x os, true) else ([], false)
def dropR (os : List HoldR) (x : HoldR) : List HoldR × Bool :=
  if holdsOk os = true ∧ x ∈ os then (os.filter (fun y => decide (y ≠ x)), true) else ([], false)
def tagsR (os : List HoldR) (s : List UInt8) : List (List UInt8) :=
  if holdsOk os = true then (os.filter (fun y => decide (y.snap = s))).map HoldR.tag else []

theorem insH_mem {x : HoldR} : ∀ {os : List HoldR} {y : HoldR}, y ∈ insH x os ↔ y = x ∨ y ∈ os
  | [], y => by simp [insH]
  | a :: r, y => by
    rw [insH]
    split
    · simp
    · rw [List.mem_cons, insH_mem, List.mem_cons]
      constructor
      · rintro (h | h | h)
        · exact .inr (.inl h)
        · exact .inl h
        · exact .inr (.inr h)
      · rintro (h | h | h)
        · exact .inr (.inl h)
        · exact .inl h
        · exact .inr (.inr h)
theorem insH_pw {x : HoldR} : ∀ {os : List HoldR}, os.Pairwise (fun a b => hLt a b = true) → x ∉ os → (insH x os).Pairwise (fun a b => hLt a b = true)
  | [], _, _ => by simp [insH]
  | a :: r, h, hx => by
    obtain ⟨h1, h2⟩ := List.pairwise_cons.1 h
    rw [insH]
    split
    · rename_i hl
      refine List.pairwise_cons.2 ⟨fun b hb => ?_, h⟩
      rcases List.mem_cons.1 hb with rfl | hb
      · exact hl
      · exact hLt_trans hl (h1 b hb)
    · rename_i hl
      have hl' : hLt x a = false := by simpa using hl
      have hax : hLt a x = true := by
        rcases hc : hLt a x with _ | _
        · have := hLt_total hl' hc
          subst this
          exact absurd List.mem_cons_self hx
        · rfl
      refine List.pairwise_cons.2 ⟨fun b hb => ?_, insH_pw h2 (fun hm => hx (List.mem_cons_of_mem _ hm))⟩
      rcases insH_mem.1 hb with rfl | hb
      · exact hax
      · exact h1 b hb
theorem insH_len (x : HoldR) : ∀ os : List HoldR, (insH x os).length = os.length + 1
  | [] => rfl
  | a :: r => by
    rw [insH]
    split
    · rfl
    · simp [insH_len x r]

def HoldPost (r : List HoldR × Bool) (w : World) (e : Ending) (w' : World) : Prop :=
  ∃ v, e = .returned (.tuple #[v, .bool r.2]) ∧ OwnHolds (fun j => w.heap.size ≤ j) w' v r.1 ∧ New w w'

set_option maxRecDepth 4000 in
set_option maxHeartbeats 2000000 in
theorem implPut {S : Nat → Prop} (v : Value) (os : List HoldR) (x : HoldR) (w : World) (h : Holds S w v os) (hs : ∀ o ∈ os, HSm o) (hx : HSm x) :
    Calls Try.prog 11 #[v, .agg #[.string ⟨x.snap.toArray⟩, .string ⟨x.tag.toArray⟩]] w (HoldPost (putR os x) w) := by
  have n1 := (New.refl w).alloc (.cells #[.string ⟨x.snap.toArray⟩, .string ⟨x.tag.toArray⟩] 25)
  have hb := heap_alloc_new w (.cells #[.string ⟨x.snap.toArray⟩, .string ⟨x.tag.toArray⟩] 25)
  have ho := openHolds v os _ (h.new n1) hs
  obtain ⟨-, a, c, rfl, h1, h2, -⟩ := h
  unfold maxLen at h2
  have Hb := Lib.hid hb
  have Hx := Lib.hid (fun W => implHold x W hx)
  by_cases hok : holdsOk os = true
  · obtain ⟨hlen, hall, hpw⟩ := holdsOk_pw hok
    have Ho := Lib.hid ho
    have Hok := Lib.hid hok
    have Hpw := Lib.hid hpw
    have Hs := Lib.hid hs
    clear ho hok hpw hall hs hb
    go_enter Try.func11, Try.ntmps11
    go_wp2_with fail
    refine Ho.out.mono ?_
    intro e w2 hpost
    rw [OpenHPost, if_pos Hok.out] at hpost
    obtain ⟨mb, hmb, rfl, hset, n2⟩ := hpost
    have hb2 := n2.heap Hb.out
    have c0 : w2.cell? ⟨w.heap.size, 0, none⟩ = some (.string ⟨x.snap.toArray⟩) := by unfold World.cell?; rw [hb2]; rfl
    have c1 : w2.cell? ⟨w.heap.size, 1, none⟩ = some (.string ⟨x.tag.toArray⟩) := by unfold World.cell?; rw [hb2]; rfl
    have n3 := n1.trans n2
    have hmb' : w.heap.size < mb := by have := n1.size; simp at hmb; omega
    clear hb2 hmb
    rcases hxo : holdOk x with _ | _
    · have hr : putR os x = ([], false) := by unfold putR; rw [if_neg (by simp [hxo])]
      have Hr := Lib.hid hr
      have hv := Hx.out w2
      rw [hxo] at hv
      have Hv := Lib.hid hv
      clear hr hv hxo hset
      go_wp2_with fail
      refine Hv.out.mono ?_
      rintro e w3 ⟨rfl, n4⟩
      go_wp2_with fail
      go_ret2
      rw [Hr.out]
      exact ⟨_, rfl, OwnRecs.nil _ _ _ _, n3.trans n4⟩
    · have hv := Hx.out w2
      rw [hxo] at hv
      have Hv := Lib.hid hv
      have Hxo := Lib.hid hxo
      have Hset := Lib.hid hset
      clear hv hxo hset
      by_cases hin : x ∈ os
      · have hr : putR os x = ([], false) := by unfold putR; rw [if_neg (by simp [hin])]
        have Hr := Lib.hid hr
        have Hin := Lib.hid hin
        clear hr hin
        go_wp2_with fail
        refine Hv.out.mono ?_
        rintro e w3 ⟨rfl, n4⟩
        have c0' := n4.cell c0
        have c1' := n4.cell c1
        have hput := setPut mb os.length os x w3 (Hset.out.new n4) hx.fit (by omega)
        have Hput := Lib.hid hput
        clear hput
        go_wp2_with fail
        refine Hput.out.mono ?_
        intro e w4 hp
        obtain ⟨rfl, n5⟩ := hp.1 Hin.out
        clear hp
        go_wp2_with fail
        go_ret2
        rw [Hr.out]
        exact ⟨_, rfl, OwnRecs.nil _ _ _ _, (n3.trans n4).trans n5⟩
      · have Hin := Lib.hid hin
        clear hin
        go_wp2_with fail
        refine Hv.out.mono ?_
        rintro e w3 ⟨rfl, n4⟩
        have c0' := n4.cell c0
        have c1' := n4.cell c1
        have hput := setPut mb os.length os x w3 (Hset.out.new n4) hx.fit (by omega)
        have Hput := Lib.hid hput
        clear hput
        go_wp2_with fail
        refine Hput.out.mono ?_
        intro e w4 hp
        obtain ⟨rfl, set4, ch⟩ := hp.2 Hin.out
        have hlr := set4.len_run 3
        rw [show (((os ++ [x]).length : Nat) : Int) = (os.length : Int) + 1 by simp] at hlr
        have n5 : New w w4 := (n3.trans n4).trans_chg ch (fun j hj e => by omega)
        clear hp ch
        by_cases h8 : os.length < 8
        · have hr : putR os x = (insH x os, true) := by unfold putR; rw [if_pos ⟨Hok.out, Hxo.out, Hin.out, h8⟩]
          have Hr := Lib.hid hr
          have hd : ¬ ((8 : Int) < (os.length : Int) + 1) := by omega
          have hsmall : ∀ y ∈ os ++ [x], HFit y := fun y hy => by
            rcases List.mem_append.1 hy with hy | hy
            · exact (Hs.out y hy).fit
            · obtain rfl := List.mem_singleton.1 hy
              exact hx.fit
          have hnd : (os ++ [x]).Nodup := List.nodup_append.2 ⟨pw_nodup Hpw.out, by simp, fun a ha b hb => by simp at hb; subst hb; exact fun e => Hin.out (e ▸ ha)⟩
          have hsort := setSorted mb (os.length + 1) (os ++ [x]) (insH x os) w4 hnd set4 (by simp; omega) hsmall (insH_pw Hpw.out Hin.out) (fun y => by rw [insH_mem]; simp [or_comm])
          have Hsort := Lib.hid hsort
          clear hr hsmall hnd hsort set4
          go_wp2_with fail
          refine Hsort.out.mono ?_
          rintro e w5 ⟨v5, rfl, ho5, n6⟩
          go_wp2_with fail
          go_ret2
          rw [Hr.out]
          exact ⟨_, rfl, ho5.mono (fun j _ hj => by have := n5.size; omega), n5.trans n6⟩
        · have hr : putR os x = ([], false) := by unfold putR; rw [if_neg (by simp [h8])]
          have Hr := Lib.hid hr
          have hd : (8 : Int) < (os.length : Int) + 1 := by omega
          clear hr set4
          go_wp2_with fail
          go_ret2
          rw [Hr.out]
          exact ⟨_, rfl, OwnRecs.nil _ _ _ _, n5⟩
  · have hr : putR os x = ([], false) := by unfold putR; rw [if_neg (by simp [hok])]
    have Hr := Lib.hid hr
    have Ho := Lib.hid ho
    have Hok := Lib.hid hok
    clear ho hok hs hb hr
    go_enter Try.func11, Try.ntmps11
    go_wp2_with fail
    refine Ho.out.mono ?_
    intro e w2 hpost
    rw [OpenHPost, if_neg Hok.out] at hpost
    obtain ⟨rfl, n2⟩ := hpost
    go_wp2_with fail
    go_ret2
    rw [Hr.out]
    exact ⟨_, rfl, OwnRecs.nil _ _ _ _, n1.trans n2⟩

set_option maxRecDepth 4000 in
set_option maxHeartbeats 2000000 in
theorem implDrop {S : Nat → Prop} (v : Value) (os : List HoldR) (x : HoldR) (w : World) (h : Holds S w v os) (hs : ∀ o ∈ os, HSm o) (hx : HSm x) :
    Calls Try.prog 16 #[v, .agg #[.string ⟨x.snap.toArray⟩, .string ⟨x.tag.toArray⟩]] w (HoldPost (dropR os x) w) := by
  have n1 := (New.refl w).alloc (.cells #[.string ⟨x.snap.toArray⟩, .string ⟨x.tag.toArray⟩] 25)
  have hb := heap_alloc_new w (.cells #[.string ⟨x.snap.toArray⟩, .string ⟨x.tag.toArray⟩] 25)
  have ho := openHolds v os _ (h.new n1) hs
  obtain ⟨-, a, c, rfl, h1, h2, -⟩ := h
  unfold maxLen at h2
  have Hb := Lib.hid hb
  by_cases hok : holdsOk os = true
  · obtain ⟨hlen, hall, hpw⟩ := holdsOk_pw hok
    have Ho := Lib.hid ho
    have Hok := Lib.hid hok
    have Hpw := Lib.hid hpw
    have Hs := Lib.hid hs
    clear ho hok hpw hall hs hb
    go_enter Try.func16, Try.ntmps16
    go_wp2_with fail
    refine Ho.out.mono ?_
    intro e w2 hpost
    rw [OpenHPost, if_pos Hok.out] at hpost
    obtain ⟨mb, hmb, rfl, hset, n2⟩ := hpost
    have hb2 := n2.heap Hb.out
    have c0 : w2.cell? ⟨w.heap.size, 0, none⟩ = some (.string ⟨x.snap.toArray⟩) := by unfold World.cell?; rw [hb2]; rfl
    have c1 : w2.cell? ⟨w.heap.size, 1, none⟩ = some (.string ⟨x.tag.toArray⟩) := by unfold World.cell?; rw [hb2]; rfl
    have n3 := n1.trans n2
    have hmb' : w.heap.size < mb := by have := n1.size; simp at hmb; omega
    have hdrop := setDrop mb os.length os x w2 hset (pw_nodup Hpw.out) hx.fit
    have Hdrop := Lib.hid hdrop
    clear hb2 hmb hset hdrop
    by_cases hin : x ∈ os
    · have hr : dropR os x = (os.filter (fun y => decide (y ≠ x)), true) := by unfold dropR; rw [if_pos ⟨Hok.out, hin⟩]
      have Hr := Lib.hid hr
      have Hin := Lib.hid hin
      clear hr hin
      go_wp2_with fail
      refine Hdrop.out.mono ?_
      intro e w4 hp
      obtain ⟨rfl, set4, ch⟩ := hp.2 Hin.out
      have n5 : New w w4 := n3.trans_chg ch (fun j hj e => by omega)
      have hpf : (os.filter (fun y => decide (y ≠ x))).Pairwise (fun a b => hLt a b = true) := Hpw.out.filter _
      have hlf : (os.filter (fun y => decide (y ≠ x))).length ≤ os.length := List.length_filter_le _ _
      have hsort := setSorted mb os.length _ _ w4 (pw_nodup hpf) set4 (by omega) (fun y hy => (Hs.out y (List.mem_filter.1 hy).1).fit) hpf (fun y => Iff.rfl)
      have Hsort := Lib.hid hsort
      clear hp ch hpf hlf hsort set4
      go_wp2_with fail
      refine Hsort.out.mono ?_
      rintro e w5 ⟨v5, rfl, ho5, n6⟩
      go_wp2_with fail
      go_ret2
      rw [Hr.out]
      exact ⟨_, rfl, ho5.mono (fun j _ hj => by have := n5.size; omega), n5.trans n6⟩
    · have hr : dropR os x = ([], false) := by unfold dropR; rw [if_neg (by simp [hin])]
      have Hr := Lib.hid hr
      have Hin := Lib.hid hin
      clear hr hin
      go_wp2_with fail
      refine Hdrop.out.mono ?_
      intro e w4 hp
      obtain ⟨rfl, n5⟩ := hp.1 Hin.out
      clear hp
      go_wp2_with fail
      go_ret2
      rw [Hr.out]
      exact ⟨_, rfl, OwnRecs.nil _ _ _ _, n3.trans n5⟩
  · have hr : dropR os x = ([], false) := by unfold dropR; rw [if_neg (by simp [hok])]
    have Hr := Lib.hid hr
    have Ho := Lib.hid ho
    have Hok := Lib.hid hok
    clear ho hok hs hb hr
    go_enter Try.func16, Try.ntmps16
    go_wp2_with fail
    refine Ho.out.mono ?_
    intro e w2 hpost
    rw [OpenHPost, if_neg Hok.out] at hpost
    obtain ⟨rfl, n2⟩ := hpost
    go_wp2_with fail
    go_ret2
    rw [Hr.out]
    exact ⟨_, rfl, OwnRecs.nil _ _ _ _, n1.trans n2⟩
end Go.Proofs.Ytapobonfnjgnoaa
