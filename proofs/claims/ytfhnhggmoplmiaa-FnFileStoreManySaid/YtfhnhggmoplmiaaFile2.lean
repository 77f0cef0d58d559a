/- Files in the store: the program's storeFile; FileLoad, FileFree, FileStore. -/
import Derived.Test.YtfhnhggmoplmiaaFile
namespace Go.Proofs.Ytfhnhggmoplmiaa
open Go.RowKit Go.Maps

def StoresPost (S : Nat → Prop) (b n : Nat) (r : Option (List HeldR × List Int)) (w : World) (e : Ending) (w' : World) : Prop :=
  match r with
  | none => e = .returned (.tuple #[.slice none 0 0, .bool false]) ∧ Chg (fun j => j = b) w w'
  | some (os, ks) => ∃ v, e = .returned (.tuple #[v, .bool true]) ∧ OwnInts 3 (fun j => w.heap.size ≤ j) w' v ks ∧ Chg (fun j => j = b) w w' ∧ ∃ (qs : List HP) (SS : Nat → Prop), qs.map Prod.fst = os ∧ Store SS w' b (n + 4) qs ∧ ∀ j, SS j → S j ∨ w.heap.size ≤ j

set_option maxRecDepth 4000 in
set_option maxHeartbeats 2000000 in
theorem implStoreFile {S T : Nat → Prop} (b n : Nat) (ps : List HP) (u : Value) (xs : List Int) (w : World) (h : Store S w b n ps) (hn0 : n ≤ 800) (g : Ints T w u xs) (hT : ∀ j, T j → j ≠ b) (hok : storeOk (ps.map Prod.fst) = true) (hf : fileOk xs = true) :
    Calls Try.prog 49 #[.map (some b), u] w (StoresPost S b n (storeAll (cuts xs) (ps.map Prod.fst)) w) := by
  obtain ⟨hl, hby⟩ := fileOk_parts hf
  have hcc := cuts_count xs
  have hcl : (cuts xs).length ≤ 4 := by omega
  have hbw := h.2.1
  have hgn := fun (W : World) (c : Chg (fun j => j = b) w W) => (g.old.chg c (fun j _ hj e => hT j hj.1 e)).mono (T := fun j => j ≠ w.heap.size) (fun j _ hj => by have := hj.2; omega)
  have Hgn := Lib.hid hgn
  have hch := fun (k : Nat) (hk : xs.drop k ≠ []) => cuts_of hk
  have Hch := Lib.hid hch
  have hbk := cuts_ok hby
  have hsub : ∀ k, k < xs.length → blockOk ((xs.drop k).take 8) = true := fun k hk => by
    have h1 : bytesOk ((xs.drop k).take 8) = true := bytesOk_sub hby fun y hy => List.mem_of_mem_drop (List.mem_of_mem_take hy)
    simp only [blockOk, Bool.and_eq_true, decide_eq_true_eq]
    exact ⟨⟨by simp; omega, by simp; omega⟩, h1⟩
  have Hsub := Lib.hid hsub
  obtain ⟨a, c, rfl, g1, ⟨g2, -⟩, -, -⟩ := g
  unfold maxLen at g2
  have n0 : New w (w.alloc (.cells #[.slice a xs.length c, .int .i64 0] 76)) := (New.refl w).alloc _
  have hfr : FR w.heap.size (.slice a xs.length c) xs 0 (w.alloc (.cells #[.slice a xs.length c, .int .i64 0] 76)) := ⟨heap_alloc_new w _, hgn _ (n0.chg _), Nat.zero_le _, hl⟩
  have st0 := h.old.new n0
  clear hgn hch hbk hsub hcc hf hby h
  go_enter Try.func49, Try.ntmps49
  go_wp2_with fail
  refine (readerNext w.heap.size _ xs 0 _ hfr).mono ?_
  rintro e w2 ⟨t, rfl, ou, fr, cu⟩
  have c2 : Chg (fun j => j = b) w w2 := (n0.chg (fun j => j = b)).step cu (fun j hj e => by omega)
  have st2 := st0.chg cu (fun j _ hj e => by have := hj.2; omega)
  have hb0 : Ints Any w2 t ((xs.drop 0).take 8) := ou.nums.mono (fun _ _ _ => trivial)
  clear ou cu hfr n0 st0
  go_wp2_with fail
  go_loopg [6, 8] xs.length (fun gk s6 s8 wr => ∃ (k : Nat) (done : List Int) (qs : List HP) (SS II : Nat → Prop), gk = xs.length - k ∧ k ≤ xs.length ∧ storeAll (cuts xs) (ps.map Prod.fst) = (storeAll (cuts (xs.drop k)) (qs.map Prod.fst)).map (fun p => (p.1, done ++ p.2)) ∧ done.length + (cuts (xs.drop k)).length = (cuts xs).length ∧ storeOk (qs.map Prod.fst) = true ∧
    Store SS wr b (n + done.length) qs ∧ (∀ j, SS j → (S j ∧ j < w.heap.size) ∨ w.heap.size < j) ∧ OwnInts 3 II wr s6 done ∧ (∀ j, II j → ¬ SS j ∧ w.heap.size < j) ∧ Ints Any wr s8 ((xs.drop k).take 8) ∧ FR w.heap.size (.slice a xs.length c) xs (min (k + 8) xs.length) wr ∧ Chg (fun j => j = b) w wr ∧ w.heap.size < wr.heap.size)
  case atStart => exact ⟨0, [], ps, _, fun _ => False, by omega, by omega, by rw [List.drop_zero]; rcases storeAll (cuts xs) (ps.map Prod.fst) with _ | p <;> rfl, by simp, hok, st2, fun j hj => .inl hj, OwnNums.nil _ _ _ _, fun j hj => hj.elim, hb0, fr, c2, (Array.getElem?_eq_some_iff.1 fr.1).1⟩
  case round =>
    obtain ⟨k, done, qs, SS, II, hgk, hk, hd, hdl, hqok, st, hSS, ho, hII, hb8, fr, hc, hw⟩ := hrel
    have Hgk := Lib.hid hgk
    have Hd := Lib.hid hd
    have HII := Lib.hid hII
    have HSS := Lib.hid hSS
    clear hgk hd hII hSS c2 st2 hb0
    by_cases hlt : k < xs.length
    · have hne : xs.drop k ≠ [] := by intro e; have := congrArg List.length e; simp at this; omega
      have hce := Hch.out k hne
      rw [hce] at hdl
      have hbok := Hsub.out k hlt
      obtain ⟨a8, c8, rfl, -, -, -, -⟩ := id hb8
      have hlen : 0 < ((xs.drop k).take 8).length := by simp; omega
      have ed : xs.drop (min (k + 8) xs.length) = (xs.drop k).drop 8 := by
        rw [List.drop_drop]
        by_cases h8 : k + 8 ≤ xs.length
        · rw [Nat.min_eq_left h8]
        · rw [Nat.min_eq_right (by omega), List.drop_length, List.drop_eq_nil_of_le (by omega)]
      simp only [List.length_cons] at hdl
      have Hce := Lib.hid hce
      have Ed := Lib.hid ed
      have hput := implPut b (n + done.length) qs (.slice a8 ((xs.drop k).take 8).length c8) ((xs.drop k).take 8) _ st hb8 (by omega) hqok hbok
      have Hput := Lib.hid hput
      have hcs := fun os' k' (e : putH ((xs.drop k).take 8) (qs.map Prod.fst) = some (os', k')) => putH_cases e
      have Hcs := Lib.hid hcs
      have hstep : storeAll (cuts (xs.drop k)) (qs.map Prod.fst) = match putH ((xs.drop k).take 8) (qs.map Prod.fst) with | none => none | some (os', k') => match storeAll (cuts ((xs.drop k).drop 8)) os' with | none => none | some (os2, ks) => some (os2, k' :: ks) := by rw [hce, storeAll]; rfl
      have Hstep := Lib.hid hstep
      clear hce hne hput hcs hstep ed hb8 hbok hqok
      generalize hys : (xs.drop k).take 8 = ys at *
      clear hys
      generalize hr : putH ys (qs.map Prod.fst) = r at *
      have Hr := Lib.hid hr
      clear hr
      go_wp2_with fail
      refine Hput.out.mono ?_
      intro e w3 hpost
      rcases r with _ | ⟨os', id⟩
      · obtain ⟨⟨x, rfl⟩, c3⟩ := hpost
        have hfin : storeAll (cuts xs) (ps.map Prod.fst) = none := by rw [Hd.out, Hstep.out]; rfl
        have Hfin := Lib.hid hfin
        clear hfin
        go_wp2_with fail
        go_ret2
        rw [Hfin.out]
        exact ⟨rfl, hc.trans c3⟩
      · obtain ⟨rfl, c3, qs', rfl, st3⟩ := hpost
        have hqok' := (Hcs.out _ _ rfl).2.2.1
        have hfin : storeAll (cuts xs) (ps.map Prod.fst) = (storeAll (cuts ((xs.drop k).drop 8)) (qs'.map Prod.fst)).map (fun p => (p.1, (done ++ [id]) ++ p.2)) := by
          rw [Hd.out, Hstep.out]
          simp only
          rcases storeAll (cuts ((xs.drop k).drop 8)) (qs'.map Prod.fst) with _ | ⟨p, q⟩
          · rfl
          · simp
        have Hfin := Lib.hid hfin
        have hid64 : I64 id := by
          have := getH_ok (law_put Hr.out).2.1
          exact I64.mk (by omega) (by omega)
        have hz3 := c3.size
        have ho3 := (OwnNums.old ho).chg c3 (fun j _ hj e => by have := (HII.out j hj.1).2; omega)
        have st3' := st3.old
        have fr3 : FR w.heap.size (.slice a xs.length c) xs (min (k + 8) xs.length) w3 := ⟨c3.heap fr.1 (fun e => by omega), Hgn.out _ (hc.trans c3), fr.2.2.1, fr.2.2.2⟩
        have hc3 := hc.trans c3
        have Hqok' := Lib.hid hqok'
        clear hfin ho st3 fr hc c3 hqok' Hd Hstep Hput Hcs st
        go_wp2_with (at_builtin; refine wpNums_append slInt _ _ rfl rfl _ done id _ rfl ho3 hid64 rfl (by omega) (by decide) ?_; intro v' w4 ho4 hc4)
        have hbl : ∀ j, u6.ownBlock = some j → (II j ∧ j < wr.heap.size) ∧ j < w3.heap.size := fun j hj => ⟨(ho3.lt j hj).2, (ho3.lt j hj).1⟩
        have st4 := st3'.chg hc4 (fun j hj hs e => by
          have h1 := (hbl j e).1
          have h2 := (HII.out j h1.1).1
          rcases hs.1 with hs | hs
          · exact h2 hs.1
          · omega)
        have cc4 : Chg (fun j => j = b) w w4 := hc3.step hc4 (fun j hj e => by have := (HII.out j (hbl j e).1.1).2; omega)
        have fr4 : FR w.heap.size (.slice a xs.length c) xs (min (k + 8) xs.length) w4 := ⟨hc4.heap fr3.1 (fun e => by have := (HII.out _ (hbl _ e).1.1).2; omega), Hgn.out _ cc4, fr3.2.2.1, fr3.2.2.2⟩
        have hz4 := hc4.size
        clear hc3 hc4 fr3 ho3 st3'
        refine (readerNext w.heap.size _ xs (min (k + 8) xs.length) _ fr4).mono ?_
        rintro e w5 ⟨t5, rfl, ou, fr5, cu⟩
        have hz5 := cu.size
        have st5 := st4.chg cu (fun j hj hs e => by
          rcases hs.1 with hs | hs
          · rcases HSS.out j hs.1 with h | h <;> omega
          · omega)
        have ho5 := ho4.chg cu (fun j hj hs e => by
          rcases hs with hs | hs
          · have := (HII.out j (hbl j hs).1.1).2; omega
          · omega)
        have cc5 := cc4.step cu (fun j hj e => by omega)
        have hb5 : Ints Any w5 t5 ((xs.drop (min (k + 8) xs.length)).take 8) := ou.nums.mono (fun _ _ _ => trivial)
        clear ou cu fr4 cc4 ho4 st4
        go_wp2_with fail
        go_roundg (xs.length - min (k + 8) xs.length)
        case measure => rw [Hgk.out]; omega
        case rel =>
          refine ⟨min (k + 8) xs.length, done ++ [id], qs', _, fun j => u6.ownBlock = some j ∨ w3.heap.size < j, rfl, by omega, by rw [Ed.out]; exact Hfin.out, by rw [Ed.out, List.length_append, List.length_singleton]; omega, Hqok'.out, by rw [List.length_append]; exact st5, fun j hj => ?_, ho5, fun j hj => ?_, hb5, fr5, cc5, by omega⟩
          · rcases hj.1 with h | h
            · exact HSS.out j h.1
            · exact .inr (by omega)
          · rcases hj with h | h
            · obtain ⟨h1, h2⟩ := hbl j h
              obtain ⟨h3, h4⟩ := HII.out j h1.1
              refine ⟨fun hs => ?_, h4⟩
              rcases hs.1 with hs | hs
              · exact h3 hs.1
              · omega
            · exact ⟨fun hs => by have := hs.2; omega, by omega⟩
    · have hnil : xs.drop k = [] := drop_end hlt
      rw [hnil] at hb8
      have hfin : storeAll (cuts xs) (ps.map Prod.fst) = some (qs.map Prod.fst, done) := by rw [Hd.out, hnil, cuts_nil]; simp [storeAll]
      have Hfin := Lib.hid hfin
      obtain ⟨a8, c8, rfl, -, -, -, -⟩ := id hb8
      obtain ⟨av, cv, ev, -, -⟩ := ho.shape
      subst ev
      have hdn : done.length ≤ 4 := by omega
      clear hnil hfin hdl
      go_wp2_with fail
      go_ret2
      rw [Hfin.out]
      exact ⟨_, rfl, ho.mono (fun j _ hj => by have := (HII.out j hj).2; omega), hc, qs, SS, rfl, st.more (by omega), fun j hj => by
        rcases HSS.out j hj with h | h
        · exact .inl h.1
        · exact .inr (by omega)⟩

/-- What FileStore answers. -/
def FilePost (r : Option (List HeldR × List Int)) (w : World) (e : Ending) (w' : World) : Prop :=
  ∃ v t B, e = .returned (.tuple #[v, t, .bool r.isSome]) ∧ OwnHelds (fun j => B ≤ j) w' v ((r.map Prod.fst).getD []) ∧ OwnI (fun j => w.heap.size ≤ j ∧ j < B) w' t ((r.map Prod.snd).getD []) ∧ w.heap.size ≤ B ∧ New w w'
theorem file_none {r : Option (List HeldR × List Int)} (hr : r = none) {w w1 : World} (n : New w w1) : FilePost r w (.returned (.tuple #[.slice none 0 0, .slice none 0 0, .bool false])) w1 := by
  subst hr
  exact ⟨_, _, w.heap.size, rfl, OwnRecs.nil _ _ _ _, .inl ⟨rfl, none, 0, rfl, Nat.zero_le _, fun _ => rfl⟩, Nat.le_refl _, n⟩

set_option maxRecDepth 4000 in
set_option maxHeartbeats 1000000 in
theorem implFileStore {S T : Nat → Prop} (v u : Value) (os : List HeldR) (xs : List Int) (w : World) (h : Helds S w v os) (g : Ints T w u xs) :
    Calls Try.prog 22 #[v, u] w (FilePost (fileStoreH xs os) w) := by
  have hop := openStore v os w h
  have hbk := fun (W : World) (nw : New w W) => implFile u xs W (g.new nw)
  have hgn := fun (W : World) (nw : New w W) => g.old.new nw
  obtain ⟨-, a, c, rfl, h1, h2, -⟩ := h
  obtain ⟨au, cu, rfl, -, -, -, -⟩ := g
  unfold maxLen at h2
  have Hop := Lib.hid hop
  have Hbk := Lib.hid hbk
  have Hgn := Lib.hid hgn
  clear hop hbk hgn
  by_cases hok : storeOk os = true
  · go_enter Try.func22, Try.ntmps22
    go_wp2_with fail
    refine Hop.out.mono ?_
    intro e w1 hpost
    rw [OpenPost, if_pos hok] at hpost
    obtain ⟨b, ps, rfl, st, rfl, n1⟩ := hpost
    have hlen := (storeOk_all hok).1
    have hst1 := st.1
    rcases hx : fileOk xs with _ | _
    · have hr : fileStoreH xs (ps.map Prod.fst) = none := by rw [fileStoreH, if_neg (by rw [hx]; simp)]
      have Hr := Lib.hid hr
      rw [hx] at Hbk
      clear hr hx hok st
      go_wp2_with fail
      refine (Hbk.out _ n1).mono ?_
      rintro e w2 ⟨rfl, rfl⟩
      go_wp2_with fail
      go_ret3
      exact file_none Hr.out n1
    · have hr : fileStoreH xs (ps.map Prod.fst) = storeAll (cuts xs) (ps.map Prod.fst) := by rw [fileStoreH, if_pos ⟨hok, hx⟩]
      have hput := implStoreFile b _ ps (.slice au xs.length cu) xs w1 st (by omega) (Hgn.out w1 n1) (fun j hj e => by have := hj.2; omega) hok hx
      have Hput := Lib.hid hput
      have hcs := fun os' ks (e : storeAll (cuts xs) (ps.map Prod.fst) = some (os', ks)) => (store_all hok e).1
      have Hcs := Lib.hid hcs
      rw [hx] at Hbk
      have Hr := Lib.hid hr
      have hz1 := n1.size
      have hbw := st.2.1
      clear hput hx hok st hcs hr
      generalize hrr : storeAll (cuts xs) (ps.map Prod.fst) = r at *
      clear hrr
      go_wp2_with fail
      refine (Hbk.out _ n1).mono ?_
      rintro e w2 ⟨rfl, rfl⟩
      go_wp2_with fail
      refine Hput.out.mono ?_
      intro e w2 hpost
      rcases r with _ | ⟨os', ks⟩
      · obtain ⟨rfl, c2⟩ := hpost
        go_wp2_with fail
        go_ret3
        exact file_none Hr.out (n1.trans_chg c2 (fun j hj e => by omega))
      · obtain ⟨t, rfl, ot, c2, qs, SS, rfl, st2, -⟩ := hpost
        have hok2 := Hcs.out _ _ rfl
        have hl := implList b _ qs w2 st2 (by omega) (okPs_of hok2).bds.2
        have Hl := Lib.hid hl
        have n2 := n1.trans_chg c2 (fun j hj e => by omega)
        obtain ⟨at', ct', rfl, -, -⟩ := ot.shape
        have hz2 := c2.size
        clear hl st2 hok2 c2
        go_wp2_with fail
        refine Hl.out.mono ?_
        rintro e w3 ⟨v3, rfl, o3, n3⟩
        have ot3 := (OwnI.of ot.old).chg n3 (fun _ _ _ hf => hf)
        go_wp2_with fail
        go_ret3
        rw [Hr.out]
        exact ⟨_, _, w2.heap.size, rfl, o3, ot3.mono (fun j _ hj => by omega), by omega, n2.trans n3⟩
  · have hr : fileStoreH xs os = none := by rw [fileStoreH, if_neg (fun h => hok h.1)]
    have Hr := Lib.hid hr
    have hno : storeOk os = false := by simpa using hok
    have Hno := Lib.hid hno
    clear hr hok hno
    go_enter Try.func22, Try.ntmps22
    go_wp2_with fail
    refine Hop.out.mono ?_
    intro e w1 hpost
    rw [OpenPost, if_neg (by rw [Hno.out]; simp)] at hpost
    obtain ⟨rfl, n1⟩ := hpost
    go_wp2_with fail
    go_ret3
    exact file_none Hr.out n1

set_option maxRecDepth 4000 in
set_option maxHeartbeats 1000000 in
theorem implFileLoad {S T : Nat → Prop} (v u : Value) (os : List HeldR) (ids : List Int) (w : World) (h : Helds S w v os) (g : Ints T w u ids) :
    Calls Try.prog 25 #[v, u] w (GetPost (fileLoadH ids os) w) := by
  have hop := openStore v os w h
  have hgn := fun (W : World) (nw : New w W) => g.new nw
  obtain ⟨-, a, c, rfl, h1, h2, -⟩ := h
  obtain ⟨au, cu, rfl, -, -, -, -⟩ := g
  unfold maxLen at h2
  have Hop := Lib.hid hop
  have Hgn := Lib.hid hgn
  clear hop hgn
  by_cases hok : storeOk os = true
  · go_enter Try.func25, Try.ntmps25
    go_wp2_with fail
    refine Hop.out.mono ?_
    intro e w1 hpost
    rw [OpenPost, if_pos hok] at hpost
    obtain ⟨b, ps, rfl, st, rfl, n1⟩ := hpost
    have hcall := implLoadFile b _ ps _ ids w1 st (Hgn.out w1 n1) hok
    have Hcall := Lib.hid hcall
    clear hcall st hok
    go_wp2_with fail
    refine Hcall.out.mono ?_
    rintro e w2 ⟨t, rfl, x2, n2⟩
    go_wp2_with fail
    go_ret2
    exact ⟨_, rfl, x2.mono (fun j _ hj => by have := n1.size; omega), n1.trans n2⟩
  · have hr : fileLoadH ids os = none := by rw [fileLoadH, if_neg (fun h => hok h.1)]
    have Hr := Lib.hid hr
    have hno : storeOk os = false := by simpa using hok
    have Hno := Lib.hid hno
    clear hr hok hno
    go_enter Try.func25, Try.ntmps25
    go_wp2_with fail
    refine Hop.out.mono ?_
    intro e w1 hpost
    rw [OpenPost, if_neg (by rw [Hno.out]; simp)] at hpost
    obtain ⟨rfl, n1⟩ := hpost
    go_wp2_with fail
    go_ret2
    rw [Hr.out]
    exact ⟨_, rfl, Nums.nil _ _ _, n1⟩

set_option maxRecDepth 4000 in
set_option maxHeartbeats 1000000 in
theorem implFileFree {S T : Nat → Prop} (v u : Value) (os : List HeldR) (ids : List Int) (w : World) (h : Helds S w v os) (g : Ints T w u ids) :
    Calls Try.prog 15 #[v, u] w (KeepPost (fileFreeH ids os) w) := by
  have hop := openStore v os w h
  have hgn := fun (W : World) (nw : New w W) => g.old.new nw
  obtain ⟨-, a, c, rfl, h1, h2, -⟩ := h
  obtain ⟨au, cu, rfl, -, -, -, -⟩ := g
  unfold maxLen at h2
  have Hop := Lib.hid hop
  have Hgn := Lib.hid hgn
  clear hop hgn
  by_cases hok : storeOk os = true
  · go_enter Try.func15, Try.ntmps15
    go_wp2_with fail
    refine Hop.out.mono ?_
    intro e w1 hpost
    rw [OpenPost, if_pos hok] at hpost
    obtain ⟨b, ps, rfl, st, rfl, n1⟩ := hpost
    have hlen := (storeOk_all hok).1
    have hst1 := st.1
    have hcall := implFreeFile b _ ps _ ids w1 st (by omega) (Hgn.out w1 n1) (fun j hj e => by have := hj.2; omega) hok
    have Hcall := Lib.hid hcall
    have hcs := fun os' (e : fileFreeH ids (ps.map Prod.fst) = some os') => (law_fileFree e).1
    have Hcs := Lib.hid hcs
    clear hcall st hok hcs
    generalize hr : fileFreeH ids (ps.map Prod.fst) = r at *
    clear hr
    go_wp2_with fail
    refine Hcall.out.mono ?_
    intro e w2 hpost
    rcases r with _ | os'
    · obtain ⟨rfl, c2⟩ := hpost
      go_wp2_with fail
      go_ret2
      exact ⟨_, rfl, OwnRecs.nil _ _ _ _, n1.trans_chg c2 (fun j hj e => by omega)⟩
    · obtain ⟨rfl, c2, qs, rfl, st2⟩ := hpost
      have hok2 := Hcs.out _ rfl
      have hl := implList b _ qs w2 st2 (by omega) (okPs_of hok2).bds.2
      have Hl := Lib.hid hl
      have n2 := n1.trans_chg c2 (fun j hj e => by omega)
      clear hl st2 hok2 c2
      go_wp2_with fail
      refine Hl.out.mono ?_
      rintro e w3 ⟨v3, rfl, o3, n3⟩
      go_wp2_with fail
      go_ret2
      exact ⟨_, rfl, OwnRecs.mono o3 (fun j _ hj => by have := n2.size; omega), n2.trans n3⟩
  · have hr : fileFreeH ids os = none := by rw [fileFreeH, if_neg (fun h => hok h.1)]
    have Hr := Lib.hid hr
    have hno : storeOk os = false := by simpa using hok
    have Hno := Lib.hid hno
    clear hr hok hno
    go_enter Try.func15, Try.ntmps15
    go_wp2_with fail
    refine Hop.out.mono ?_
    intro e w1 hpost
    rw [OpenPost, if_neg (by rw [Hno.out]; simp)] at hpost
    obtain ⟨rfl, n1⟩ := hpost
    go_wp2_with fail
    go_ret2
    rw [Hr.out]
    exact ⟨_, rfl, OwnRecs.nil _ _ _ _, n1⟩
end Go.Proofs.Ytfhnhggmoplmiaa
