/- The reference's TreeList. -/
import Derived.Test.YtnpblnkjdebedaaDoorSpecFind
namespace Go.Proofs.YtnpblnkjdebedaaDoor
open Go.RowKit

def pathsIn (d : List UInt8) (os : List ItemR) : List (List UInt8) := (os.filter fun o => parentOf o.path == d).map (·.path)
theorem pathsIn_take {d : List UInt8} {os : List ItemR} {k : Nat} {o : ItemR} (h : os[k]? = some o) : pathsIn d (os.take (k + 1)) = pathsIn d (os.take k) ++ (if parentOf o.path = d then [o.path] else []) := by
  obtain ⟨hk, e⟩ := List.getElem?_eq_some_iff.1 h
  unfold pathsIn
  rw [List.take_succ_eq_append_getElem hk, e, List.filter_append, List.map_append]
  congr 1
  by_cases hp : parentOf o.path = d
  · rw [if_pos hp, List.filter_cons_of_pos (by simpa using hp)]; rfl
  · rw [if_neg hp, List.filter_cons_of_neg (by simpa using hp)]; rfl
theorem pathsIn_len (d : List UInt8) (os : List ItemR) : (pathsIn d os).length ≤ os.length := by
  unfold pathsIn; rw [List.length_map]; exact List.length_filter_le _ _
theorem list_stop {w w' : World} {v : Value} (n : New w w') (h : Row 9 1 (fun j => w.heap.size ≤ j) w' v 0 []) : ListPost none w (.returned (.tuple #[v, .bool false])) w' := ⟨_, rfl, OwnStrs.of_row (ts := []) h (by simp), n⟩

set_option maxRecDepth 4000 in
set_option maxHeartbeats 2000000 in
theorem specTreeList {S : Nat → Prop} (v : Value) (os : List ItemR) (d : List UInt8) (w : World) (h : Items S w v os) (hall : ∀ o ∈ os, o.size ≤ 1048576) :
    Calls Tryd.prog 25 #[v, txt d] w (ListPost (listR os d) w) := by
  have h0 := h
  have hsv := fun (W : World) (n : New w W) => specValid v os W (Recs.new h0 n) hall
  have hsa := fun (W : World) (n : New w W) => specAt v os d W (Recs.new h0 n)
  have hat := fun (W : World) (n : New w W) (k : Nat) (o : ItemR) (ho : os[k]? = some o) => Items.at (Recs.new h0 n) ho
  have hpar := fun (o : ItemR) (ho : o ∈ os) (W : World) => spec5Parent o.path W (ItemR.parts (hall o ho)).1
  have N0 := Lib.hid ((New.refl w).alloc (.cells #[] 9))
  have hrow0 : Row 9 1 (fun j => w.heap.size ≤ j) (w.alloc (.cells #[] 9)) (.slice (some ⟨w.heap.size, 0, none⟩) 0 0) 0 [] := (Row.empty 9 1 w).mono (fun j _ hj => by omega)
  have Hr0 := Lib.hid hrow0
  have Hat := Lib.hid hat
  have Hall := Lib.hid hall
  unfold txt at hsa hpar ⊢
  have Hpar := Lib.hid hpar
  obtain ⟨-, a, c, rfl, h1, h2, -⟩ := h
  unfold maxLen at h2
  clear h0 hat hall hpar hrow0
  rcases hk : treeOk os with _ | _
  · rw [hk] at hsv
    have hr : listR os d = none := by unfold listR; rw [hk]; rfl
    have Hsv := Lib.hid hsv
    have Hsa := Lib.hid hsa
    rw [hr]
    generalize atI os d = r at *
    clear hk hr hsv hsa
    go_enter Tryd.func25, Tryd.ntmps25
    go_wp2_with fail
    refine (Hsa.out _ N0.out).mono ?_
    rintro e w1 ⟨rfl, rfl⟩
    go_wp2_with fail
    refine (Hsv.out _ N0.out).mono ?_
    rintro e w2 ⟨rfl, n2⟩
    have r2 := Hr0.out.new n2
    go_wp2_with fail
    go_ret2
    exact list_stop (N0.out.trans n2) r2
  · rw [hk] at hsv
    have Hsv := Lib.hid hsv
    obtain ⟨-, h12⟩ := treeOk_p hk
    by_cases hde : d = []
    · subst hde
      have hr : listR os [] = some (pathsIn [] os) := by unfold listR; rw [hk]; rfl
      rw [hr]
      have Hsa := Lib.hid hsa
      generalize atI os [] = r at *
      clear hk hr hsv hsa
      go_enter Tryd.func25, Tryd.ntmps25
      go_wp2_with fail
      refine (Hsa.out _ N0.out).mono ?_
      rintro e w1 ⟨rfl, rfl⟩
      go_wp2_with fail
      refine (Hsv.out _ N0.out).mono ?_
      rintro e w2 ⟨rfl, n2⟩
      have r2 := Hr0.out.new n2
      have n3 := N0.out.trans n2
      have R2 := Lib.hid r2
      clear r2
      go_wp2_with fail
      go_loopg [6, 8] os.length (fun gk s6 i wr => ∃ (k : Nat), gk = os.length - k ∧ k ≤ os.length ∧ i = .int .i64 k ∧ New w wr ∧ Row 9 1 (fun j => w.heap.size ≤ j) wr s6 (pathsIn [] (os.take k)).length ((pathsIn [] (os.take k)).map txt))
      case atStart => exact ⟨0, by omega, by omega, rfl, n3, R2.out⟩
      case round =>
        obtain ⟨k, hgk, hk, rfl, hn, hrow⟩ := hrel
        have Hgk := Lib.hid hgk
        clear hgk
        by_cases hlt : k < os.length
        · obtain ⟨q, hq⟩ := get_of hlt
          obtain ⟨b2, off2, c2', uv2, e6, -, d0, -⟩ := Hat.out wr hn k q hq
          simp only [Value.slice.injEq] at e6
          obtain ⟨rfl, -, rfl⟩ := e6
          have Htk := Lib.hid (pathsIn_take (d := []) hq)
          have Hp := Lib.hid (Hpar.out q (List.mem_of_getElem? hq))
          have hdn := Nat.le_trans (pathsIn_len [] (os.take k)) (by rw [List.length_take]; omega : (os.take k).length ≤ 12)
          unfold txt at d0
          obtain ⟨at3, cs, hs6, -⟩ := hrow.shape
          subst hs6
          have hos := hrow.2
          have Hos := Lib.hid hos
          have hrow2 := hrow
          have z3 := hn.size
          by_cases hpd : parentOf q.path = []
          · have Htk2 := Lib.hid (show pathsIn [] (os.take (k + 1)) = pathsIn [] (os.take k) ++ [q.path] by rw [Htk.out, if_pos hpd])
            rw [hpd] at Hp
            generalize hdd : pathsIn [] (os.take k) = done at *
            clear hq hdd hos hrow hpd
            go_wp2_with fail
            refine (Hp.out _).mono ?_
            rintro e w5 ⟨rfl, rfl⟩
            go_wp2_with (at_builtin; refine wpRow_append1 slStr _ _ rfl rfl _ done.length (done.map txt) (.string ⟨q.path.toArray⟩) _ rfl hrow2 rfl rfl (by omega) (by decide) ?_; intro v' w5 q1 c5)
            have q2 : Row 9 1 (fun j => w.heap.size ≤ j) w5 v' (done.length + 1) (done.map txt ++ [.string ⟨q.path.toArray⟩]) := q1.mono (fun j _ hj => by
              rcases hj with hj | hj
              · exact Hos.out j hj
              · omega)
            have n5 : New w w5 := hn.trans_chg c5 (fun j hj e => by have := Hos.out j e; omega)
            clear q1 c5 hrow2
            go_roundg (os.length - (k + 1))
            case measure => rw [Hgk.out]; omega
            case rel =>
              refine ⟨k + 1, rfl, by omega, by go_num, n5, ?_⟩
              rw [Htk2.out]
              simp only [List.length_append, List.length_singleton, List.map_append, List.map_cons, List.map_nil]
              exact q2
          · have Htk2 := Lib.hid (show pathsIn [] (os.take (k + 1)) = pathsIn [] (os.take k) by rw [Htk.out, if_neg hpd, List.append_nil])
            have hbe : (parentOf q.path == []) = false := by simp [hpd]
            have hrow3 := Lib.hid hrow
            generalize parentOf q.path = pq at *
            clear hq hos hrow hpd hrow2
            go_wp2_with fail
            refine (Hp.out _).mono ?_
            rintro e w5 ⟨rfl, rfl⟩
            go_wp2_with fail
            go_roundg (os.length - (k + 1))
            case measure => rw [Hgk.out]; omega
            case rel =>
              refine ⟨k + 1, rfl, by omega, by go_num, hn, ?_⟩
              rw [Htk2.out]
              exact hrow3.out
        · have ek : os.take k = os := List.take_of_length_le (by omega)
          rw [ek] at hrow
          have Hrow := Lib.hid hrow
          obtain ⟨at3, cs, rfl, -⟩ := hrow.shape
          clear ek hrow
          go_wp2_with fail
          go_ret2
          refine ⟨_, rfl, OwnStrs.of_row Hrow.out (fun x hx => ?_), hn⟩
          simp only [Option.getD_some, pathsIn, List.mem_map, List.mem_filter] at hx
          obtain ⟨q, ⟨hq, -⟩, rfl⟩ := hx
          have := (ItemR.parts (Hall.out q hq)).1
          unfold maxLen
          omega
    · have hne : (d == []) = false := by simp [hde]
      have hne2 : (d != []) = true := by simp [hde]
      have hem : d.isEmpty = false := by simpa using hde
      rcases atI_cases os d with ⟨e1, e2⟩ | ⟨i, o, e1, e2, e3, e4⟩
      · have hr : listR os d = none := by unfold listR; rw [hk, e2, hem]; rfl
        rw [hr]
        rw [e1] at hsa
        have Hsa := Lib.hid hsa
        clear hk hr hsv hsa e1 e2
        go_enter Tryd.func25, Tryd.ntmps25
        go_wp2_with fail
        refine (Hsa.out _ N0.out).mono ?_
        rintro e w1 ⟨rfl, rfl⟩
        go_wp2_with fail
        refine (Hsv.out _ N0.out).mono ?_
        rintro e w2 ⟨rfl, n2⟩
        have r2 := Hr0.out.new n2
        go_wp2_with fail
        go_ret2
        exact list_stop (N0.out.trans n2) r2
      · rw [e1] at hsa
        have Hsa := Lib.hid hsa
        have hi := (List.getElem?_eq_some_iff.1 e2).1
        have hat2 := fun (W : World) (n : New w W) => Hat.out W n i o e2
        have Hat2 := Lib.hid hat2
        rcases hod : o.dir with _ | _
        · have hr : listR os d = none := by unfold listR; rw [hk, e4, hem, Option.map_some, hod]; rfl
          rw [hr]
          have Hod := Lib.hid hod
          clear hk hr hsv hsa e1 e2 e3 e4 hat2 hod
          go_enter Tryd.func25, Tryd.ntmps25
          go_wp2_with fail
          refine (Hsa.out _ N0.out).mono ?_
          rintro e w1 ⟨rfl, rfl⟩
          go_wp2_with fail
          refine (Hsv.out _ N0.out).mono ?_
          rintro e w2 ⟨rfl, n2⟩
          have r2 := Hr0.out.new n2
          obtain ⟨bb, off, c', uv, e5, hbb, c0, c1, -⟩ := Hat2.out w2 (N0.out.trans n2)
          simp only [Value.slice.injEq] at e5
          obtain ⟨rfl, -, rfl⟩ := e5
          rw [Hod.out] at c1
          clear c0
          go_wp2_with fail
          go_ret2
          exact list_stop (N0.out.trans n2) r2
        · have hr : listR os d = some (pathsIn d os) := by unfold listR; rw [hk, e4, hem, Option.map_some, hod]; rfl
          rw [hr]
          have Hod := Lib.hid hod
          clear hk hr hsv hsa e1 e2 e3 e4 hat2 hod
          go_enter Tryd.func25, Tryd.ntmps25
          go_wp2_with fail
          refine (Hsa.out _ N0.out).mono ?_
          rintro e w1 ⟨rfl, rfl⟩
          go_wp2_with fail
          refine (Hsv.out _ N0.out).mono ?_
          rintro e w2 ⟨rfl, n2⟩
          have r2 := Hr0.out.new n2
          have n3 := N0.out.trans n2
          have R2 := Lib.hid r2
          obtain ⟨bb, off, c', uv, e5, hbb, c0, c1, -⟩ := Hat2.out w2 n3
          simp only [Value.slice.injEq] at e5
          obtain ⟨rfl, -, rfl⟩ := e5
          rw [Hod.out] at c1
          clear c0 r2
          go_wp2_with fail
          go_loopg [6, 8] os.length (fun gk s6 i wr => ∃ (k : Nat), gk = os.length - k ∧ k ≤ os.length ∧ i = .int .i64 k ∧ New w wr ∧ Row 9 1 (fun j => w.heap.size ≤ j) wr s6 (pathsIn d (os.take k)).length ((pathsIn d (os.take k)).map txt))
          case atStart => exact ⟨0, by omega, by omega, rfl, n3, R2.out⟩
          case round =>
            obtain ⟨k, hgk, hk, rfl, hn, hrow⟩ := hrel
            have Hgk := Lib.hid hgk
            clear hgk
            by_cases hlt : k < os.length
            · obtain ⟨q, hq⟩ := get_of hlt
              obtain ⟨b2, off2, c2', uv2, e6, -, d0, -⟩ := Hat.out wr hn k q hq
              simp only [Value.slice.injEq, Option.some.injEq, Addr.mk.injEq] at e6
              obtain ⟨⟨rfl, rfl, -⟩, -, rfl⟩ := e6
              have Htk := Lib.hid (pathsIn_take (d := d) hq)
              have Hp := Lib.hid (Hpar.out q (List.mem_of_getElem? hq))
              have hdn := Nat.le_trans (pathsIn_len d (os.take k)) (by rw [List.length_take]; omega : (os.take k).length ≤ 12)
              unfold txt at d0
              obtain ⟨at3, cs, hs6, -⟩ := hrow.shape
              subst hs6
              have hos := hrow.2
              have Hos := Lib.hid hos
              have hrow2 := hrow
              have z3 := hn.size
              by_cases hpd : parentOf q.path = d
              · have Htk2 := Lib.hid (show pathsIn d (os.take (k + 1)) = pathsIn d (os.take k) ++ [q.path] by rw [Htk.out, if_pos hpd])
                rw [hpd] at Hp
                generalize hdd : pathsIn d (os.take k) = done at *
                clear hq hdd hos hrow hpd
                go_wp2_with fail
                refine (Hp.out _).mono ?_
                rintro e w5 ⟨rfl, rfl⟩
                go_wp2_with (at_builtin; refine wpRow_append1 slStr _ _ rfl rfl _ done.length (done.map txt) (.string ⟨q.path.toArray⟩) _ rfl hrow2 rfl rfl (by omega) (by decide) ?_; intro v' w5 q1 c5)
                have q2 : Row 9 1 (fun j => w.heap.size ≤ j) w5 v' (done.length + 1) (done.map txt ++ [.string ⟨q.path.toArray⟩]) := q1.mono (fun j _ hj => by
                  rcases hj with hj | hj
                  · exact Hos.out j hj
                  · omega)
                have n5 : New w w5 := hn.trans_chg c5 (fun j hj e => by have := Hos.out j e; omega)
                clear q1 c5 hrow2
                go_roundg (os.length - (k + 1))
                case measure => rw [Hgk.out]; omega
                case rel =>
                  refine ⟨k + 1, rfl, by omega, by go_num, n5, ?_⟩
                  rw [Htk2.out]
                  simp only [List.length_append, List.length_singleton, List.map_append, List.map_cons, List.map_nil]
                  exact q2
              · have Htk2 := Lib.hid (show pathsIn d (os.take (k + 1)) = pathsIn d (os.take k) by rw [Htk.out, if_neg hpd, List.append_nil])
                have hbe : (parentOf q.path == d) = false := by simp [hpd]
                have hrow3 := Lib.hid hrow
                generalize parentOf q.path = pq at *
                clear hq hos hrow hpd hrow2
                go_wp2_with fail
                refine (Hp.out _).mono ?_
                rintro e w5 ⟨rfl, rfl⟩
                go_wp2_with fail
                go_roundg (os.length - (k + 1))
                case measure => rw [Hgk.out]; omega
                case rel =>
                  refine ⟨k + 1, rfl, by omega, by go_num, hn, ?_⟩
                  rw [Htk2.out]
                  exact hrow3.out
            · have ek : os.take k = os := List.take_of_length_le (by omega)
              rw [ek] at hrow
              have Hrow := Lib.hid hrow
              obtain ⟨at3, cs, rfl, -⟩ := hrow.shape
              clear ek hrow
              go_wp2_with fail
              go_ret2
              refine ⟨_, rfl, OwnStrs.of_row Hrow.out (fun x hx => ?_), hn⟩
              simp only [Option.getD_some, pathsIn, List.mem_map, List.mem_filter] at hx
              obtain ⟨q, ⟨hq, -⟩, rfl⟩ := hx
              have := (ItemR.parts (Hall.out q hq)).1
              unfold maxLen
              omega
end Go.Proofs.YtnpblnkjdebedaaDoor
