/- TreeList of the program: the paths of a directory. -/
import Derived.Test.YtnpblnkjdebedaaDoorTreeFind
namespace Go.Proofs.YtnpblnkjdebedaaDoor
open Go.RowKit

theorem fields_strs (w : World) : ∀ (ts : List (List UInt8)) (S : Nat → Prop), (∀ x ∈ ts, x.length ≤ maxLen) → Fields S w (ts.map txt) (strFlds ts)
  | [], _, _ => trivial
  | x :: r, _, h => ⟨⟨rfl, h x List.mem_cons_self⟩, fields_strs w r _ fun y hy => h y (List.mem_cons_of_mem _ hy)⟩
theorem OwnStrs.of_row {S : Nat → Prop} {w : World} {v : Value} {ts : List (List UInt8)} (h : Row 9 1 S w v ts.length (ts.map txt)) (hf : ∀ x ∈ ts, x.length ≤ maxLen) : OwnStrs S w v ts := ⟨_, h, fields_strs w ts _ hf⟩

def listR (os : List ItemR) (d : List UInt8) : Option (List (List UInt8)) :=
  if (treeOk os && (d.isEmpty || ((findI os d).map (·.dir)).getD false)) = true then some ((os.filter fun o => parentOf o.path == d).map (·.path)) else none
def ListPost (r : Option (List (List UInt8))) (w : World) (e : Ending) (w' : World) : Prop :=
  ∃ v, e = .returned (.tuple #[v, .bool r.isSome]) ∧ OwnStrs (fun j => w.heap.size ≤ j) w' v (r.getD []) ∧ New w w'
theorem list_none {w w' : World} (n : New w w') : ListPost none w (.returned (.tuple #[.slice none 0 0, .bool false])) w' := ⟨_, rfl, OwnRecs.nil _ _ _ _, n⟩

def keyD (d : List UInt8) : Key := if d = [] then [] else cutS d
def startD (d : List UInt8) : List UInt8 := if d = [] then [] else d ++ [47]
theorem kid_dir {os : List ItemR} (h : TreeP os) {o : ItemR} (ho : o ∈ os) (d : List UInt8) : ((cutS o.path).dropLast == keyD d) = (parentOf o.path == d) := by
  unfold keyD
  rw [Bool.eq_iff_iff, beq_iff_eq, beq_iff_eq]
  rcases parent_cases (h.path ho) with ⟨e1, e2⟩ | ⟨n, e1, _, _, e2⟩
  · rw [e1, e2]
    by_cases hd : d = []
    · rw [if_pos hd, hd]; simp
    · rw [if_neg hd]
      exact ⟨fun e => absurd e.symm (cutS_ne d), fun e => absurd e.symm hd⟩
  · rw [e2, List.dropLast_concat]
    by_cases hd : d = []
    · rw [if_pos hd, hd]
      exact ⟨fun e => absurd e (cutS_ne _), fun e => absurd e e1⟩
    · rw [if_neg hd]
      exact ⟨cutS_inj, fun e => by rw [e]⟩
theorem kid_path {l d : List UInt8} (hl : pathOk l = true) (h : (cutS l).dropLast = keyD d) : startD d ++ nameOf (cutS l) = l := by
  have e := key_text hl
  rw [h] at e
  unfold startD
  unfold keyD at e
  by_cases hd : d = []
  · rw [if_pos hd] at e ⊢
    rw [if_pos rfl] at e
    rw [List.nil_append, ← e]
  · rw [if_neg hd] at e ⊢
    rw [if_neg (cutS_ne d), join_cut] at e
    conv => rhs; rw [e]
    simp
/-- the paths of a directory, by its kids -/
theorem dir_paths {os : List ItemR} (h : TreeP os) (d : List UInt8) : (kidsOf (nodesOf os) (keyD d)).map (fun q => startD d ++ nameOf q) = (os.filter fun o => parentOf o.path == d).map (·.path) := by
  rw [kids_nodes, List.map_map]
  have e : (os.filter fun o => (cutS o.path).dropLast == keyD d) = os.filter fun o => parentOf o.path == d := by
    refine List.filter_congr fun o ho => kid_dir h ho d
  rw [← e]
  refine List.map_congr_left fun o ho => ?_
  simp only [List.mem_filter, beq_iff_eq] at ho
  exact kid_path (h.path ho.1) ho.2
theorem list_ok {os : List ItemR} {d : List UInt8} (hk : treeOk os = true) (hd : (d.isEmpty || ((findI os d).map (·.dir)).getD false) = true) : listR os d = some ((kidsOf (nodesOf os) (keyD d)).map (fun q => startD d ++ nameOf q)) := by
  unfold listR
  rw [hk, hd, dir_paths (treeOk_p hk).1]
  rfl

set_option maxRecDepth 4000 in
set_option maxHeartbeats 2000000 in
theorem implTreeList {S : Nat → Prop} (v : Value) (os : List ItemR) (d : List UInt8) (w : World) (h : Items S w v os) (hall : ∀ o ∈ os, o.size ≤ 1048576) (hd : d.length ≤ 1048576) :
    Calls Tryd.prog 15 #[v, txt d] w (ListPost (listR os d) w) := by
  have ho := openTree v os w h hall
  unfold OpenPost at ho
  unfold txt
  obtain ⟨-, a, c, rfl, -⟩ := h
  rcases hk : treeOk os with _ | _
  · rw [hk] at ho
    have hr : listR os d = none := by unfold listR; rw [hk]; rfl
    have Ho := Lib.hid ho
    rw [hr]
    clear ho hk hr
    go_enter Tryd.func15, Tryd.ntmps15
    go_wp2_with fail
    refine Ho.out.mono ?_
    rintro e w1 ⟨rfl, n1⟩
    go_wp2_with fail
    go_ret2
    exact list_none n1
  · rw [hk] at ho
    obtain ⟨hT, h12⟩ := treeOk_p hk
    have hlen : (nodesOf os).length ≤ 1000 := by simp [nodesOf]; omega
    by_cases hde : d = []
    · subst hde
      have hr := list_ok (os := os) (d := []) hk rfl
      rw [show keyD [] = [] from rfl, show startD [] = [] from rfl] at hr
      rw [hr]
      have hmn : (⟨[], true, []⟩ : Nd) ∈ nodesOf os := List.mem_cons_self
      have HG := Lib.hid hT.good
      have Hmn := Lib.hid hmn
      have Ho := Lib.hid ho
      have Hlen := Lib.hid (Nat.le_trans (kids_le (nodesOf os) []) hlen)
      clear hk ho hr hT hlen hmn
      go_enter Tryd.func15, Tryd.ntmps15
      go_wp2_with fail
      refine Ho.out.mono ?_
      rintro e w1 ⟨b, rfl, n1, u, kv, F⟩
      obtain ⟨-, d1, -, d3, -, -⟩ := F.cells Hmn.out
      obtain ⟨ak, ck, hkv, s1, s2, -⟩ := (F.row _ Hmn.out).shape
      have hkid := fun (W : World) (n : New w1 W) => (F.new n).kid Hmn.out hkv
      rw [hkv] at d3
      simp only at d1 d3 hkid s1
      have Hkid := Lib.hid hkid
      unfold maxLen at s2
      clear F hkid hkv
      have hwrd : ∀ q ∈ kidsOf (nodesOf os) [], (nameOf q).length ≤ 5 := fun q hq => by
        obtain ⟨x, hx, rfl, -⟩ := mem_kids.1 hq
        exact HG.out.word x hx
      have Hwrd := Lib.hid hwrd
      clear hwrd
      generalize hks : kidsOf (nodesOf os) [] = ks at *
      have Hks := Lib.hid hks
      clear hks
      go_wp2_with fail
      go_loopg [10, 42] ks.length (fun gk s10 i wr => ∃ (k : Nat), gk = ks.length - k ∧ k ≤ ks.length ∧ i = .int .i64 k ∧ New w1 wr ∧ Row 9 1 (fun j => w1.heap.size ≤ j) wr s10 ((ks.take k).map fun q => ([] : List UInt8) ++ nameOf q).length (((ks.take k).map fun q => ([] : List UInt8) ++ nameOf q).map txt))
      case atStart => exact ⟨0, by omega, by omega, rfl, New.refl _, Row.nil _ _ _ _⟩
      case round =>
        obtain ⟨k, hgk, hk, rfl, hn, hrow⟩ := hrel
        have Hgk := Lib.hid hgk
        clear hgk
        by_cases hlt : k < ks.length
        · obtain ⟨q, hq⟩ := get_of hlt
          obtain ⟨g, rfl, k1, k2⟩ := Hkid.out wr hn k q hq
          have hwq := Hwrd.out q (List.mem_of_getElem? hq)
          have htk : (ks.take (k + 1)).map (fun q => ([] : List UInt8) ++ nameOf q) = (ks.take k).map (fun q => ([] : List UInt8) ++ nameOf q) ++ [([] : List UInt8) ++ nameOf q] := by
            obtain ⟨hk', e⟩ := List.getElem?_eq_some_iff.1 hq
            rw [List.take_succ_eq_append_getElem hk', e, List.map_append]; rfl
          have Htk := Lib.hid htk
          have hdn : ((ks.take k).map (fun q => ([] : List UInt8) ++ nameOf q)).length ≤ 1000 := by
            have := Hlen.out
            try rw [Hks.out] at this
            rw [List.length_map, List.length_take]; omega
          unfold txt at k2
          generalize hdd : (ks.take k).map (fun q => ([] : List UInt8) ++ nameOf q) = done at *
          generalize hnn : nameOf q = nn at *
          have hcat : (⟨(([] : List UInt8)).toArray⟩ : ByteArray) ++ ⟨nn.toArray⟩ = ⟨(([] : List UInt8) ++ nn).toArray⟩ := by
            apply ByteArray.ext
            simp
          have Hcat := Lib.hid hcat
          have hsum : ¬ (9223372036854775807 < (([] : List UInt8)).length + nn.length) := by
            first | (simp; omega) | omega
          clear hcat
          have hrow2 := hrow
          obtain ⟨at3, cs, rfl, -⟩ := hrow.shape
          have hos := hrow.2
          have Hos := Lib.hid hos
          have z3 := hn.size
          clear hq hdd htk hos hrow hnn
          go_wp2_with (at_builtin; refine wpRow_append1 slStr _ _ rfl rfl _ done.length (done.map txt) _ _ rfl hrow2 rfl rfl (by omega) (by decide) ?_; intro v' w5 q1 c5)
          have q2 : Row 9 1 (fun j => w1.heap.size ≤ j) w5 v' (done.length + 1) (done.map txt ++ [txt (([] : List UInt8) ++ nn)]) := by
            have q1' : Row 9 1 _ w5 v' (done.length + 1) (done.map txt ++ [.string ((⟨(([] : List UInt8)).toArray⟩ : ByteArray) ++ ⟨nn.toArray⟩)]) := q1
            rw [Hcat.out] at q1'
            exact q1'.mono (fun j _ hj => by
              rcases hj with hj | hj
              · exact Hos.out j hj
              · omega)
          have n5 : New w1 w5 := hn.trans_chg c5 (fun j hj e => by have := Hos.out j e; omega)
          clear q1 c5 hrow2
          go_roundg (ks.length - (k + 1))
          case measure => rw [Hgk.out]; omega
          case rel =>
            refine ⟨k + 1, rfl, by omega, by go_num, n5, ?_⟩
            rw [Htk.out]
            simp only [List.length_append, List.length_singleton, List.map_append, List.map_cons, List.map_nil]
            exact q2
        · have ek : ks.take k = ks := List.take_of_length_le (by omega)
          rw [ek] at hrow
          have Hrow := Lib.hid hrow
          obtain ⟨at3, cs, rfl, -⟩ := hrow.shape
          clear ek hrow
          go_wp2_with fail
          go_ret2
          refine ⟨_, rfl, (OwnStrs.of_row (by simp only [Option.getD_some, Hks.out]; exact Hrow.out) (fun x hx => ?_)).mono (fun j _ hj => by have := n1.size; omega), n1.trans hn⟩
          simp only [Option.getD_some, Hks.out, List.mem_map] at hx
          obtain ⟨q, hq, rfl⟩ := hx
          have := Hwrd.out q hq
          unfold maxLen
          simp
          omega
    · rcases hf : ((findI os d).map (·.dir)).getD false with _ | _
      · have hr : listR os d = none := by unfold listR; rw [hk, hf]; simp [hde]
        rw [hr]
        have hne : (d == []) = false := by simp [hde]
        have hsum : ¬ (9223372036854775807 < d.length + 1) := by omega
        have hfn := fun (b : Key → Nat) (u kv : Key → Value) (W : World) (F : Forest (fun j => w.heap.size ≤ j) W b u kv (nodesOf os)) => nodeFind F hT.good hlen d hd
        unfold FindPost at hfn
        simp only [find_ptr hT] at hfn
        unfold txt at hfn
        have Ho := Lib.hid ho
        rcases hfi : findI os d with _ | o
        · simp only [hfi] at hfn
          have Hfn := Lib.hid hfn
          clear hk ho hr hT hlen hf hfn hfi
          go_enter Tryd.func15, Tryd.ntmps15
          go_wp2_with fail
          refine Ho.out.mono ?_
          rintro e w1 ⟨b, rfl, n1, u, kv, F⟩
          have HF := Lib.hid F
          clear F
          go_wp2_with fail
          refine (Hfn.out b u kv _ HF.out).mono ?_
          rintro e w2 ⟨rfl, n2⟩
          go_wp2_with fail
          go_ret2
          exact list_none (n1.trans n2)
        · have hod : o.dir = false := by rw [hfi] at hf; exact hf
          obtain ⟨hom, rfl⟩ := findI_some hfi
          simp only [hfi] at hfn
          have Hfn := Lib.hid hfn
          have hmn : nodeOf o ∈ nodesOf os := mem_nodes.2 (.inr ⟨o, hom, rfl⟩)
          have Hmn := Lib.hid hmn
          have Hod := Lib.hid hod
          clear hk ho hr hT hlen hf hfn hfi hmn hod hom
          go_enter Tryd.func15, Tryd.ntmps15
          go_wp2_with fail
          refine Ho.out.mono ?_
          rintro e w1 ⟨b, rfl, n1, u, kv, F⟩
          have HF := Lib.hid F
          clear F
          go_wp2_with fail
          refine (Hfn.out b u kv _ HF.out).mono ?_
          rintro e w2 ⟨rfl, n2⟩
          obtain ⟨-, d1, -⟩ := (HF.out.new n2).cells Hmn.out
          rw [show (nodeOf o).key = cutS o.path from rfl, show (nodeOf o).dir = o.dir from rfl, Hod.out] at d1
          go_wp2_with fail
          go_ret2
          exact list_none (n1.trans n2)
      · obtain ⟨o, hfi, hod⟩ : ∃ o, findI os d = some o ∧ o.dir = true := by
          rcases hfi : findI os d with _ | o
          · rw [hfi] at hf; cases hf
          · rw [hfi] at hf; exact ⟨o, rfl, hf⟩
        have hr := list_ok (os := os) (d := d) hk (by rw [hf]; simp)
        rw [show keyD d = cutS d from if_neg hde, show startD d = d ++ [47] from if_neg hde] at hr
        rw [hr]
        have hne : (d == []) = false := by simp [hde]
        have hsum : ¬ (9223372036854775807 < d.length + 1) := by omega
        have hfn := fun (b : Key → Nat) (u kv : Key → Value) (W : World) (F : Forest (fun j => w.heap.size ≤ j) W b u kv (nodesOf os)) => nodeFind F hT.good hlen d hd
        unfold FindPost at hfn
        simp only [find_ptr hT, hfi] at hfn
        unfold txt at hfn
        have Ho := Lib.hid ho
        have Hfn := Lib.hid hfn
        obtain ⟨hom, rfl⟩ := findI_some hfi
        have hmn : nodeOf o ∈ nodesOf os := mem_nodes.2 (.inr ⟨o, hom, rfl⟩)
        have HG := Lib.hid hT.good
        have Hmn := Lib.hid hmn
        have Hod := Lib.hid hod
        have Hlen := Lib.hid (Nat.le_trans (kids_le (nodesOf os) (cutS o.path)) hlen)
        clear hk ho hr hT hlen hf hfn hfi hmn hod hom
        go_enter Tryd.func15, Tryd.ntmps15
        go_wp2_with fail
        refine Ho.out.mono ?_
        rintro e w0 ⟨b, rfl, n0, u, kv, F0⟩
        have HF := Lib.hid F0
        clear F0
        go_wp2_with fail
        refine (Hfn.out b u kv _ HF.out).mono ?_
        rintro e w1 ⟨rfl, n01⟩
        have n1 := n0.trans n01
        have F := HF.out.new n01
        obtain ⟨-, d1, -, d3, -, -⟩ := F.cells Hmn.out
        obtain ⟨ak, ck, hkv, s1, s2, -⟩ := (F.row _ Hmn.out).shape
        have hkid := fun (W : World) (n : New w1 W) => (F.new n).kid Hmn.out hkv
        rw [hkv] at d3
        rw [show (nodeOf o).key = cutS o.path from rfl] at d1 d3 hkid s1
        rw [show (nodeOf o).dir = o.dir from rfl, Hod.out] at d1
        have Hkid := Lib.hid hkid
        unfold maxLen at s2
        clear F hkid hkv
        have hwrd : ∀ q ∈ kidsOf (nodesOf os) (cutS o.path), (nameOf q).length ≤ 5 := fun q hq => by
          obtain ⟨x, hx, rfl, -⟩ := mem_kids.1 hq
          exact HG.out.word x hx
        have Hwrd := Lib.hid hwrd
        clear hwrd
        generalize hks : kidsOf (nodesOf os) (cutS o.path) = ks at *
        have Hks := Lib.hid hks
        clear hks
        have hst : (⟨o.path.toArray⟩ : ByteArray) ++ ⟨#[47]⟩ = ⟨(o.path ++ [47]).toArray⟩ := by
          apply ByteArray.ext
          simp
        go_wp2_with fail
        clear hst
        go_loopg [10, 42] ks.length (fun gk s10 i wr => ∃ (k : Nat), gk = ks.length - k ∧ k ≤ ks.length ∧ i = .int .i64 k ∧ New w1 wr ∧ Row 9 1 (fun j => w1.heap.size ≤ j) wr s10 ((ks.take k).map fun q => (o.path ++ [47]) ++ nameOf q).length (((ks.take k).map fun q => (o.path ++ [47]) ++ nameOf q).map txt))
        case atStart => exact ⟨0, by omega, by omega, rfl, New.refl _, Row.nil _ _ _ _⟩
        case round =>
          obtain ⟨k, hgk, hk, rfl, hn, hrow⟩ := hrel
          have Hgk := Lib.hid hgk
          clear hgk
          by_cases hlt : k < ks.length
          · obtain ⟨q, hq⟩ := get_of hlt
            obtain ⟨g, rfl, k1, k2⟩ := Hkid.out wr hn k q hq
            have hwq := Hwrd.out q (List.mem_of_getElem? hq)
            have htk : (ks.take (k + 1)).map (fun q => (o.path ++ [47]) ++ nameOf q) = (ks.take k).map (fun q => (o.path ++ [47]) ++ nameOf q) ++ [(o.path ++ [47]) ++ nameOf q] := by
              obtain ⟨hk', e⟩ := List.getElem?_eq_some_iff.1 hq
              rw [List.take_succ_eq_append_getElem hk', e, List.map_append]; rfl
            have Htk := Lib.hid htk
            have hdn : ((ks.take k).map (fun q => (o.path ++ [47]) ++ nameOf q)).length ≤ 1000 := by
              have := Hlen.out
              try rw [Hks.out] at this
              rw [List.length_map, List.length_take]; omega
            unfold txt at k2
            generalize hdd : (ks.take k).map (fun q => (o.path ++ [47]) ++ nameOf q) = done at *
            generalize hnn : nameOf q = nn at *
            have hcat : (⟨((o.path ++ [47])).toArray⟩ : ByteArray) ++ ⟨nn.toArray⟩ = ⟨((o.path ++ [47]) ++ nn).toArray⟩ := by
              apply ByteArray.ext
              simp
            have Hcat := Lib.hid hcat
            have hsum : ¬ (9223372036854775807 < ((o.path ++ [47])).length + nn.length) := by
              first | (simp; omega) | omega
            clear hcat
            have hrow2 := hrow
            obtain ⟨at3, cs, rfl, -⟩ := hrow.shape
            have hos := hrow.2
            have Hos := Lib.hid hos
            have z3 := hn.size
            clear hq hdd htk hos hrow hnn
            go_wp2_with (at_builtin; refine wpRow_append1 slStr _ _ rfl rfl _ done.length (done.map txt) _ _ rfl hrow2 rfl rfl (by omega) (by decide) ?_; intro v' w5 q1 c5)
            have q2 : Row 9 1 (fun j => w1.heap.size ≤ j) w5 v' (done.length + 1) (done.map txt ++ [txt ((o.path ++ [47]) ++ nn)]) := by
              have q1' : Row 9 1 _ w5 v' (done.length + 1) (done.map txt ++ [.string ((⟨((o.path ++ [47])).toArray⟩ : ByteArray) ++ ⟨nn.toArray⟩)]) := q1
              rw [Hcat.out] at q1'
              exact q1'.mono (fun j _ hj => by
                rcases hj with hj | hj
                · exact Hos.out j hj
                · omega)
            have n5 : New w1 w5 := hn.trans_chg c5 (fun j hj e => by have := Hos.out j e; omega)
            clear q1 c5 hrow2
            go_roundg (ks.length - (k + 1))
            case measure => rw [Hgk.out]; omega
            case rel =>
              refine ⟨k + 1, rfl, by omega, by go_num, n5, ?_⟩
              rw [Htk.out]
              simp only [List.length_append, List.length_singleton, List.map_append, List.map_cons, List.map_nil]
              exact q2
          · have ek : ks.take k = ks := List.take_of_length_le (by omega)
            rw [ek] at hrow
            have Hrow := Lib.hid hrow
            obtain ⟨at3, cs, rfl, -⟩ := hrow.shape
            clear ek hrow
            go_wp2_with fail
            go_ret2
            refine ⟨_, rfl, (OwnStrs.of_row (by simp only [Option.getD_some, Hks.out]; exact Hrow.out) (fun x hx => ?_)).mono (fun j _ hj => by have := n1.size; omega), n1.trans hn⟩
            simp only [Option.getD_some, Hks.out, List.mem_map] at hx
            obtain ⟨q, hq, rfl⟩ := hx
            have := Hwrd.out q hq
            unfold maxLen
            simp
            omega
end Go.Proofs.YtnpblnkjdebedaaDoor
