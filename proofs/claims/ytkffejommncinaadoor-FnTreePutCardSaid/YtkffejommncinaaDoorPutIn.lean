/- put: an item into a tree, or in place of a file. -/
import Derived.Test.YtkffejommncinaaDoorInsertAny
import Derived.Test.YtkffejommncinaaDoorListAll
import Derived.Test.YtkffejommncinaaDoorOpenTree
import Derived.Test.YtkffejommncinaaDoorTreeFind
namespace Go.Proofs.YtkffejommncinaaDoor
open Go.RowKit

theorem nodes_put_old {os : List ItemR} {x z : ItemR} (h : Asc os) (he : z.path = x.path) (y : Nd) : y ∈ nodesOf (putS x os) ↔ y = nodeOf x ∨ (y ∈ nodesOf os ∧ y.key ≠ (nodeOf z).key) := by
  rw [mem_nodes, mem_nodes]
  constructor
  · rintro (rfl | ⟨o, ho, rfl⟩)
    · exact .inr ⟨.inl rfl, fun e => cutS_ne z.path e.symm⟩
    · rcases (mem_put h o).1 ho with rfl | ⟨ho, hn⟩
      · exact .inl rfl
      · exact .inr ⟨.inr ⟨o, ho, rfl⟩, fun e => hn ((cutS_inj e).trans he)⟩
  · rintro (rfl | ⟨rfl | ⟨o, ho, rfl⟩, hk⟩)
    · exact .inr ⟨x, (mem_put h x).2 (.inl rfl), rfl⟩
    · exact .inl rfl
    · exact .inr ⟨o, (mem_put h o).2 (.inr ⟨ho, fun e => hk (by show cutS o.path = cutS z.path; rw [e, he])⟩), rfl⟩
theorem kids_put_old {os : List ItemR} {x z : ItemR} (h : TreeP os) (h' : TreeP (putS x os)) (hz : z ∈ os) (he : z.path = x.path) (k : Key) : kidsOf (nodesOf (putS x os)) k = kidsOf (nodesOf os) k := by
  refine kids_one (h'.good.asc k) (h.good.asc k) fun q => ?_
  have hkey : (nodeOf x).key = (nodeOf z).key := by show cutS x.path = cutS z.path; rw [he]
  rw [mem_kids, mem_kids]
  constructor
  · rintro ⟨y, h1, h2, h3, h4⟩
    rcases (nodes_put_old h.asc he y).1 h1 with rfl | ⟨h1, _⟩
    · exact ⟨nodeOf z, mem_nodes.2 (.inr ⟨z, hz, rfl⟩), hkey.symm.trans h2, h3, h4⟩
    · exact ⟨y, h1, h2, h3, h4⟩
  · rintro ⟨y, h1, h2, h3, h4⟩
    by_cases e : y.key = (nodeOf z).key
    · exact ⟨nodeOf x, (nodes_put_old h.asc he _).2 (.inl rfl), hkey.trans (e.symm.trans h2), h3, h4⟩
    · exact ⟨y, (nodes_put_old h.asc he _).2 (.inr ⟨h1, e⟩), h2, h3, h4⟩
/-- a node has other numbers -/
theorem Forest.reids {S : Nat → Prop} {w w' : World} {b : Key → Nat} {u kv : Key → Value} {ns ns' : List Nd} (F : Forest S w b u kv ns) {y y' : Nd} (hy : y ∈ ns) (hkey : y'.key = y.key) (hdir : y'.dir = y.dir) (hm : ∀ x, x ∈ ns' ↔ x = y' ∨ (x ∈ ns ∧ x.key ≠ y.key))
    (hk : ∀ k, kidsOf ns' k = kidsOf ns k) {uy : Value} (g : Chg (fun j => j = b y.key) w w') (hc : w'.heap[b y.key]? = some (.cells #[txt (nameOf y.key), .bool y.dir, uy, kv y.key] 69))
    (hids : OwnI (fun j => w.heap.size ≤ j) w' uy y'.ids) :
    Forest (fun j => S j ∨ w.heap.size ≤ j) w' b (fun k => if k = y.key then uy else u k) kv ns' := by
  have old : ∀ x ∈ ns', ∃ z ∈ ns, z.key = x.key ∧ z.dir = x.dir := fun x hx => by
    rcases (hm x).1 hx with rfl | ⟨h, _⟩
    · exact ⟨y, hy, hkey.symm, hdir.symm⟩
    · exact ⟨x, h, rfl, rfl⟩
  refine ⟨?_, ?_, ?_, ?_, ?_, ?_, ?_⟩
  · intro x hx
    rcases (hm x).1 hx with rfl | ⟨h, hne⟩
    · simp only [hkey, if_true, hdir]; exact hc
    · simp only [if_neg hne]
      exact g.heap (F.cell x h) (fun e => hne (F.inj x h y hy e))
  · intro x hx
    obtain ⟨z, hz, e, -⟩ := old x hx
    rw [← e, hk z.key]
    exact (((F.row z hz).own).chg g (fun j _ hj hT => F.ap1 z hz y hy (by rw [← hT]; exact hj.1))).mono (fun j _ hj => .inl hj.2.1)
  · intro x hx
    rcases (hm x).1 hx with rfl | ⟨h, hne⟩
    · simp only [hkey, if_true]
      refine hids.mono (fun j _ hj => ⟨.inr hj, fun z hz => ?_⟩)
      obtain ⟨z', hz', e, -⟩ := old z hz
      rw [← e]
      refine ⟨fun e2 => ?_, fun e2 => ?_⟩
      · have := F.lt hz'; omega
      · have := (F.row z' hz').lt j e2; omega
    · simp only [if_neg hne]
      have h2 := (F.ids x h).chg g (fun j _ hj hT => (hj.2 y hy).1 hT)
      refine h2.mono (fun j _ hj => ⟨.inl hj.1, fun z hz => ?_⟩)
      obtain ⟨z', hz', e, -⟩ := old z hz
      rw [← e]; exact hj.2 z' hz'
  · intro x hx
    obtain ⟨z, hz, e, -⟩ := old x hx
    rw [← e]; exact .inl (F.inS z hz)
  · intro x hx z hz e
    obtain ⟨x', hx', e1, -⟩ := old x hx
    obtain ⟨z', hz', e2, -⟩ := old z hz
    rw [← e1, ← e2] at e ⊢
    exact F.inj x' hx' z' hz' e
  · intro x hx z hz
    obtain ⟨x', hx', e1, -⟩ := old x hx
    obtain ⟨z', hz', e2, -⟩ := old z hz
    rw [← e1, ← e2]
    exact F.ap1 x' hx' z' hz'
  · intro x hx z hz
    obtain ⟨x', hx', e1, -⟩ := old x hx
    obtain ⟨z', hz', e2, -⟩ := old z hz
    rw [← e1, ← e2]
    exact F.ap2 x' hx' z' hz'

def putOk (os : List ItemR) (x : ItemR) : Bool := match findI os x.path with | none => decide (os.length < 12) && homeS os x.path | some o => !o.dir && !x.dir
def PutPost (S : Nat → Prop) (b : Key → Nat) (os : List ItemR) (x : ItemR) (w : World) (e : Ending) (w' : World) : Prop :=
  if putOk os x = true then e = .returned (.bool true) ∧ Chg S w w' ∧ ∃ b', b' [] = b [] ∧ ∃ u' kv', Forest (fun j => S j ∨ w.heap.size ≤ j) w' b' u' kv' (nodesOf (putS x os))
  else e = .returned (.bool false) ∧ New w w'

set_option maxRecDepth 4000 in
set_option maxHeartbeats 2000000 in
theorem nodePut {S R : Nat → Prop} {w : World} {b : Key → Nat} {u kv : Key → Value} {os : List ItemR} (F : Forest S w b u kv (nodesOf os)) (h : TreeP os) (hl : os.length ≤ 12) (x : ItemR) (v : Value) (hv : Ints R w v x.ids) (hx : itemOk x = true)
    (hs : x.path.length ≤ 1048576) :
    Calls Tryd.prog 52 #[.pointer (some ⟨b [], 0, none⟩), .agg #[txt x.path, .bool x.dir, v]] w (PutPost S b os x w) := by
  have hlen : (nodesOf os).length ≤ 1000 := by simp [nodesOf]; omega
  have hxi : x.ids.length ≤ 1048576 := by
    simp only [itemOk, Bool.and_eq_true, decide_eq_true_eq] at hx
    have := hx.1.1.2
    omega
  have hroot : hasKey (nodesOf os) [] = true := by
    obtain ⟨y, hy, e, -⟩ := h.good.root
    exact hasKey_iff.2 ⟨y, hy, e⟩
  have hfi := fun (W : World) (n : New w W) => nodeFind (F.new n) h.good hlen x.path hs
  have hclo := fun (W : World) (n : New w W) => slClone v x.ids W (hv.new n) hxi
  unfold FindPost at hfi
  simp only [find_ptr h] at hfi
  unfold PutPost
  have hnb := (New.refl w).alloc (.cells #[txt x.path, .bool x.dir, v] 28)
  have hpb := heap_alloc_new w (.cells #[txt x.path, .bool x.dir, v] 28)
  rcases hf : findI os x.path with _ | o
  · have hpo : putOk os x = (decide (os.length < 12) && homeS os x.path) := by unfold putOk; rw [hf]
    rw [hpo]
    have hno := find_none.1 hf
    have hco := fun (W : World) (n : New w W) => nodeCount 5 W (F.new n) [] hroot (fun y hy => by have := h.depth y hy; simp; omega) (by rw [cnt_all h]; omega)
    rw [cnt_all h] at hco
    unfold CntPost at hco
    have hin := fun (W : World) (n : New w W) => nodeInsertAny (F.new n) h hlen x v (hv.new n) hxi hs hno (fun hd => h.put_new hx hno (by rw [home_has hx] at hd; exact hd))
    unfold InsAnyPost at hin
    rw [home_has hx] at hin
    rw [hf] at hfi
    simp only [Option.isSome_none, Bool.false_eq_true, if_false] at hfi
    unfold txt at hfi hin hnb hpb ⊢
    obtain ⟨a, c, rfl, -⟩ := hv
    have Hfi := Lib.hid hfi
    have Hco := Lib.hid hco
    have Pb := Lib.hid hpb
    have Nb := Lib.hid hnb
    by_cases h12 : os.length < 12
    · have hd : decide (os.length < 12) = true := by simp [h12]
      rw [hd, Bool.true_and]
      rcases hh : homeS os x.path with _ | _
      · rw [hh] at hin
        have Hin := Lib.hid hin
        clear hfi hf hpo hno hco hin hpb hnb hroot hd F h hh hclo
        go_enter Tryd.func52, Tryd.ntmps52
        obtain ⟨b0, b1, b2, -, -, -⟩ := set3_cells Pb.out
        go_wp2_with fail
        refine (Hfi.out _ Nb.out).mono ?_
        rintro e w1 ⟨rfl, n1⟩
        have nn := Nb.out.trans n1
        have c0 := n1.cell b0
        have c1 := n1.cell b1
        have c2 := n1.cell b2
        go_wp2_with fail
        refine (Hco.out _ nn).mono ?_
        rintro e w2 ⟨rfl, n2⟩
        replace nn := nn.trans n2
        have d0 := n2.cell c0
        have d1 := n2.cell c1
        have d2 := n2.cell c2
        go_wp2_with fail
        refine (Hin.out _ nn).mono ?_
        rintro e w3 ⟨rfl, n3⟩
        go_wp2_with fail
        go_ret
        exact ⟨rfl, nn.trans n3⟩
      · rw [hh] at hin
        have Hin := Lib.hid hin
        suffices hsuf : Calls Tryd.prog 52 #[.pointer (some ⟨b [], 0, none⟩), .agg #[.string ⟨x.path.toArray⟩, .bool x.dir, .slice a x.ids.length c]] w (fun e w' => e = .returned (.bool true) ∧ Chg S w w' ∧ ∃ b', b' [] = b [] ∧ ∃ u' kv', Forest (fun j => S j ∨ w.heap.size ≤ j) w' b' u' kv' (nodesOf (putS x os))) from
          hsuf.mono (fun e w' h => by rw [if_pos rfl]; exact h)
        clear hfi hf hpo hno hco hin hpb hnb hroot hd F h hh hclo
        go_enter Tryd.func52, Tryd.ntmps52
        obtain ⟨b0, b1, b2, -, -, -⟩ := set3_cells Pb.out
        go_wp2_with fail
        refine (Hfi.out _ Nb.out).mono ?_
        rintro e w1 ⟨rfl, n1⟩
        have nn := Nb.out.trans n1
        have c0 := n1.cell b0
        have c1 := n1.cell b1
        have c2 := n1.cell b2
        go_wp2_with fail
        refine (Hco.out _ nn).mono ?_
        rintro e w2 ⟨rfl, n2⟩
        replace nn := nn.trans n2
        have d0 := n2.cell c0
        have d1 := n2.cell c1
        have d2 := n2.cell c2
        go_wp2_with fail
        refine (Hin.out _ nn).mono ?_
        rintro e w3 ⟨rfl, c3, b', hb', u', kv', F3⟩
        have F3 := Lib.hid F3
        have Hb' := Lib.hid hb'
        have zz := nn.size
        clear hb'
        go_wp2_with fail
        go_ret
        exact ⟨rfl, (nn.chg S).trans c3, b', Hb'.out, u', kv', F3.out.mono (fun j _ hj => hj.imp id (fun h => by omega))⟩
    · have hd : decide (os.length < 12) = false := by simp [h12]
      rw [hd, Bool.false_and]
      clear hfi hf hpo hno hco hin hpb hnb hroot hd F h hclo
      go_enter Tryd.func52, Tryd.ntmps52
      obtain ⟨b0, b1, b2, -, -, -⟩ := set3_cells Pb.out
      go_wp2_with fail
      refine (Hfi.out _ Nb.out).mono ?_
      rintro e w1 ⟨rfl, n1⟩
      have nn := Nb.out.trans n1
      go_wp2_with fail
      refine (Hco.out _ nn).mono ?_
      rintro e w2 ⟨rfl, n2⟩
      go_wp2_with fail
      go_ret
      exact ⟨rfl, nn.trans n2⟩
  · have hpo : putOk os x = (!o.dir && !x.dir) := by unfold putOk; rw [hf]
    rw [hpo]
    obtain ⟨hom, hop⟩ := findI_some hf
    have hmn : nodeOf o ∈ nodesOf os := mem_nodes.2 (.inr ⟨o, hom, rfl⟩)
    have hkx : cutS x.path = (nodeOf o).key := by show _ = cutS o.path; rw [hop]
    rw [hf] at hfi
    simp only [Option.isSome_some, if_true, hkx] at hfi
    have hcs := fun (W : World) (n : New w W) => (F.new n).cells hmn
    have hcell := fun (W : World) (n : New w W) => (F.new n).cell _ hmn
    unfold txt at hfi hnb hpb ⊢
    obtain ⟨a, c, rfl, -⟩ := hv
    have Hfi := Lib.hid hfi
    have Pb := Lib.hid hpb
    have Nb := Lib.hid hnb
    have Hcs := Lib.hid hcs
    have Hcell := Lib.hid hcell
    have Hcl := Lib.hid hclo
    have HF := Lib.hid F
    have HT := Lib.hid h
    have Hmn := Lib.hid hmn
    have Hom := Lib.hid hom
    have Hop := Lib.hid hop
    have Hdir := Lib.hid (show (nodeOf o).dir = o.dir from rfl)
    generalize hbk : b (nodeOf o).key = bk at *
    have Hbk := Lib.hid hbk
    rcases hod : o.dir with _ | _
    · have Hod := Lib.hid hod
      rcases hxd : x.dir with _ | _
      · have Hxd := Lib.hid hxd
        rw [hxd] at Pb Nb
        suffices hsuf : Calls Tryd.prog 52 #[.pointer (some ⟨b [], 0, none⟩), .agg #[.string ⟨x.path.toArray⟩, .bool false, .slice a x.ids.length c]] w (fun e w' => e = .returned (.bool true) ∧ Chg S w w' ∧ ∃ b', b' [] = b [] ∧ ∃ u' kv', Forest (fun j => S j ∨ w.heap.size ≤ j) w' b' u' kv' (nodesOf (putS x os))) from
          hsuf.mono (fun e w' h => by rw [if_pos (by rfl)]; exact h)
        clear hfi hf hpo hpb hnb hroot F h hclo hcs hcell hmn hom hop hkx hod hxd hbk
        go_enter Tryd.func52, Tryd.ntmps52
        obtain ⟨b0, b1, b2, -, -, -⟩ := set3_cells Pb.out
        go_wp2_with fail
        refine (Hfi.out _ Nb.out).mono ?_
        rintro e w1 ⟨rfl, n1⟩
        have nn := Nb.out.trans n1
        have c1 := n1.cell b1
        have c2 := n1.cell b2
        obtain ⟨-, k1, -, -, f2, -⟩ := Hcs.out _ nn
        rw [Hdir.out, Hod.out] at k1
        go_wp2_with fail
        refine (Hcl.out _ nn).mono ?_
        rintro e w2 ⟨v2, rfl, n2, o2⟩
        obtain ⟨a2, d2, rfl, -⟩ := o2.shape
        have nn2 := nn.trans n2
        obtain ⟨-, k1', k2', -, f2', -⟩ := Hcs.out _ nn2
        go_wp2_with fail
        go_ret
        have hc2 := Hcell.out _ nn2
        have cs := chg_set1 w2 bk 2 (.slice a2 x.ids.length d2)
        have g : Chg (fun j => j = b (nodeOf o).key) w (w2.setCell ⟨bk, 2, none⟩ (.slice a2 x.ids.length d2)) := (nn2.chg _).step cs (fun j _ e => by rw [Hbk.out]; exact e)
        have hlt := HF.out.lt Hmn.out
        have hT' : TreeP (putS x os) := HT.out.put_old hx Hom.out Hop.out Hod.out
        have fin := HF.out.reids (ns' := nodesOf (putS x os)) Hmn.out (y' := nodeOf x) (show cutS x.path = cutS o.path by rw [Hop.out]) (show x.dir = o.dir by rw [Hxd.out, Hod.out]) (fun y => nodes_put_old HT.out.asc Hop.out y) (fun k => kids_put_old HT.out hT' Hom.out Hop.out k)
          (uy := .slice a2 x.ids.length d2) g (by rw [Hbk.out]; simp [World.setCell, Array.getElem?_modify, hc2]) (((OwnI.of o2).chg cs (fun j _ hj e => by rw [Hbk.out] at hlt; have := nn.size; omega)).mono (fun j _ hj => by have := nn.size; omega))
        exact ⟨rfl, g.mono (fun j _ e => by rw [e]; exact HF.out.inS _ Hmn.out), b, rfl, _, _, fin⟩
      · have Hxd := Lib.hid hxd
        rw [hxd] at Pb Nb
        clear hfi hf hpo hpb hnb hroot F h hclo hcs hcell hmn hom hop hkx hod hxd hbk
        go_enter Tryd.func52, Tryd.ntmps52
        obtain ⟨b0, b1, b2, -, -, -⟩ := set3_cells Pb.out
        go_wp2_with fail
        refine (Hfi.out _ Nb.out).mono ?_
        rintro e w1 ⟨rfl, n1⟩
        have nn := Nb.out.trans n1
        have c1 := n1.cell b1
        obtain ⟨-, k1, -, -, f2, -⟩ := Hcs.out _ nn
        rw [Hdir.out, Hod.out] at k1
        go_wp2_with fail
        go_ret
        exact ⟨rfl, nn⟩
    · have Hod := Lib.hid hod
      clear hfi hf hpo hpb hnb hroot F h hclo hcs hcell hmn hom hop hkx hod hbk
      go_enter Tryd.func52, Tryd.ntmps52
      obtain ⟨b0, b1, b2, -, -, -⟩ := set3_cells Pb.out
      go_wp2_with fail
      refine (Hfi.out _ Nb.out).mono ?_
      rintro e w1 ⟨rfl, n1⟩
      have nn := Nb.out.trans n1
      obtain ⟨-, k1, -, -, f2, -⟩ := Hcs.out _ nn
      rw [Hdir.out, Hod.out] at k1
      go_wp2_with fail
      go_ret
      exact ⟨rfl, nn⟩
end Go.Proofs.YtkffejommncinaaDoor
