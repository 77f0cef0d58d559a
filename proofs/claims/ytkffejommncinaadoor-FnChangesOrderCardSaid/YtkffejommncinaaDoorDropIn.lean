/- drop: a node is taken out of its directory. -/
import Derived.Test.YtkffejommncinaaDoorDelete
import Derived.Test.YtkffejommncinaaDoorListAll
import Derived.Test.YtkffejommncinaaDoorListDir
namespace Go.Proofs.YtkffejommncinaaDoor
open Go.RowKit

theorem Forest.remove {S : Nat → Prop} {w w' : World} {b : Key → Nat} {u kv : Key → Value} {ns ns' : List Nd} (F : Forest S w b u kv ns) {pd : Nd} (hp : pd ∈ ns) {K : Key} (hm : ∀ x, x ∈ ns' ↔ x ∈ ns ∧ x.key ≠ K)
    (hk : ∀ x ∈ ns', x.key ≠ pd.key → kidsOf ns' x.key = kidsOf ns x.key)
    {v' : Value} (g : Chg (fun j => j = b pd.key ∨ (kv pd.key).ownBlock = some j) w w')
    (hcp : w'.heap[b pd.key]? = some (.cells #[txt (nameOf pd.key), .bool pd.dir, u pd.key, v'] 69))
    (hrow : Row 63 1 (fun j => (kv pd.key).ownBlock = some j) w' v' (kidsOf ns' pd.key).length ((kidsOf ns' pd.key).map fun k => .pointer (some ⟨b k, 0, none⟩)))
    (hu : ∀ x ∈ ns, x.key = pd.key → x = pd) :
    Forest S w' b u (fun k => if k = pd.key then v' else kv k) ns' := by
  have old : ∀ x ∈ ns', x ∈ ns := fun x hx => ((hm x).1 hx).1
  have hv' : ∀ j, v'.ownBlock = some j → (kv pd.key).ownBlock = some j := fun j hj => hrow.2 j hj
  have rowS : ∀ x ∈ ns, ∀ j, (if x.key = pd.key then v' else kv x.key).ownBlock = some j → (kv x.key).ownBlock = some j := by
    intro x hx j hj
    by_cases e : x.key = pd.key
    · rw [if_pos e] at hj
      rw [e]; exact hv' j hj
    · rw [if_neg e] at hj; exact hj
  refine ⟨?_, ?_, ?_, ?_, ?_, ?_, ?_⟩
  · intro x hx'
    have hx := old x hx'
    by_cases e : x.key = pd.key
    · obtain rfl := hu x hx e
      simp only [if_true]; exact hcp
    · simp only [if_neg e]
      refine g.heap (F.cell x hx) (fun h => ?_)
      rcases h with h | h
      · exact e (F.inj x hx pd hp h)
      · exact F.ap1 pd hp x hx h
  · intro x hx'
    have hx := old x hx'
    by_cases e : x.key = pd.key
    · obtain rfl := hu x hx e
      simp only [if_true]
      exact hrow.mono (fun j _ hj => (F.row x hp).2 j hj)
    · simp only [if_neg e]
      rw [hk x hx' e]
      have hr := ((F.row x hx).own).chg g (fun j _ hj hT => by
        rcases hT with hT | hT
        · exact F.ap1 x hx pd hp (by rw [← hT]; exact hj.1)
        · exact e (F.ap2 x hx pd hp j hj.1 hT))
      exact hr.mono (fun j _ hj => hj.2.1)
  · intro x hx'
    have hx := old x hx'
    have h2 := (F.ids x hx).chg g (fun j _ hj hT => by
      rcases hT with hT | hT
      · exact (hj.2 pd hp).1 hT
      · exact (hj.2 pd hp).2 hT)
    exact h2.mono (fun j _ hj => ⟨hj.1, fun z hz' => ⟨(hj.2 z (old z hz')).1, fun h => (hj.2 z (old z hz')).2 (rowS z (old z hz') j h)⟩⟩)
  · exact fun x hx' => F.inS x (old x hx')
  · exact fun x hx' z hz' e => F.inj x (old x hx') z (old z hz') e
  · exact fun x hx' z hz' h => F.ap1 x (old x hx') z (old z hz') (rowS x (old x hx') _ h)
  · exact fun x hx' z hz' j h1 h2 => F.ap2 x (old x hx') z (old z hz') j (rowS x (old x hx') j h1) (rowS z (old z hz') j h2)

def DropPost (S : Nat → Prop) (b : Key → Nat) (u : Key → Value) (os : List ItemR) (p : List UInt8) (w : World) (e : Ending) (w' : World) : Prop :=
  if ((findI os p).isSome && noKids p os) = true then e = .returned (.bool true) ∧ Chg S w w' ∧ ∃ kv', Forest S w' b u kv' (nodesOf (dropS p os)) else e = .returned (.bool false) ∧ New w w'
theorem kids_none {os : List ItemR} (h : TreeP os) {p : List UInt8} (hp : p ≠ []) : decide ((kidsOf (nodesOf os) (cutS p)).length = 0) = noKids p os := by
  rw [kids_nodes, List.length_map, Bool.eq_iff_iff, decide_eq_true_eq, noKids_iff, List.length_eq_zero_iff, List.filter_eq_nil_iff]
  have e : keyD p = cutS p := if_neg hp
  constructor
  · intro hf o ho he
    have := hf o ho
    rw [← e, kid_dir h ho p] at this
    exact this (by simpa using he)
  · intro hf o ho
    rw [← e, kid_dir h ho p]
    simpa using hf o ho
/-- the tree behind a drop -/
theorem drop_fin {S : Nat → Prop} {p : List UInt8} {w w2 : World} {b : Key → Nat} {u kv : Key → Value} {os : List ItemR} (F : Forest S w b u kv (nodesOf os)) (h : TreeP os) (h' : TreeP (dropS p os)) {pd : Nd} (hpd : pd ∈ nodesOf os) (hpk : pd.key = (cutS p).dropLast)
    {g n c i : Nat} (hkv : kv pd.key = .slice (some ⟨g, 0, none⟩) n c) (hi : (kidsOf (nodesOf os) pd.key)[i]? = some (cutS p)) {vs : List Value} (hvs : vs = (kidsOf (nodesOf os) pd.key).map fun k => .pointer (some ⟨b k, 0, none⟩)) (hn : n = (kidsOf (nodesOf os) pd.key).length)
    (r : Row 63 1 (fun k => k = g) w2 (.slice (some ⟨g, 0, none⟩) (n - 1) c) (n - 1) (vs.take i ++ vs.drop (i + 1))) (ch : Chg (fun k => k = g) w w2) {bd : Nat} (hbd : b pd.key = bd) :
    Chg S w (w2.setCell ⟨bd, 3, none⟩ (.slice (some ⟨g, 0, none⟩) (n - 1) c)) ∧ ∃ kv', Forest S (w2.setCell ⟨bd, 3, none⟩ (.slice (some ⟨g, 0, none⟩) (n - 1) c)) b u kv' (nodesOf (dropS p os)) := by
  subst hbd
  have hg : (kv pd.key).ownBlock = some g := by rw [hkv]; rfl
  have hap : g ≠ b pd.key := fun e => F.ap1 pd hpd pd hpd (by rw [hg, e])
  have s7 : Chg (fun j => j = b pd.key) w2 (w2.setCell ⟨b pd.key, 3, none⟩ (.slice (some ⟨g, 0, none⟩) (n - 1) c)) := chg_set1 w2 (b pd.key) 3 _
  have g7 : Chg (fun j => j = b pd.key ∨ (kv pd.key).ownBlock = some j) w (w2.setCell ⟨b pd.key, 3, none⟩ (.slice (some ⟨g, 0, none⟩) (n - 1) c)) := (ch.mono (fun j _ hj => .inr (by rw [hg, hj]))).step s7 (fun j _ hj => .inl hj)
  have hc2 : w2.heap[b pd.key]? = some (.cells #[txt (nameOf pd.key), .bool pd.dir, u pd.key, kv pd.key] 69) := ch.heap (F.cell pd hpd) (fun e => hap e.symm)
  have hks : kidsOf (nodesOf (dropS p os)) pd.key = (kidsOf (nodesOf os) pd.key).take i ++ (kidsOf (nodesOf os) pd.key).drop (i + 1) := kids_drop_here h h' hi
  have hlt := (List.getElem?_eq_some_iff.1 hi).1
  refine ⟨g7.mono (fun j _ hj => ?_), _, F.remove (v' := .slice (some ⟨g, 0, none⟩) (n - 1) c) hpd (fun x => nodes_drop x) (fun x _ hne => kids_drop_other h h' (fun e => hne (e.symm.trans hpk.symm))) g7 ?_ ?_ (fun x hx e => h.good.uniq x hx pd hpd e)⟩
  · rcases hj with rfl | hj
    · exact F.inS pd hpd
    · exact (F.row pd hpd).2 j hj
  · simp [World.setCell, Array.getElem?_modify, hc2]
  · rw [hks, List.map_append, List.map_take, List.map_drop, ← hvs]
    have hl : ((kidsOf (nodesOf os) pd.key).take i ++ (kidsOf (nodesOf os) pd.key).drop (i + 1)).length = n - 1 := by
      rw [List.length_append, List.length_take, List.length_drop, ← hn]; omega
    rw [hl]
    exact (r.chg s7 (fun j _ hj e => hap (hj.symm.trans e))).mono (fun j _ hj => by rw [hg, hj])

set_option maxRecDepth 4000 in
set_option maxHeartbeats 2000000 in
theorem nodeDrop {S : Nat → Prop} {w : World} {b : Key → Nat} {u kv : Key → Value} {os : List ItemR} (F : Forest S w b u kv (nodesOf os)) (h : TreeP os) (hl : os.length ≤ 12) (p : List UInt8) (hp : p.length ≤ 1048576) :
    Calls Tryd.prog 47 #[.pointer (some ⟨b [], 0, none⟩), txt p] w (DropPost S b u os p w) := by
  have hlen : (nodesOf os).length ≤ 1000 := by simp [nodesOf]; omega
  have hdo := nodeDirOf F h.good hlen p hp
  unfold DirPost at hdo
  unfold DropPost
  unfold txt at hdo ⊢
  have hdirs : (findI os p).isSome = true → hasDir (nodesOf os) p = true := fun hs => by
    rcases hf : findI os p with _ | o
    · rw [hf] at hs; cases hs
    · obtain ⟨ho, rfl⟩ := findI_some hf
      have hk : hasKey (nodesOf os) (cutS o.path) = true := has_path.2 ⟨o, ho, rfl⟩
      unfold hasDir
      rw [h.path ho, h.good.dirs (cutS_ne _) hk]; rfl
  rcases hd : hasDir (nodesOf os) p with _ | _
  · have hf : (findI os p).isSome = false := by
      rcases hf : (findI os p).isSome with _ | _
      · rfl
      · rw [hdirs hf] at hd; cases hd
    rw [hf, Bool.false_and]
    rw [hd] at hdo
    have Hdo := Lib.hid hdo
    clear hd hf hdirs hdo F h
    go_enter Tryd.func47, Tryd.ntmps47
    go_wp2_with fail
    refine Hdo.out.mono ?_
    rintro e w1 ⟨rfl, n1⟩
    go_wp2_with fail
    go_ret
    exact ⟨rfl, n1⟩
  · rw [hd] at hdo
    have Hdo := Lib.hid hdo
    have hd2 : pathOk p = true ∧ dirAt (nodesOf os) (cutS p).dropLast = true := by
      unfold hasDir at hd; rw [Bool.and_eq_true] at hd; exact hd
    obtain ⟨pd, hpd, hpk, -⟩ := dirAt_has hd2.2
    have hne := pathOk_ne hd2.1
    have hsplit := key_split (cutS_ne p)
    have hpl := fun (W : World) (n : New w W) => nodePlace (F.new n) h.good hlen hpd (nameOf (cutS p))
    have hcs := fun (W : World) (n : New w W) => (F.new n).cells hpd
    rw [hpk] at hpl
    have Hpl := Lib.hid hpl
    have HF := Lib.hid F
    have HP := Lib.hid h
    have Hpk := Lib.hid hpk
    rcases hhk : hasKey (nodesOf os) (cutS p) with _ | _
    · have hf : (findI os p).isSome = false := by
        rcases hf : findI os p with _ | o
        · rfl
        · obtain ⟨ho, rfl⟩ := findI_some hf
          rw [has_path.2 ⟨o, ho, rfl⟩] at hhk; cases hhk
      rw [hf, Bool.false_and]
      have hth : ∀ i, PlaceAt (kidsOf (nodesOf os) (cutS p).dropLast) (nameOf (cutS p)) i → thereAt (kidsOf (nodesOf os) (cutS p).dropLast) (nameOf (cutS p)) i = false := fun i hi => by
        have := (there_key h.good hi).1
        rw [← hsplit, hhk] at this; exact this
      have Hth := Lib.hid hth
      clear hd hd2 hdirs hdo hcs hpl hf hth hsplit hhk F h hpk hpd
      generalize hK : (cutS p).dropLast = KD at *
      generalize hN : nameOf (cutS p) = N at *
      unfold txt at Hpl
      generalize kidsOf (nodesOf os) KD = ks at *
      clear hK hN
      go_enter Tryd.func47, Tryd.ntmps47
      go_wp2_with fail
      refine Hdo.out.mono ?_
      rintro e w1 ⟨rfl, n1⟩
      go_wp2_with fail
      refine (Hpl.out w1 n1).mono ?_
      rintro e w2 ⟨i, hi, rfl, rfl⟩
      rw [Hth.out i hi]
      clear hi
      go_wp2_with fail
      go_ret
      exact ⟨rfl, n1⟩
    · have hf : (findI os p).isSome = true := by
        obtain ⟨o, ho, e⟩ := has_path.1 hhk
        rcases hf : findI os p with _ | o'
        · exact absurd e (find_none.1 hf o ho)
        · rfl
      rw [hf, Bool.true_and]
      obtain ⟨y, hy, hyk⟩ := hasKey_iff.1 hhk
      have hth : ∀ i, PlaceAt (kidsOf (nodesOf os) (cutS p).dropLast) (nameOf (cutS p)) i → thereAt (kidsOf (nodesOf os) (cutS p).dropLast) (nameOf (cutS p)) i = true ∧ (kidsOf (nodesOf os) (cutS p).dropLast)[i]? = some (cutS p) := fun i hi => by
        have := there_key h.good hi
        rw [← hsplit, hhk] at this; exact ⟨this.1, this.2 rfl⟩
      have hkn := kids_none h hne
      have hcy := fun (W : World) (n : New w W) => ((F.new n).cells hy).2.2.2.1
      obtain ⟨ay, cy, hvy, t1, t2, -⟩ := (F.row y hy).shape
      rw [hvy, hyk] at hcy
      rw [hyk] at t1
      have hkid := fun (W : World) (n : New w W) (a : Option Addr) (m c : Nat) (hv : kv pd.key = .slice a m c) => (F.new n).kid hpd hv
      obtain ⟨ak, ck, hvk, s1, s2, -⟩ := (F.row pd hpd).shape
      rw [hvk] at hcs
      have hkid := fun (W : World) (n : New w W) => (F.new n).kid hpd hvk
      rw [hpk] at hcs hkid s1 hvk
      have hks := kids_le (nodesOf os) (cutS p).dropLast
      have hky := kids_le (nodesOf os) (cutS p)
      unfold maxLen at s2 t2
      have Hth := Lib.hid hth
      have Hkid := Lib.hid hkid
      have Hcy := Lib.hid hcy
      have Hcs := Lib.hid hcs
      have Hkn := Lib.hid hkn
      have Hhk := Lib.hid hhk
      have Hhf := Lib.hid hf
      have Hvk := Lib.hid hvk
      have Hok := Lib.hid hd2.1
      clear hd hd2 hdirs hdo hcs hpl hf hth hsplit hhk F h hpk hkid hcy hvy hyk hy hkn hvk
      generalize hKY : (kidsOf (nodesOf os) (cutS p)).length = ny at *
      generalize hBY : b (cutS p) = bY at *
      generalize hK : (cutS p).dropLast = KD at *
      generalize hN : nameOf (cutS p) = N at *
      unfold txt at Hpl
      generalize hKS : kidsOf (nodesOf os) KD = ks at *
      have HKS := Lib.hid hKS
      have HK := Lib.hid hK
      have HBY := Lib.hid hBY
      clear hK hN hKS hKY hBY
      rcases hnk : noKids p os with _ | _
      · have hny : (0 : Int) < (ny : Int) := by
          have := Hkn.out
          rw [hnk] at this
          have := of_decide_eq_false this
          omega
        clear hnk
        go_enter Tryd.func47, Tryd.ntmps47
        go_wp2_with fail
        refine Hdo.out.mono ?_
        rintro e w1 ⟨rfl, n1⟩
        go_wp2_with fail
        refine (Hpl.out w1 n1).mono ?_
        rintro e w2 ⟨i, hi, rfl, rfl⟩
        obtain ⟨h1, h2⟩ := Hth.out i hi
        rw [h1]
        obtain ⟨g, rfl, k1, -⟩ := Hkid.out w1 n1 i _ h2
        rw [HBY.out] at k1
        have kcy := Hcy.out w1 n1
        obtain ⟨-, -, -, k3, -, f3⟩ := Hcs.out w1 n1
        have hil := (List.getElem?_eq_some_iff.1 h2).1
        have H2 := Lib.hid h2
        clear hi h1 h2
        go_wp2_with fail
        go_ret
        exact ⟨rfl, n1⟩
      · have hny : ny = 0 := by
          have := Hkn.out
          rw [hnk] at this
          exact of_decide_eq_true this
        subst hny
        have Hnk := Lib.hid hnk
        have hT' : TreeP (dropS p os) := by
          obtain ⟨o, ho, e⟩ := has_path.1 Hhk.out
          have ht := treeOk_of HP.out hl
          have hd := drop_iff ht ho
          rw [e, hnk] at hd
          exact (treeOk_p hd).1
        have HT' := Lib.hid hT'
        clear hnk hT'
        suffices hsuf : Calls Tryd.prog 47 #[.pointer (some ⟨b [], 0, none⟩), .string ⟨p.toArray⟩] w (fun e w' => e = .returned (.bool true) ∧ Chg S w w' ∧ ∃ kv', Forest S w' b u kv' (nodesOf (dropS p os))) from
          hsuf.mono (fun e w' h => by rw [if_pos rfl]; exact h)
        go_enter Tryd.func47, Tryd.ntmps47
        go_wp2_with fail
        refine Hdo.out.mono ?_
        rintro e w1 ⟨rfl, n1⟩
        go_wp2_with fail
        refine (Hpl.out w1 n1).mono ?_
        rintro e w2 ⟨i, hi, rfl, rfl⟩
        obtain ⟨h1, h2⟩ := Hth.out i hi
        rw [h1]
        obtain ⟨g, rfl, k1, -⟩ := Hkid.out w1 n1 i _ h2
        rw [HBY.out] at k1
        have kcy := Hcy.out w1 n1
        obtain ⟨-, -, -, k3, -, f3⟩ := Hcs.out w1 n1
        have hil := (List.getElem?_eq_some_iff.1 h2).1
        have H2 := Lib.hid h2
        clear hi h1 h2
        have hap : g ≠ b KD := fun e => HF.out.ap1 pd hpd pd hpd (by rw [Hpk.out, Hvk.out, e]; rfl)
        have hrow := (HF.out.new n1).row pd hpd
        rw [Hpk.out, Hvk.out, HKS.out] at hrow
        have hdel := slDelete g ks.length ck i _ w1 hrow hil (by omega) (by intro u hu; obtain ⟨q, -, rfl⟩ := List.mem_map.1 hu; rfl)
        have Hdel := Lib.hid hdel
        have hw1 : IntKind.i64.wrap ((i : Int) + 1) = (i : Int) + 1 := IntWalk.i64_in _ (by omega)
        clear hdel hrow
        go_wp2_with fail
        refine Hdel.out.mono ?_
        rintro e w3 ⟨rfl, r3, c3⟩
        have k33 := c3.cell k3 (fun e => hap e.symm)
        have f33 : w3.frozen? ⟨b KD, 3, none⟩ = false := by
          have hc := c3.heap ((HF.out.new n1).cell pd hpd) (fun e => hap (by rw [← Hpk.out]; exact e.symm))
          rw [Hpk.out] at hc
          simp [World.frozen?, hc]
        go_wp2_with fail
        go_ret
        have fin := drop_fin (HF.out.new n1) HP.out HT'.out hpd (Hpk.out.trans HK.out.symm) (by rw [Hpk.out]; exact Hvk.out) (i := i) (by rw [Hpk.out, HKS.out]; exact H2.out) (vs := ks.map fun k => .pointer (some ⟨b k, 0, none⟩)) (by rw [Hpk.out, HKS.out]) (by rw [Hpk.out, HKS.out]) r3 c3 (bd := b KD) (by rw [Hpk.out])
        exact ⟨rfl, (n1.chg S).trans fin.1, fin.2⟩
end Go.Proofs.YtkffejommncinaaDoor
