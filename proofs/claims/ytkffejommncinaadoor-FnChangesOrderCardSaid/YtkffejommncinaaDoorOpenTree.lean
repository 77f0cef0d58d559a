/- openTree: the items of a list become a tree of nodes. -/
import Derived.Test.YtkffejommncinaaDoorInsert
import Derived.Test.YtkffejommncinaaDoorItemsA
namespace Go.Proofs.YtkffejommncinaaDoor
open Go.RowKit

theorem Forest.start {w w' : World} (hr : w'.heap[w.heap.size]? = some (.cells #[txt [], .bool true, .slice none 0 0, .slice none 0 0] 69)) :
    Forest (fun j => w.heap.size ≤ j) w' (fun _ => w.heap.size) (fun _ => .slice none 0 0) (fun _ => .slice none 0 0) (nodesOf []) := by
  have hm : ∀ x ∈ nodesOf [], x = ⟨[], true, []⟩ := fun x hx => by simpa [nodesOf] using hx
  refine ⟨fun x hx => ?_, fun x hx => ?_, fun x hx => ?_, fun x hx => Nat.le_refl _, fun x hx y hy _ => by rw [hm x hx, hm y hy], fun x hx y hy => by simp [Value.ownBlock], fun x hx y hy j h => by simp [Value.ownBlock] at h⟩
  · rw [hm x hx]; exact hr
  · exact Row.nil _ _ _ _
  · rw [hm x hx]; exact .inl ⟨rfl, none, 0, rfl, Nat.zero_le _, fun _ => rfl⟩
theorem nodes_snoc (os : List ItemR) (x : ItemR) : nodesOf os ++ [nodeOf x] = nodesOf (os ++ [x]) := by simp [nodesOf]
theorem kids_before {os : List ItemR} (h : TreeP os) {x : ItemR} (hx : itemOk x = true) (hlt : ∀ o ∈ os, sLt o.path x.path = true) : ∀ q ∈ kidsOf (nodesOf os) (cutS x.path).dropLast, sLt (nameOf q) (nameOf (cutS x.path)) = true := by
  intro q hq
  rw [kids_nodes] at hq
  obtain ⟨o, ho, rfl⟩ := List.mem_map.1 hq
  simp only [List.mem_filter, beq_iff_eq] at ho
  rw [← same_dir_lt (h.path ho.1) (itemOk_path hx) ho.2]
  exact hlt o ho.1
theorem home_has {os : List ItemR} {x : ItemR} (hx : itemOk x = true) : hasDir (nodesOf os) x.path = homeS os x.path := by
  unfold hasDir
  rw [itemOk_path hx, home_key (itemOk_path hx), Bool.true_and]

def OpenPost (os : List ItemR) (w : World) (e : Ending) (w' : World) : Prop :=
  if treeOk os = true then ∃ b : Key → Nat, e = .returned (.tuple #[.pointer (some ⟨b [], 0, none⟩), .bool true]) ∧ New w w' ∧ ∃ u kv, Forest (fun j => w.heap.size ≤ j) w' b u kv (nodesOf os)
  else e = .returned (.tuple #[.pointer none, .bool false]) ∧ New w w'
/-- the tree so far -/
def OpenInv (os : List ItemR) (w wr : World) (k rb : Nat) (last : List UInt8) : Prop :=
  TreeP (os.take k) ∧ (∀ o ∈ os.take k, o.path = last ∨ sLt o.path last = true) ∧ openGo [] [] os = openGo last (os.take k) (os.drop k) ∧ New w wr ∧
    ∃ b : Key → Nat, b [] = rb ∧ ∃ u kv, Forest (fun j => w.heap.size ≤ j) wr b u kv (nodesOf (os.take k))
theorem open_start (os : List ItemR) (w : World) : OpenInv os w (w.alloc (.cells #[.string ⟨#[]⟩, .bool true, .slice none 0 0, .slice none 0 0] 69)) 0 w.heap.size [] := by
  refine ⟨by simpa using TreeP.nil, by simp, by simp, (New.refl w).alloc _, fun _ => w.heap.size, rfl, fun _ => .slice none 0 0, fun _ => .slice none 0 0, ?_⟩
  rw [List.take_zero]
  exact Forest.start (heap_alloc_new w _)
theorem open_end {os : List ItemR} {w wr : World} {rb : Nat} {last : List UInt8} (h : OpenInv os w wr os.length rb last) (hf : treeOk os = openGo [] [] os) :
    OpenPost os w (.returned (.tuple #[.pointer (some ⟨rb, 0, none⟩), .bool true])) wr := by
  obtain ⟨-, -, h3, h4, b, rfl, u, kv, h5⟩ := h
  rw [List.drop_eq_nil_of_le (Nat.le_refl _)] at h3
  rw [List.take_of_length_le (Nat.le_refl _)] at h5
  unfold OpenPost
  rw [hf, h3, openGo, if_pos rfl]
  exact ⟨b, rfl, h4, u, kv, h5⟩
theorem open_stop {os : List ItemR} {w wr : World} (hf : treeOk os = openGo [] [] os) (h : openGo [] [] os = false) (n : New w wr) : OpenPost os w (.returned (.tuple #[.pointer none, .bool false])) wr := by
  unfold OpenPost
  rw [hf, h, if_neg (by simp)]
  exact ⟨rfl, n⟩
theorem ItemR.parts {o : ItemR} (h : o.size ≤ 1048576) : o.path.length ≤ 1048576 ∧ o.ids.length ≤ 1048576 := by unfold ItemR.size at h; omega

set_option maxRecDepth 4000 in
set_option maxHeartbeats 1000000 in
theorem openTree {S : Nat → Prop} (v : Value) (os : List ItemR) (w : World) (h : Items S w v os) (hall : ∀ o ∈ os, o.size ≤ 1048576) :
    Calls Tryd.prog 40 #[v] w (OpenPost os w) := by
  have h0 := h
  obtain ⟨-, a, c, rfl, h1, h2, -⟩ := h
  unfold maxLen at h2
  have e0 := tree_same os
  by_cases h12 : 12 < os.length
  · have hf : treeOk os = false := by rw [e0, decide_eq_false (by omega)]; rfl
    have Hf := Lib.hid hf
    have hgt : (os.length : Int) > 12 := by omega
    clear hf e0
    go_enter Tryd.func40, Tryd.ntmps40
    go_wp2_with fail
    go_ret2
    exact (by unfold OpenPost; rw [Hf.out]; exact ⟨rfl, New.refl _⟩)
  · have hf : treeOk os = openGo [] [] os := by rw [e0, decide_eq_true (by omega), Bool.true_and]
    have Hf := Lib.hid hf
    have hgt : ¬ ((os.length : Int) > 12) := by omega
    have hat := fun (W : World) (n : New w W) (k : Nat) (o : ItemR) (ho : os[k]? = some o) => Items.at (Recs.new h0 n) ho
    have Hat := Lib.hid hat
    have Hall := Lib.hid hall
    clear hf e0 hat hall
    go_enter Tryd.func40, Tryd.ntmps40
    go_wp2_with fail
    have HI0 := Lib.hid (open_start os w)
    go_loopg [5, 15] os.length (fun gk s5 s15 wr => ∃ (k : Nat) (last : List UInt8), gk = os.length - k ∧ k ≤ os.length ∧ s15 = .int .i64 k ∧ s5 = .string ⟨last.toArray⟩ ∧ Hid (OpenInv os w wr k w.heap.size last))
    case atStart => exact ⟨0, [], by omega, by omega, rfl, rfl, HI0⟩
    case round =>
      obtain ⟨k, last, hgk, hk, rfl, rfl, hI⟩ := hrel
      have Hgk := Lib.hid hgk
      clear hgk
      by_cases hlt : k < os.length
      · obtain ⟨o, ho⟩ := get_of hlt
        obtain ⟨hT, hL, hO, hN, b, hb, u, kv, hF⟩ := hI.out
        obtain ⟨bb, off, c', uv, e1, hbb, c0, c1, c2, -, r2⟩ := Hat.out wr hN k o ho
        simp only [Value.slice.injEq] at e1
        obtain ⟨rfl, -, rfl⟩ := e1
        obtain ⟨hpl, hil⟩ := ItemR.parts (Hall.out o (List.mem_of_getElem? ho))
        have hdrop := drop_of ho
        have htake : os.take (k + 1) = os.take k ++ [o] := by
          obtain ⟨hk', e⟩ := List.getElem?_eq_some_iff.1 ho
          rw [List.take_succ_eq_append_getElem hk', e]
        rw [hdrop, openGo] at hO
        have HO := Lib.hid hO
        have HT := Lib.hid hT
        have HL := Lib.hid hL
        have Htake := Lib.hid htake
        have HF := Lib.hid hF
        have Hb := Lib.hid hb
        unfold txt at c0
        have hless := less_is o.path last
        have hsz := hN.size
        clear hO hT hL htake hF hb hdrop ho hI
        have n0 : New wr (wr.alloc (.cells #[.string ⟨o.path.toArray⟩, .bool o.dir, uv] 28)) := (New.refl wr).alloc _
        have N0 := Lib.hid n0
        have p0 : (wr.alloc (.cells #[.string ⟨o.path.toArray⟩, .bool o.dir, uv] 28)).cell? ⟨wr.heap.size, 0, none⟩ = some (.string ⟨o.path.toArray⟩) := by rw [cell_alloc]; rfl
        have p1 : (wr.alloc (.cells #[.string ⟨o.path.toArray⟩, .bool o.dir, uv] 28)).cell? ⟨wr.heap.size, 1, none⟩ = some (.bool o.dir) := by rw [cell_alloc]; rfl
        have p2 : (wr.alloc (.cells #[.string ⟨o.path.toArray⟩, .bool o.dir, uv] 28)).cell? ⟨wr.heap.size, 2, none⟩ = some uv := by rw [cell_alloc]; rfl
        have P := Lib.hid (And.intro p0 (And.intro p1 p2))
        have hsx : (wr.alloc (.cells #[.string ⟨o.path.toArray⟩, .bool o.dir, uv] 28)).heap.size = wr.heap.size + 1 := World.size_alloc _ _
        have Hsx := Lib.hid hsx
        have R2 := Lib.hid r2
        obtain ⟨au, cu, rfl, -⟩ := r2
        clear n0 p0 p1 p2 hsx
        rcases hs : sLt last o.path with _ | _
        · have hf : openGo [] [] os = false := by rw [HO.out, hs]; rfl
          have Hff := Lib.hid hf
          rcases hs2 : sLt o.path last with _ | _
          · obtain rfl := sLt_total hs hs2
            clear hf hs hs2 hless
            go_wp2_with fail
            go_ret2
            exact open_stop Hf.out Hff.out (hN.trans N0.out)
          · rw [hs2] at hless
            clear hf hs hs2
            go_wp2_with fail
            go_ret2
            exact open_stop Hf.out Hff.out (hN.trans N0.out)
        · have hne : ¬ o.path = last := fun e => by rw [e, sLt_irrefl] at hs; cases hs
          have hne2 : (o.path == last) = false := by simp [hne]
          have hnb : sLt o.path last = false := by
            rcases h : sLt o.path last with _ | _
            · rfl
            · have := sLt_trans h hs
              rw [sLt_irrefl] at this; cases this
          rw [hnb] at hless
          clear hnb
          rw [hs, Bool.true_and] at HO
          have Hs := Lib.hid hs
          have hiv := fun (W : World) (n : New wr W) => implItem o _ W (R2.out.new n) hpl
          unfold txt at hiv
          rcases hik : itemOk o with _ | _
          · rw [hik] at hiv
            have Hiv := Lib.hid hiv
            have hf : openGo [] [] os = false := by rw [HO.out, hik]; rfl
            have Hff := Lib.hid hf
            clear hf hs hik hiv
            go_wp2_with fail
            refine (Hiv.out _ N0.out).mono ?_
            rintro e w2 ⟨rfl, n2⟩
            go_wp2_with fail
            go_ret2
            exact open_stop Hf.out Hff.out ((hN.trans N0.out).trans n2)
          · rw [hik] at hiv
            rw [hik, Bool.true_and] at HO
            have Hiv := Lib.hid hiv
            have hall2 : ∀ o' ∈ os.take k, sLt o'.path o.path = true := fun o' ho' => by
              rcases HL.out o' ho' with e | e
              · rw [e]; exact hs
              · exact sLt_trans e hs
            have hlen : (nodesOf (os.take k)).length ≤ 1000 := by simp [nodesOf]; omega
            have hin := fun (W : World) (n : New wr W) => nodeInsert ((HF.out.mono (T := fun j => w.heap.size ≤ j ∧ j < wr.heap.size) (fun j hj hh => ⟨hh, hj⟩)).new n) HT.out.good hlen o _ (R2.out.new n) hil hpl (kids_before HT.out hik hall2)
            unfold InsPost at hin
            rw [home_has hik, Hb.out] at hin
            unfold txt at hin
            have Hall2 := Lib.hid hall2
            have Hik := Lib.hid hik
            rcases hh : homeS (os.take k) o.path with _ | _
            · rw [hh] at hin
              have Hin := Lib.hid hin
              have hf : openGo [] [] os = false := by rw [HO.out, hh]; rfl
              have Hff := Lib.hid hf
              clear hf hs hik hiv hin hall2 hlen hh
              go_wp2_with fail
              refine (Hiv.out _ N0.out).mono ?_
              rintro e w2 ⟨rfl, n2⟩
              have q0 := n2.cell P.out.1
              have q1 := n2.cell P.out.2.1
              have q2 := n2.cell P.out.2.2
              have n3 := N0.out.trans n2
              go_wp2_with fail
              refine (Hin.out _ n3).mono ?_
              rintro e w4 ⟨rfl, n4⟩
              go_wp2_with fail
              go_ret2
              exact open_stop Hf.out Hff.out ((hN.trans n3).trans n4)
            · rw [hh] at hin
              rw [hh, Bool.true_and, ← Htake.out] at HO
              have Hin := Lib.hid hin
              have hT2 : TreeP (os.take (k + 1)) := by rw [Htake.out]; exact HT.out.snoc hall2 hik hh
              have HT2 := Lib.hid hT2
              clear hs hik hiv hin hall2 hlen hh hT2
              go_wp2_with fail
              refine (Hiv.out _ N0.out).mono ?_
              rintro e w2 ⟨rfl, n2⟩
              have q0 := n2.cell P.out.1
              have q1 := n2.cell P.out.2.1
              have q2 := n2.cell P.out.2.2
              have n3 := N0.out.trans n2
              have hs2 := n2.size
              rw [Hsx.out] at hs2
              go_wp2_with fail
              refine (Hin.out _ n3).mono ?_
              rintro e w4 ⟨rfl, c4, b', hb', u', kv', F4⟩
              have q4 := c4.cell q0 (fun h => by omega)
              have HF4 := Lib.hid F4
              have Hb' := Lib.hid hb'
              clear F4 hb'
              go_wp2_with fail
              go_roundg (os.length - (k + 1))
              case measure => rw [Hgk.out]; omega
              case rel =>
                refine ⟨k + 1, o.path, rfl, by omega, by go_num, rfl, ⟨HT2.out, fun o' ho' => ?_, HO.out, (hN.trans n3).trans_chg c4 (fun j hj hh => by omega), b', Hb'.out, u', kv', ?_⟩⟩
                · rw [Htake.out] at ho'
                  rcases List.mem_append.1 ho' with h | h
                  · exact .inr (Hall2.out o' h)
                  · rw [List.mem_singleton.1 h]; exact .inl rfl
                · have f := HF4.out
                  rw [nodes_snoc, ← Htake.out] at f
                  exact f.mono (fun j _ hj => by rcases hj with hj | hj <;> omega)
      · obtain rfl : k = os.length := by omega
        have HE := Lib.hid (open_end hI.out Hf.out)
        clear hI
        go_wp2_with fail
        go_ret2
        exact HE.out
end Go.Proofs.YtkffejommncinaaDoor
