/- listIn, list and count of a whole tree. -/
import Derived.Test.YtkffejommncinaaDoorListIn
namespace Go.Proofs.YtkffejommncinaaDoor
open Go.RowKit

theorem le_sum {l : List Nat} {a : Nat} (h : a ∈ l) : a ≤ l.sum := by
  induction l with
  | nil => simp at h
  | cons x r ih =>
    rw [List.sum_cons]
    rcases List.mem_cons.1 h with rfl | h
    · omega
    · have := ih h; omega
theorem cnt_kid {ns : List Nd} {n : Nat} {k q : Key} (h : q ∈ kidsOf ns k) : cntI ns n q ≤ cntI ns (n + 1) k := by
  rw [cntI]
  have := le_sum (List.mem_map.2 ⟨q, h, rfl⟩ : cntI ns n q ∈ (kidsOf ns k).map (cntI ns n))
  omega
theorem kids_deep {ns : List Nd} {k : Key} (h : ∀ x ∈ ns, x.key.length ≤ k.length) : kidsOf ns k = [] := by
  rw [List.eq_nil_iff_forall_not_mem]
  intro q hq
  have e := kid_split hq
  obtain ⟨x, hx, rfl, -⟩ := mem_kids.1 hq
  have h1 := h x hx
  have h2 := congrArg List.length e
  simp at h2
  omega

theorem nodeListIn {S : Nat → Prop} {b : Key → Nat} {u kv : Key → Value} {ns : List Nd} (G : Good ns) (hid : ∀ x ∈ ns, x.ids.length ≤ 1048576) : ∀ (n : Nat) (w : World) (_ : Forest S w b u kv ns) (k : Key) (start : List UInt8),
    hasKey ns k = true → (∀ x ∈ ns, x.key.length ≤ k.length + n) → cntI ns n k ≤ 1000 → start.length + 6 * n ≤ 1000000 →
    Calls Tryd.prog 76 #[.pointer (some ⟨b k, 0, none⟩), txt start] w (ToItemsPost (walkI ns n k start) w)
  | 0, w, F, k, start, hk, hd, hc, hs => by
    obtain ⟨x, hx, rfl⟩ := hasKey_iff.1 hk
    have hn := kids_deep (k := x.key) hd
    have h := nodeListStep F G hid hx 0 start (by omega) (by rw [hn]; simp) (fun q hq => by rw [hn] at hq; simp at hq)
    rw [hn] at h
    exact h
  | n + 1, w, F, k, start, hk, hd, hc, hs => by
    obtain ⟨x, hx, rfl⟩ := hasKey_iff.1 hk
    have hlen := len_walk ns (n + 1) x.key start
    refine nodeListStep F G hid hx n start (by omega) (by
      show (walkI ns (n + 1) x.key start).length ≤ 1000
      omega) (fun q hq W nW st hst => ?_)
    have hqk : hasKey ns q = true := by
      obtain ⟨y, hy, rfl, -⟩ := mem_kids.1 hq
      exact hasKey_iff.2 ⟨y, hy, rfl⟩
    have e := congrArg List.length (kid_split hq)
    have hck := cnt_kid (n := n) hq
    rw [List.length_append, List.length_singleton] at e
    exact nodeListIn G hid n W (F.new nW) q st hqk (fun y hy => by have := hd y hy; omega) (by omega) (by omega)

set_option maxRecDepth 4000 in
set_option maxHeartbeats 400000 in
theorem nodeList {S : Nat → Prop} {w : World} {b : Key → Nat} {u kv : Key → Value} {os : List ItemR} (F : Forest S w b u kv (nodesOf os)) (h : TreeP os) (hl : os.length ≤ 12) (hid : ∀ o ∈ os, o.ids.length ≤ 1048576) :
    Calls Tryd.prog 48 #[.pointer (some ⟨b [], 0, none⟩)] w (ToItemsPost os w) := by
  have hr : hasKey (nodesOf os) [] = true := by
    obtain ⟨x, hx, e, -⟩ := h.good.root
    exact hasKey_iff.2 ⟨x, hx, e⟩
  have hc := nodeListIn h.good (fun x hx => by
    rcases mem_nodes.1 hx with rfl | ⟨o, ho, rfl⟩
    · simp
    · exact hid o ho) 5 w F [] [] hr (fun x hx => by have := h.depth x hx; simp; omega) (by rw [cnt_all h]; omega) (by simp)
  rw [walk_all h] at hc
  unfold txt at hc
  have Hc := Lib.hid hc
  clear hc F h hid hr
  generalize b [] = b0 at *
  go_enter Tryd.func48, Tryd.ntmps48
  go_wp2_with fail
  refine Hc.out.mono ?_
  rintro e w1 ⟨v, rfl, o1, n1⟩
  obtain ⟨a, c, rfl, -⟩ := o1.shape
  go_wp2_with fail
  go_ret
  exact ⟨_, rfl, o1, n1⟩

def CntPost (n : Nat) (w : World) (e : Ending) (w' : World) : Prop := e = .returned (.int .i64 n) ∧ New w w'
set_option maxRecDepth 4000 in
set_option maxHeartbeats 1000000 in
theorem nodeCountStep {S : Nat → Prop} {w : World} {b : Key → Nat} {u kv : Key → Value} {ns : List Nd} (F : Forest S w b u kv ns) {x : Nd} (hx : x ∈ ns) (f : Key → Nat) (hc : (kidsOf ns x.key).length + ((kidsOf ns x.key).map f).sum ≤ 1000)
    (IH : ∀ q ∈ kidsOf ns x.key, ∀ W, New w W → Calls Tryd.prog 78 #[.pointer (some ⟨b q, 0, none⟩)] W (CntPost (f q) W)) :
    Calls Tryd.prog 78 #[.pointer (some ⟨b x.key, 0, none⟩)] w (CntPost ((kidsOf ns x.key).length + ((kidsOf ns x.key).map f).sum) w) := by
  obtain ⟨-, -, -, d3, -, -⟩ := F.cells hx
  obtain ⟨ak, ck, hkv, s1, s2, -⟩ := (F.row x hx).shape
  have hkid := fun (W : World) (n : New w W) => (F.new n).kid hx hkv
  rw [hkv] at d3
  unfold maxLen at s2
  have Hkid := Lib.hid hkid
  have HIH := Lib.hid IH
  clear F hkv hkid IH
  generalize kidsOf ns x.key = ks at *
  generalize b x.key = bx at *
  clear hx
  unfold CntPost at HIH
  go_enter Tryd.func78, Tryd.ntmps78
  go_wp2_with fail
  go_loopg [3, 16] ks.length (fun gk s3 i wr => ∃ (k : Nat), gk = ks.length - k ∧ k ≤ ks.length ∧ i = .int .i64 k ∧ s3 = .int .i64 ((ks.length + ((ks.take k).map f).sum : Nat) : Int) ∧ New w wr)
  case atStart => exact ⟨0, by omega, by omega, rfl, by simp, New.refl _⟩
  case round =>
    obtain ⟨k, hgk, hk, rfl, rfl, hn⟩ := hrel
    have Hgk := Lib.hid hgk
    clear hgk
    by_cases hlt : k < ks.length
    · obtain ⟨q, hq⟩ := get_of hlt
      obtain ⟨g, rfl, k1, k2⟩ := Hkid.out wr hn k q hq
      have htk : ((ks.take (k + 1)).map f).sum = ((ks.take k).map f).sum + f q := by
        obtain ⟨hk', e⟩ := List.getElem?_eq_some_iff.1 hq
        rw [List.take_succ_eq_append_getElem hk', e, List.map_append, List.sum_append]; simp
      have hsplit : (ks.map f).sum = ((ks.take (k + 1)).map f).sum + ((ks.drop (k + 1)).map f).sum := by
        rw [← List.sum_append, ← List.map_append, List.take_append_drop]
      have hih := HIH.out q (List.mem_of_getElem? hq) wr hn
      have Hih := Lib.hid hih
      have Htk := Lib.hid htk
      rw [htk] at hsplit
      have hb1 : ks.length + ((ks.take k).map f).sum + f q ≤ 1000 := by omega
      clear hih htk hsplit hq k2
      generalize ((ks.take k).map f).sum = A at *
      generalize f q = B at *
      go_wp2_with fail
      refine Hih.out.mono ?_
      rintro e w1 ⟨rfl, n1⟩
      go_wp2_with fail
      go_roundg (ks.length - (k + 1))
      case measure => rw [Hgk.out]; omega
      case rel => exact ⟨k + 1, rfl, by omega, by go_num, by rw [Htk.out]; go_num, hn.trans n1⟩
    · have ek : ks.take k = ks := List.take_of_length_le (by omega)
      rw [ek]
      clear ek
      go_wp2_with fail
      go_ret
      exact ⟨rfl, hn⟩
theorem nodeCount {S : Nat → Prop} {b : Key → Nat} {u kv : Key → Value} {ns : List Nd} : ∀ (n : Nat) (w : World) (_ : Forest S w b u kv ns) (k : Key),
    hasKey ns k = true → (∀ x ∈ ns, x.key.length ≤ k.length + n) → cntI ns n k ≤ 1000 →
    Calls Tryd.prog 78 #[.pointer (some ⟨b k, 0, none⟩)] w (CntPost (cntI ns n k) w)
  | 0, w, F, k, hk, hd, hc => by
    obtain ⟨x, hx, rfl⟩ := hasKey_iff.1 hk
    have hn := kids_deep (k := x.key) hd
    have h := nodeCountStep F hx (fun _ => 0) (by rw [hn]; simp) (fun q hq => by rw [hn] at hq; simp at hq)
    rw [hn] at h
    exact h
  | n + 1, w, F, k, hk, hd, hc => by
    obtain ⟨x, hx, rfl⟩ := hasKey_iff.1 hk
    refine nodeCountStep F hx (cntI ns n) hc (fun q hq W nW => ?_)
    have hqk : hasKey ns q = true := by
      obtain ⟨y, hy, rfl, -⟩ := mem_kids.1 hq
      exact hasKey_iff.2 ⟨y, hy, rfl⟩
    have e := congrArg List.length (kid_split hq)
    have hck := cnt_kid (n := n) hq
    rw [List.length_append, List.length_singleton] at e
    exact nodeCount n W (F.new nW) q hqk (fun y hy => by have := hd y hy; omega) (by omega)
end Go.Proofs.YtkffejommncinaaDoor
