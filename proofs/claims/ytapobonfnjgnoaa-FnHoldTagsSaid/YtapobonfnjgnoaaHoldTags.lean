/- HoldTags, the program's and the reference's. -/
import Derived.Test.YtapobonfnjgnoaaHoldImpl
namespace Go.Proofs.Ytapobonfnjgnoaa
open Go.RowKit

theorem fields_strs (w : World) : ∀ (ts : List (List UInt8)) (S : Nat → Prop), (∀ x ∈ ts, x.length ≤ maxLen) → Fields S w (ts.map txt) (strFlds ts)
  | [], _, _ => trivial
  | x :: r, _, h => ⟨⟨rfl, h x List.mem_cons_self⟩, fields_strs w r _ fun y hy => h y (List.mem_cons_of_mem _ hy)⟩
theorem OwnStrs.of_row {S : Nat → Prop} {w : World} {v : Value} {ts : List (List UInt8)} (h : Row 9 1 S w v ts.length (ts.map txt)) (hf : ∀ x ∈ ts, x.length ≤ maxLen) : OwnStrs S w v ts := ⟨_, h, fields_strs w ts _ hf⟩

def TagsPost (r : List (List UInt8)) (w : World) (e : Ending) (w' : World) : Prop :=
  ∃ v, e = .returned v ∧ OwnStrs (fun j => w.heap.size ≤ j) w' v r ∧ New w w'
def tagsOf (s : List UInt8) (os : List HoldR) : List (List UInt8) := (os.filter (fun y => decide (y.snap = s))).map HoldR.tag
theorem tagsOf_take {s : List UInt8} {os : List HoldR} {k : Nat} {o : HoldR} (h : os[k]? = some o) : tagsOf s (os.take (k + 1)) = tagsOf s (os.take k) ++ (if o.snap = s then [o.tag] else []) := by
  obtain ⟨hk, e⟩ := List.getElem?_eq_some_iff.1 h
  unfold tagsOf
  rw [List.take_succ_eq_append_getElem hk, e, List.filter_append, List.map_append]
  congr 1
  by_cases hs : o.snap = s <;> simp [hs]
theorem tagsOf_mem {s t : List UInt8} {os : List HoldR} (h : t ∈ tagsOf s os) : ∃ o ∈ os, o.tag = t := by
  obtain ⟨o, ho, e⟩ := List.mem_map.1 h
  exact ⟨o, (List.mem_filter.1 ho).1, e⟩
theorem tagsOf_len (s : List UInt8) (os : List HoldR) : (tagsOf s os).length ≤ os.length := by
  unfold tagsOf
  rw [List.length_map]
  exact List.length_filter_le _ _

set_option maxRecDepth 4000 in
set_option maxHeartbeats 2000000 in
theorem implTags {S : Nat → Prop} (v : Value) (os : List HoldR) (s : List UInt8) (w : World) (h : Holds S w v os) (hs : ∀ o ∈ os, HSm o) :
    Calls Try.prog 14 #[v, .string ⟨s.toArray⟩] w (TagsPost (tagsR os s) w) := by
  have ho := openHolds v os w h hs
  obtain ⟨-, a, c, rfl, h1, h2, -⟩ := h
  unfold maxLen at h2
  by_cases hok : holdsOk os = true
  · obtain ⟨hlen, hall, hpw⟩ := holdsOk_pw hok
    have hr : tagsR os s = tagsOf s os := by unfold tagsR; rw [if_pos hok]; rfl
    rw [hr]
    have Ho := Lib.hid ho
    have Hok := Lib.hid hok
    have Hpw := Lib.hid hpw
    have Hs := Lib.hid hs
    clear ho hok hpw hall hs hr
    go_enter Try.func14, Try.ntmps14
    go_wp2_with fail
    refine Ho.out.mono ?_
    intro e w2 hpost
    rw [OpenHPost, if_pos Hok.out] at hpost
    obtain ⟨mb, hmb, rfl, hset, n2⟩ := hpost
    have hsort := setSorted mb os.length os os w2 (pw_nodup Hpw.out) hset (by omega) (fun y hy => (Hs.out y hy).fit) Hpw.out (fun y => Iff.rfl)
    have Hsort := Lib.hid hsort
    clear hset hsort
    go_wp2_with fail
    refine Hsort.out.mono ?_
    rintro e w3 ⟨v3, rfl, ho3, n3⟩
    have hh3 : Holds _ w3 v3 os := OwnRecs.recs ho3
    have n03 := n2.trans n3
    have hat := fun (W : World) (n : New w3 W) (k : Nat) (o : HoldR) (hk : os[k]? = some o) => Holds.at (Recs.new hh3 n) hk
    have Hat := Lib.hid hat
    obtain ⟨a3, c3, rfl, h31, h32, -⟩ := ho3.shape
    unfold maxLen at h32
    clear ho3 hh3 hat
    go_wp2_with fail
    go_loopg [7, 20] os.length (fun gk s7 i wr => ∃ (k : Nat), gk = os.length - k ∧ k ≤ os.length ∧ i = .int .i64 k ∧ New w3 wr ∧ Row 9 1 (fun j => w3.heap.size ≤ j) wr s7 (tagsOf s (os.take k)).length ((tagsOf s (os.take k)).map txt))
    case atStart => exact ⟨0, by omega, by omega, rfl, New.refl _, Row.nil _ _ _ _⟩
    case round =>
      obtain ⟨k, hgk, hk, rfl, hn, hrow⟩ := hrel
      have Hgk := Lib.hid hgk
      clear hgk
      by_cases hlt : k < os.length
      · obtain ⟨o, hx⟩ := get_of hlt
        obtain ⟨b, off, c', e1, hb, c0, c1, -, -⟩ := Hat.out wr hn k o hx
        simp only [Value.slice.injEq] at e1
        obtain ⟨rfl, -, rfl⟩ := e1
        unfold txt at c0 c1
        have Htk := Lib.hid (tagsOf_take (s := s) hx)
        have htl := tagsOf_len s (os.take k)
        rw [List.length_take] at htl
        by_cases hsn : o.snap = s
        · have Htk2 := Lib.hid (show tagsOf s (os.take (k + 1)) = tagsOf s (os.take k) ++ [o.tag] by rw [Htk.out, if_pos hsn])
          have hsn2 : (o.snap == s) = true := by simp [hsn]
          generalize hd : tagsOf s (os.take k) = done at *
          have Hsn := Lib.hid hsn
          have nb := hn.alloc (.cells #[.string ⟨o.snap.toArray⟩, .string ⟨o.tag.toArray⟩] 25)
          have hrow2 := hrow.new ((New.refl wr).alloc (.cells #[.string ⟨o.snap.toArray⟩, .string ⟨o.tag.toArray⟩] 25))
          obtain ⟨at3, cs, rfl, -⟩ := hrow.shape
          have hos := hrow.2
          have Hos := Lib.hid hos
          have z3 := hn.size
          clear hx hd hsn hos hrow
          go_wp2_with (at_builtin; refine wpRow_append1 slStr _ _ rfl rfl _ done.length (done.map txt) _ _ rfl hrow2 rfl (by show Value.slice (some ⟨wr.heap.size + 1, 0, none⟩) 1 1 = _; rw [World.size_alloc]) (by omega) (by decide) ?_; intro v' w5 q1 c5)
          have q2 : Row 9 1 (fun j => w3.heap.size ≤ j) w5 v' (done.length + 1) (done.map txt ++ [.string ⟨o.tag.toArray⟩]) := q1.mono (fun j _ hj => by
            rcases hj with hj | hj
            · exact Hos.out j hj
            · have := nb.size
              omega)
          have n5 : New w3 w5 := nb.trans_chg c5 (fun j hj e => by have := Hos.out j e; omega)
          clear q1 c5 hrow2
          go_roundg (os.length - (k + 1))
          case measure => rw [Hgk.out]; omega
          case rel =>
            refine ⟨k + 1, rfl, by omega, by go_num, n5, ?_⟩
            rw [Htk2.out]
            simp only [List.length_append, List.length_singleton, List.map_append, List.map_cons, List.map_nil]
            exact q2
        · have Htk2 := Lib.hid (show tagsOf s (os.take (k + 1)) = tagsOf s (os.take k) by rw [Htk.out, if_neg hsn]; simp)
          have hsn2 : (o.snap == s) = false := by simp [hsn]
          generalize hd : tagsOf s (os.take k) = done at *
          have nb := hn.alloc (.cells #[.string ⟨o.snap.toArray⟩, .string ⟨o.tag.toArray⟩] 25)
          have hrow2 := hrow.new ((New.refl wr).alloc (.cells #[.string ⟨o.snap.toArray⟩, .string ⟨o.tag.toArray⟩] 25))
          clear hx hd hsn htl hrow
          go_wp2_with fail
          go_roundg (os.length - (k + 1))
          case measure => rw [Hgk.out]; omega
          case rel =>
            refine ⟨k + 1, rfl, by omega, by go_num, nb, ?_⟩
            rw [Htk2.out]
            exact hrow2
      · have ek : os.take k = os := List.take_of_length_le (by omega)
        rw [ek] at hrow
        clear ek
        go_wp2_with fail
        go_ret
        refine ⟨_, rfl, (OwnStrs.of_row hrow (fun x hx => ?_)).mono (fun j _ hj => by have := n03.size; omega), n03.trans hn⟩
        obtain ⟨o, ho, rfl⟩ := tagsOf_mem hx
        exact (Hs.out o ho).fit.2
  · have hr : tagsR os s = [] := by unfold tagsR; rw [if_neg hok]
    rw [hr]
    have Ho := Lib.hid ho
    have Hok := Lib.hid hok
    clear ho hok hs hr
    go_enter Try.func14, Try.ntmps14
    go_wp2_with fail
    refine Ho.out.mono ?_
    intro e w2 hpost
    rw [OpenHPost, if_neg Hok.out] at hpost
    obtain ⟨rfl, n2⟩ := hpost
    go_wp2_with fail
    go_ret
    exact ⟨_, rfl, OwnRecs.nil _ _ _ _, n2⟩
end Go.Proofs.Ytapobonfnjgnoaa
