/- Files in the store: the program's fileIds, loadFile, freeFile, storeFile; FileLoad, FileFree, FileStore. -/
import Derived.Test.YtipligidnoajfaaDoorStorePut
import Derived.Test.YtipligidnoajfaaDoorFileLaw
namespace Go.Proofs.YtipligidnoajfaaDoor
open Go.RowKit Go.Maps

/-- what stands in a valid store at a key -/
theorem Store.getH {S : Nat → Prop} {w : World} {b n : Nat} {ps : List HP} (h : Store S w b n ps) (hok : storeOk (ps.map Prod.fst) = true) (k : Int) :
    (atP k ps = none ∧ YtipligidnoajfaaDoor.getH k (ps.map Prod.fst) = none) ∨ ∃ p au cu, atP k ps = some p ∧ YtipligidnoajfaaDoor.getH k (ps.map Prod.fst) = some p.1.bytes ∧ p.2 = .slice au p.1.bytes.length cu ∧ Ints S w p.2 p.1.bytes ∧ p ∈ ps := by
  rcases atH_of (k := k) h.2.2.2.1 with ⟨h1, h2⟩ | ⟨i, p, h1, h2, h3, h4⟩
  · refine .inl ⟨h1, ?_⟩
    rw [YtipligidnoajfaaDoor.getH, h2]; split <;> rfl
  · have hm := List.mem_of_getElem? h3
    obtain ⟨au, cu, e⟩ := h.shapes p hm
    exact .inr ⟨p, au, cu, h1, getH_at hok (i := i) (by simp [h3]) h4, e, h.bytesOf hm, hm⟩

theorem idsFrom_none {k : Int} {r : List Int} {os : List HeldR} (h : YtipligidnoajfaaDoor.getH k os = none) : idsFrom (k :: r) os = false := by rw [idsFrom, h]
theorem idsFrom_some {k : Int} {r : List Int} {os : List HeldR} {b : List Int} (h : YtipligidnoajfaaDoor.getH k os = some b) : idsFrom (k :: r) os = ((r.isEmpty || decide (b.length = 8)) && idsFrom r os) := by rw [idsFrom, h]

set_option maxRecDepth 4000 in
set_option maxHeartbeats 1000000 in
theorem implFileIds {S T : Nat → Prop} (b n : Nat) (ps : List HP) (u : Value) (ids : List Int) (w : World) (h : Store S w b n ps) (g : Ints T w u ids) (hok : storeOk (ps.map Prod.fst) = true) :
    Calls Tryd.prog 43 #[.map (some b), u] w fun e w' => e = .returned (.bool (idsOk ids (ps.map Prod.fst))) ∧ New w w' := by
  have hst := fun (W : World) (nw : New w W) (k : Int) (hk : I64 k) => (h.new nw).look hk
  have Hst := Lib.hid hst
  have hgt := fun (k : Int) => h.getH hok k
  have Hgt := Lib.hid hgt
  have hl8 := fun (k : Int) b (e : getH k (ps.map Prod.fst) = some b) => (blockOk_len (getH_ok e).1).2
  have Hl8 := Lib.hid hl8
  have hfit := g.fits
  have Hfit := Lib.hid hfit
  have hgn := fun (W : World) (nw : New w W) => g.new nw
  have Hgn := Lib.hid hgn
  obtain ⟨au, cu, rfl, g1, ⟨g2, -⟩, -, -⟩ := g
  unfold maxLen at g2
  clear hst hgt hl8 hfit hgn
  by_cases hl : 4 < ids.length
  · have hl' : (4 : Int) < (ids.length : Int) := by omega
    have hr : idsOk ids (ps.map Prod.fst) = false := by simp [idsOk]; omega
    have Hr := Lib.hid hr
    clear hr
    go_enter Tryd.func43, Tryd.ntmps43
    go_wp2_with fail
    go_ret
    exact ⟨ret_bool Hr.out.symm, New.refl _⟩
  · have hl' : ¬ (4 : Int) < (ids.length : Int) := by omega
    have hr : idsOk ids (ps.map Prod.fst) = idsFrom ids (ps.map Prod.fst) := by simp [idsOk]; omega
    have Hr := Lib.hid hr
    clear hr
    go_enter Tryd.func43, Tryd.ntmps43
    go_wp2_with fail
    go_loopg [14] ids.length (fun gk i wr => ∃ k : Nat, gk = ids.length - k ∧ k ≤ ids.length ∧ i = .int .i64 k ∧ New w wr ∧ idsFrom ids (ps.map Prod.fst) = idsFrom (ids.drop k) (ps.map Prod.fst))
    case atStart => exact ⟨0, rfl, Nat.zero_le _, rfl, New.refl _, rfl⟩
    case round =>
      obtain ⟨k, hgk, hk, rfl, hn, he⟩ := hrel
      have Hgk := Lib.hid hgk
      have He := Lib.hid he
      clear hgk he
      by_cases hlt : k < ids.length
      · obtain ⟨x, hx⟩ := get_of hlt
        have hx64 := Hfit.out x (List.mem_of_getElem? hx)
        obtain ⟨b', off, rfl, kx⟩ := Ints.cellAt (Hgn.out _ hn) hx
        have hd := drop_of hx
        have Hd := Lib.hid hd
        have hlook := Hst.out _ hn x hx64
        rcases Hgt.out x with ⟨ha, hg⟩ | ⟨p, ap, cp, ha, hg, hp2, -, -⟩
        · have hf : idsFrom ids (ps.map Prod.fst) = false := by rw [He.out, hd, idsFrom_none hg]
          have Hf := Lib.hid hf
          rw [ha] at hlook
          simp only [zeroHeld] at hlook
          clear hf hx hd ha hg
          go_wp2_with fail
          go_ret
          exact ⟨ret_bool (by rw [Hr.out, Hf.out]), hn.alloc _⟩
        · have hf := He.out
          rw [hd, idsFrom_some hg] at hf
          have hl8 := Hl8.out _ _ hg
          have Hf := Lib.hid hf
          rw [ha] at hlook
          simp only [HP.val, hp2] at hlook
          clear hf hx hd ha hg hp2
          have c1 : (wr.alloc (.cells #[.int .i64 p.1.id, .slice ap p.1.bytes.length cp, .int .i64 p.1.uses] 47)).cell? ⟨wr.heap.size, 1, none⟩ = some (.slice ap p.1.bytes.length cp) := by rw [cell_alloc]; rfl
          by_cases hlast : k + 1 < ids.length
          · have hlast' : (k : Int) < (ids.length : Int) - 1 := by omega
            have hem : (ids.drop (k + 1)).isEmpty = false := by
              rw [List.isEmpty_eq_false_iff]
              intro e
              have := congrArg List.length e
              simp at this; omega
            have Hem := Lib.hid hem
            clear hem
            by_cases h8 : p.1.bytes.length = 8
            · have h8' : ((p.1.bytes.length : Int) != 8) = false := by simp [h8]
              have H8 := Lib.hid h8
              clear h8
              go_wp2_with fail
              go_roundg (ids.length - (k + 1))
              case measure => rw [Hgk.out]; omega
              case rel => exact ⟨k + 1, rfl, by omega, by go_num, hn.alloc _, by rw [Hf.out, Hem.out, H8.out]; simp⟩
            · have h8' : ((p.1.bytes.length : Int) != 8) = true := by simp; omega
              have H8 := Lib.hid h8
              clear h8
              go_wp2_with fail
              go_ret
              exact ⟨ret_bool (by rw [Hr.out, Hf.out, Hem.out, decide_eq_false H8.out]; rfl), hn.alloc _⟩
          · have hlast' : ¬ (k : Int) < (ids.length : Int) - 1 := by omega
            have hem : (ids.drop (k + 1)).isEmpty = true := by rw [drop_end hlast]; rfl
            have Hem := Lib.hid hem
            clear hem
            go_wp2_with fail
            go_roundg (ids.length - (k + 1))
            case measure => rw [Hgk.out]; omega
            case rel => exact ⟨k + 1, rfl, by omega, by go_num, hn.alloc _, by rw [Hf.out, Hem.out]; simp⟩
      · go_wp2_with fail
        go_ret
        exact ⟨ret_bool (by rw [Hr.out, He.out, drop_end hlt]; rfl), hn⟩

theorem loadAll_take {ids : List Int} {os : List HeldR} {k : Nat} {x : Int} (hx : ids[k]? = some x) : loadAll (ids.take (k + 1)) os = loadAll (ids.take k) os ++ (YtipligidnoajfaaDoor.getH x os).getD [] := by
  obtain ⟨hk, e⟩ := List.getElem?_eq_some_iff.1 hx
  rw [List.take_succ_eq_append_getElem hk, e]
  simp [loadAll]
theorem idsFrom_all : ∀ {ids : List Int} {os : List HeldR}, idsFrom ids os = true → ∀ k ∈ ids, ∃ b, YtipligidnoajfaaDoor.getH k os = some b
  | [], _, _, k, hk => by simp at hk
  | j :: r, os, h, k, hk => by
    rcases hg : YtipligidnoajfaaDoor.getH j os with _ | b
    · rw [idsFrom_none hg] at h; simp at h
    · rw [idsFrom_some hg, Bool.and_eq_true] at h
      rcases List.mem_cons.1 hk with rfl | hk
      · exact ⟨b, hg⟩
      · exact idsFrom_all h.2 k hk
theorem loadAll_len {os : List HeldR} : ∀ (ids : List Int), (loadAll ids os).length ≤ 8 * ids.length
  | [] => by simp [loadAll]
  | k :: r => by
    have ih := loadAll_len (os := os) r
    rw [loadAll, List.flatMap_cons, List.length_append]
    rw [loadAll] at ih
    have : ((YtipligidnoajfaaDoor.getH k os).getD []).length ≤ 8 := by
      rcases hg : YtipligidnoajfaaDoor.getH k os with _ | b
      · simp
      · have := (blockOk_len (getH_ok hg).1).2
        simpa using this
    simp only [List.length_cons]; omega

/-- What freeFile leaves. -/
def FreePost (S : Nat → Prop) (b n : Nat) (r : Option (List HeldR)) (w : World) (e : Ending) (w' : World) : Prop :=
  match r with
  | none => e = .returned (.bool false) ∧ Chg (fun j => j = b) w w'
  | some os => e = .returned (.bool true) ∧ Chg (fun j => j = b) w w' ∧ ∃ qs : List HP, qs.map Prod.fst = os ∧ Store S w' b (n + 4) qs

theorem dropP_some {k : Int} {ps : List HP} (h : rising ps) (hok : storeOk (ps.map Prod.fst) = true) : (dropP k ps = none ∧ dropH k (ps.map Prod.fst) = none) ∨ ∃ qs, dropP k ps = some qs ∧ dropH k (ps.map Prod.fst) = some (qs.map Prod.fst) := by
  have := dropP_is (k := k) h hok
  rcases hd : dropP k ps with _ | qs
  · rw [hd] at this; exact .inl ⟨rfl, this.symm⟩
  · rw [hd] at this; exact .inr ⟨qs, rfl, this.symm⟩

end Go.Proofs.YtipligidnoajfaaDoor
