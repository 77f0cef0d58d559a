/- The line of a listing for one item: the program's sizeOf, text, ItemText; the reference's l41Item, ItemText. -/
import Derived.Test.YtipligidnoajfaaDoorFile2
import Derived.Test.YtipligidnoajfaaDoorFileSpec
import Derived.Test.YtipligidnoajfaaDoorItemOk
import Derived.Test.YtipligidnoajfaaDoorDec
import Derived.Deep.RegionHeld3
namespace Go.Proofs.YtipligidnoajfaaDoor
open Go.RowKit Go.Maps

def lineH (o : ItemR) (os : List HeldR) : List UInt8 := if o.dir = true then o.path ++ [47] else o.path ++ 32 :: decs (loadAll o.ids os).length
def textH (o : ItemR) (os : List HeldR) : List UInt8 := if storeOk os = true ∧ itemOk o = true ∧ idsOk o.ids os = true then lineH o os else []

theorem idsOk_nil (os : List HeldR) : idsOk [] os = true := by simp [idsOk, idsFrom]
theorem item_dir {o : ItemR} (h : itemOk o = true) (hd : o.dir = true) : o.ids = [] := by
  have h2 : (!o.dir || o.ids.isEmpty) = true := by
    simp only [itemOk, Bool.and_eq_true] at h
    exact h.1.2
  rw [hd] at h2
  simpa using h2
theorem text_len {o : ItemR} {os : List HeldR} (hi : idsOk o.ids os = true) : (loadAll o.ids os).length ≤ 32 := by
  have h := loadAll_len (os := os) o.ids
  have h2 : o.ids.length ≤ 4 := by
    simp only [idsOk, Bool.and_eq_true, decide_eq_true_eq] at hi
    exact hi.1
  omega

set_option maxRecDepth 4000 in
set_option maxHeartbeats 1000000 in
theorem implSizeOf {S T : Nat → Prop} (b n : Nat) (ps : List HP) (u : Value) (ids : List Int) (w : World) (h : Store S w b n ps) (g : Ints T w u ids) (hok : storeOk (ps.map Prod.fst) = true) (hi : idsOk ids (ps.map Prod.fst) = true) :
    Calls Tryd.prog 45 #[.map (some b), u] w fun e w' => e = .returned (.int .i64 (loadAll ids (ps.map Prod.fst)).length) ∧ w = w' := by
  have hst := h
  have Hst := Lib.hid hst
  have hfit := g.fits
  have Hfit := Lib.hid hfit
  have hgn := g
  have Hgn := Lib.hid hgn
  obtain ⟨au, cu, rfl, g1, ⟨g2, -⟩, -, -⟩ := g
  unfold maxLen at g2
  have hi2 : ids.length ≤ 4 ∧ idsFrom ids (ps.map Prod.fst) = true := by simpa [idsOk] using hi
  have hil := hi2.1
  have hall := idsFrom_all hi2.2
  have Hall := Lib.hid hall
  have hlen := fun k => loadAll_len (os := ps.map Prod.fst) (ids.take k)
  have Hlen := Lib.hid hlen
  have Hok := Lib.hid hok
  clear hi hi2 hall hlen hok hst hfit hgn h
  go_enter Tryd.func45, Tryd.ntmps45
  go_wp2_with fail
  go_loopg [5, 10] ids.length (fun gk v i wr => ∃ k : Nat, gk = ids.length - k ∧ k ≤ ids.length ∧ i = .int .i64 k ∧ w = wr ∧ v = .int .i64 (loadAll (ids.take k) (ps.map Prod.fst)).length)
  case atStart => exact ⟨0, rfl, Nat.zero_le _, rfl, rfl, by simp [loadAll]⟩
  case round =>
    obtain ⟨k, hgk, hk, rfl, rfl, rfl⟩ := hrel
    have Hgk := Lib.hid hgk
    clear hgk
    by_cases hlt : k < ids.length
    · obtain ⟨x, hx⟩ := get_of hlt
      have hx64 := Hfit.out x (List.mem_of_getElem? hx)
      obtain ⟨b', off, rfl, kx⟩ := Ints.cellAt Hgn.out hx
      have htk := loadAll_take (os := ps.map Prod.fst) hx
      have hlook := Hst.out.look1 hx64
      obtain ⟨bb, hb⟩ := Hall.out x (List.mem_of_getElem? hx)
      have hl8 := (blockOk_len (getH_ok hb).1).2
      have hlk := Hlen.out k
      rcases Hst.out.getH Hok.out x with ⟨-, hg⟩ | ⟨p, ap, cp, ha, hg, hp2, hpi, hm⟩
      · rw [hg] at hb; simp at hb
      rw [hg] at hb htk
      obtain rfl := Option.some.inj hb
      rw [ha] at hlook
      simp only [HP.val, hp2] at hlook
      have Htk := Lib.hid htk
      have hfld : (Instr.field 47 (.agg #[.int .i64 p.1.id, .slice ap p.1.bytes.length cp, .int .i64 p.1.uses]) 1).run Tryd.prog w = .ok (.slice ap p.1.bytes.length cp) w := by kernel_rfl
      have hkl : (ids.take k).length = k := by simp; omega
      rw [hkl] at hlk
      clear hx htk hb hg ha hp2 hpi hm hkl
      generalize loadAll (ids.take k) (ps.map Prod.fst) = acc at *
      go_wp2_with fail
      go_roundg (ids.length - (k + 1))
      case measure => rw [Hgk.out]; omega
      case rel => exact ⟨k + 1, rfl, by omega, by go_num, rfl, by rw [Htk.out, List.length_append]; go_num⟩
    · have ek : ids.take k = ids := List.take_of_length_le (by omega)
      rw [ek]
      go_wp2_with fail
      go_ret
      exact ⟨rfl, rfl⟩

set_option maxRecDepth 4000 in
set_option maxHeartbeats 1000000 in
theorem implText {S T : Nat → Prop} (b n : Nat) (ps : List HP) (o : ItemR) (u : Value) (w : World) (h : Store S w b n ps) (g : Ints T w u o.ids) (hp : o.path.length ≤ 1048576) (hok : storeOk (ps.map Prod.fst) = true) (hio : itemOk o = true) :
    Calls Tryd.prog 24 #[.map (some b), .agg #[txt o.path, .bool o.dir, u]] w fun e w' => e = .returned (txt (if idsOk o.ids (ps.map Prod.fst) = true then lineH o (ps.map Prod.fst) else [])) ∧ New w w' := by
  have hids := fun (W : World) (nw : New w W) => implFileIds b n ps u o.ids W (h.new nw) (g.new nw) hok
  have hsz := fun (W : World) (nw : New w W) => implSizeOf b n ps u o.ids W (h.new nw) (g.new nw) hok
  have hlen := text_len (o := o) (os := ps.map Prod.fst)
  have hdir := item_dir hio
  obtain ⟨l, d, xs⟩ := o
  simp only at hids hsz hlen hdir g hp ⊢
  unfold lineH
  simp only
  obtain ⟨a, c, rfl, g1, ⟨g2, -⟩, -, -⟩ := g
  unfold maxLen at g2
  have n0 : New w (w.alloc (.cells #[.string ⟨l.toArray⟩, .bool d, .slice a xs.length c] 31)) := (New.refl w).alloc _
  have k0 : (w.alloc (.cells #[.string ⟨l.toArray⟩, .bool d, .slice a xs.length c] 31)).cell? ⟨w.heap.size, 0, none⟩ = some (.string ⟨l.toArray⟩) := by rw [cell_alloc]; rfl
  have k1 : (w.alloc (.cells #[.string ⟨l.toArray⟩, .bool d, .slice a xs.length c] 31)).cell? ⟨w.heap.size, 1, none⟩ = some (.bool d) := by rw [cell_alloc]; rfl
  have k2 : (w.alloc (.cells #[.string ⟨l.toArray⟩, .bool d, .slice a xs.length c] 31)).cell? ⟨w.heap.size, 2, none⟩ = some (.slice a xs.length c) := by rw [cell_alloc]; rfl
  have N0 := Lib.hid n0
  have hc1 : ∀ W : World, (binOp .add 9 (.string ⟨l.toArray⟩) (.string ⟨#[47]⟩)).run Tryd.prog W = .ok (txt (l ++ [47])) W := fun W => txtAdd l [47] (by omega) (by simp) W
  have Hc1 := Lib.hid hc1
  clear hc1 n0
  rcases d with _ | _
  · rcases hi : idsOk xs (ps.map Prod.fst) with _ | _
    · simp only [hi] at hids
      have Hids := Lib.hid hids
      simp only [Bool.false_eq_true, if_false]
      unfold txt
      clear hids hsz hlen hdir hi
      go_enter Tryd.func24, Tryd.ntmps24
      go_wp2_with fail
      refine (Hids.out _ N0.out).mono ?_
      rintro e w1 ⟨rfl, n1⟩
      have n2 := N0.out.trans n1
      go_wp2_with fail
      go_ret
      exact ⟨rfl, n2⟩
    · simp only [hi] at hids hsz hlen
      have hN := hlen trivial
      have Hids := Lib.hid hids
      have Hsz := Lib.hid hsz
      simp only [Bool.false_eq_true, if_false, if_true]
      generalize (loadAll xs (ps.map Prod.fst)).length = N at *
      have hc3 : ∀ W : World, (binOp .add 9 (.string ((⟨l.toArray⟩ : ByteArray) ++ (⟨#[32]⟩ : ByteArray))) (txt (decs N))).run Tryd.prog W = .ok (txt (l ++ 32 :: decs N)) W := fun W => by
        have hd : ∀ n, n ≤ 40 → (decs n).length ≤ 8388608 := by decide +kernel
        have h := txtAdd (l ++ [32]) (decs N) (by simp; omega) (hd N (by omega)) W
        have e : (⟨l.toArray⟩ : ByteArray) ++ (⟨#[32]⟩ : ByteArray) = ⟨(l ++ [32]).toArray⟩ := by
          apply ByteArray.ext
          simp
        rw [e]
        rw [show l ++ 32 :: decs N = (l ++ [32]) ++ decs N from by simp]
        exact h
      have Hc3 := Lib.hid hc3
      have hit := fun (W : World) => itoaIs N (by omega) W
      have Hit := Lib.hid hit
      clear hids hsz hlen hdir hi hc3 hit
      unfold txt
      go_enter Tryd.func24, Tryd.ntmps24
      go_wp2_with fail
      refine (Hids.out _ N0.out).mono ?_
      rintro e w1 ⟨rfl, n1⟩
      have n2 := N0.out.trans n1
      have m0 := n1.cell k0
      have m1 := n1.cell k1
      have m2 := n1.cell k2
      clear k0 k1 k2
      have hc3 := Hc3.out
      go_wp2
      have hsum : ¬ (9223372036854775807 < l.length + 1) := by omega
      go_region_held3 (fun w' => w'.cell? ⟨w.heap.size, 0, none⟩ = some (.string ⟨l.toArray⟩) ∧ w'.cell? ⟨w.heap.size, 2, none⟩ = some (.slice a xs.length c)) (first | exact ⟨m0, m2⟩)
        (first
          | (go_at_call 45; refine (Hsz.out _ n2.drew trivial).mono ?_; rintro e w3 ⟨rfl, rfl⟩)
          | (go_at_call 44; refine (Hit.out _).mono ?_; rintro e w3 ⟨rfl, rfl⟩))
      all_goals (go_wp2; go_ret; exact ⟨rfl, n2.drew⟩)
  · have hx := hdir rfl
    subst hx
    rw [if_pos (idsOk_nil _)]
    simp only [if_true]
    unfold txt at Hc1
    unfold txt
    have hc1 := Hc1.out
    clear hids hsz hlen hdir
    go_enter Tryd.func24, Tryd.ntmps24
    go_wp2_with fail
    go_ret
    exact ⟨rfl, N0.out⟩

set_option maxRecDepth 4000 in
set_option maxHeartbeats 1000000 in
theorem implItemText {S T : Nat → Prop} (v : Value) (os : List HeldR) (o : ItemR) (u : Value) (w : World) (h : Helds S w v os) (g : Ints T w u o.ids) (hp : o.path.length ≤ 1048576) :
    Calls Tryd.prog 10 #[v, .agg #[txt o.path, .bool o.dir, u]] w fun e w' => e = .returned (txt (textH o os)) ∧ New w w' := by
  have hop := fun (W : World) (nw : New w W) => openStore v os W (Recs.new h nw)
  have hit := fun (W : World) (nw : New w W) => implItem o u W (g.new nw) hp
  have htx := fun (W : World) (nw : New w W) (S' : Nat → Prop) b n ps (st : Store S' W b n ps) hok hio => implText b n ps o u W st (g.new nw) hp hok hio
  have Htx := Lib.hid htx
  obtain ⟨-, av, cv, rfl, -, hv2, -⟩ := h
  unfold maxLen at hv2
  obtain ⟨l, d, xs⟩ := o
  simp only at hop hit g hp htx Htx ⊢
  obtain ⟨a, c, rfl, g1, ⟨g2, -⟩, -, -⟩ := g
  unfold maxLen at g2
  unfold textH
  simp only
  have n0 : New w (w.alloc (.cells #[.string ⟨l.toArray⟩, .bool d, .slice a xs.length c] 31)) := (New.refl w).alloc _
  have k0 : (w.alloc (.cells #[.string ⟨l.toArray⟩, .bool d, .slice a xs.length c] 31)).cell? ⟨w.heap.size, 0, none⟩ = some (.string ⟨l.toArray⟩) := by rw [cell_alloc]; rfl
  have k1 : (w.alloc (.cells #[.string ⟨l.toArray⟩, .bool d, .slice a xs.length c] 31)).cell? ⟨w.heap.size, 1, none⟩ = some (.bool d) := by rw [cell_alloc]; rfl
  have k2 : (w.alloc (.cells #[.string ⟨l.toArray⟩, .bool d, .slice a xs.length c] 31)).cell? ⟨w.heap.size, 2, none⟩ = some (.slice a xs.length c) := by rw [cell_alloc]; rfl
  have N0 := Lib.hid n0
  have Hop := Lib.hid (hop _ n0)
  have Hit := Lib.hid hit
  clear hop hit htx n0
  unfold txt at Hit Htx ⊢
  by_cases hok : storeOk os = true
  · rcases hi : itemOk ⟨l, d, xs⟩ with _ | _
    · have hr : ¬ (storeOk os = true ∧ false = true ∧ idsOk xs os = true) := by simp
      rw [if_neg hr]
      rw [hi] at Hit
      clear hi hr
      go_enter Tryd.func10, Tryd.ntmps10
      go_wp2_with fail
      refine Hop.out.mono ?_
      intro e w1 hpost
      rw [OpenPost, if_pos hok] at hpost
      obtain ⟨b, ps, rfl, st, rfl, n1⟩ := hpost
      have m0 := n1.cell k0
      have m1 := n1.cell k1
      have m2 := n1.cell k2
      have n2 := N0.out.trans n1
      clear k0 k1 k2 st
      go_wp2_with fail
      refine (Hit.out _ n2).mono ?_
      rintro e w3 ⟨rfl, n3⟩
      have n4 := n2.trans n3
      go_wp2_with fail
      go_ret
      exact ⟨rfl, n4⟩
    · rw [hi] at Hit
      have hr : (if storeOk os = true ∧ true = true ∧ idsOk xs os = true then lineH ⟨l, d, xs⟩ os else []) = (if idsOk xs os = true then lineH ⟨l, d, xs⟩ os else []) := by simp [hok]
      rw [hr]
      clear hr
      go_enter Tryd.func10, Tryd.ntmps10
      go_wp2_with fail
      refine Hop.out.mono ?_
      intro e w1 hpost
      rw [OpenPost, if_pos hok] at hpost
      obtain ⟨b, ps, rfl, st, rfl, n1⟩ := hpost
      have m0 := n1.cell k0
      have m1 := n1.cell k1
      have m2 := n1.cell k2
      have n2 := N0.out.trans n1
      have St := Lib.hid st
      clear k0 k1 k2 st
      go_wp2_with fail
      refine (Hit.out _ n2).mono ?_
      rintro e w3 ⟨rfl, n3⟩
      have n4 := n2.trans n3
      have p0 := n3.cell m0
      have p1 := n3.cell m1
      have p2 := n3.cell m2
      have tx := Htx.out w3 n4 _ b _ ps (St.out.new n3) hok hi
      have Tx := Lib.hid tx
      clear tx hi hok
      go_wp2_with fail
      refine Tx.out.mono ?_
      rintro e w5 ⟨rfl, n5⟩
      go_wp2_with fail
      all_goals (go_ret; exact ⟨rfl, n4.trans n5⟩)
  · have hno : storeOk os = false := by simpa using hok
    rw [if_neg (fun h => hok h.1)]
    have Hno := Lib.hid hno
    clear hno hok
    go_enter Tryd.func10, Tryd.ntmps10
    go_wp2_with fail
    refine Hop.out.mono ?_
    intro e w1 hpost
    rw [OpenPost, if_neg (by rw [Hno.out]; simp)] at hpost
    obtain ⟨rfl, n1⟩ := hpost
    go_wp2_with fail
    all_goals (go_ret; exact ⟨rfl, N0.out.trans n1⟩)

set_option maxRecDepth 4000 in
set_option maxHeartbeats 1000000 in
theorem specLine {S T : Nat → Prop} (v : Value) (os : List HeldR) (o : ItemR) (u : Value) (w : World) (h : Helds S w v os) (g : Ints T w u o.ids) (hp : o.path.length ≤ 1048576) (hs : storeOk os = true) (hi : idsOk o.ids os = true) :
    Calls Tryd.prog 19 #[v, .agg #[txt o.path, .bool o.dir, u]] w fun e w' => e = .returned (txt (lineH o os)) ∧ New w w' := by
  have hload := fun (W : World) (n : New w W) => specLoad v u os o.ids W (Recs.new h n) (g.new n) hs hi
  have hlen := text_len hi
  obtain ⟨-, av, cv, rfl, -, hv2, -⟩ := h
  unfold maxLen at hv2
  obtain ⟨l, d, xs⟩ := o
  simp only at hload hlen g hp ⊢
  obtain ⟨a, c, rfl, g1, ⟨g2, -⟩, -, -⟩ := g
  unfold maxLen at g2
  unfold lineH
  simp only
  have n0 : New w (w.alloc (.cells #[.string ⟨l.toArray⟩, .bool d, .slice a xs.length c] 31)) := (New.refl w).alloc _
  have k0 : (w.alloc (.cells #[.string ⟨l.toArray⟩, .bool d, .slice a xs.length c] 31)).cell? ⟨w.heap.size, 0, none⟩ = some (.string ⟨l.toArray⟩) := by rw [cell_alloc]; rfl
  have k2 : (w.alloc (.cells #[.string ⟨l.toArray⟩, .bool d, .slice a xs.length c] 31)).cell? ⟨w.heap.size, 2, none⟩ = some (.slice a xs.length c) := by rw [cell_alloc]; rfl
  rcases d with _ | _
  · simp only [Bool.false_eq_true, if_false]
    have Hload := Lib.hid hload
    generalize hL : loadAll xs os = L at *
    have hc3 : ∀ W : World, (binOp .add 9 (.string ((⟨l.toArray⟩ : ByteArray) ++ (⟨#[32]⟩ : ByteArray))) (txt (decs L.length))).run Tryd.prog W = .ok (txt (l ++ 32 :: decs L.length)) W := fun W => by
      have hd : ∀ n, n ≤ 40 → (decs n).length ≤ 8388608 := by decide +kernel
      have h := txtAdd (l ++ [32]) (decs L.length) (by simp; omega) (hd L.length (by omega)) W
      have e : (⟨l.toArray⟩ : ByteArray) ++ (⟨#[32]⟩ : ByteArray) = ⟨(l ++ [32]).toArray⟩ := by
        apply ByteArray.ext
        simp
      rw [e]
      rw [show l ++ 32 :: decs L.length = (l ++ [32]) ++ decs L.length from by simp]
      exact h
    have hdec := fun (W : World) => decIs L.length (by omega) W
    have Hdec := Lib.hid hdec
    unfold txt
    clear hload hdec hi hL
    go_enter Tryd.func19, Tryd.ntmps19
    go_wp2_with fail
    generalize w.alloc (.cells #[.string ⟨l.toArray⟩, .bool false, .slice a xs.length c] 31) = wb at *
    generalize w.heap.size = g at *
    have hsum : ¬ (9223372036854775807 < l.length + 1) := by omega
    go_region_held3 (fun w' => w'.cell? ⟨g, 0, none⟩ = some (.string ⟨l.toArray⟩) ∧ w'.cell? ⟨g, 2, none⟩ = some (.slice a xs.length c)) (first | exact ⟨k0, k2⟩ | exact ⟨n3.cell k0, n3.cell k2⟩ | exact ⟨n5.cell (n3.cell k0), n5.cell (n3.cell k2)⟩)
      (first
        | (go_at_call 39; refine (Hload.out _ n0.drew).mono ?_; rintro e w3 ⟨t, rfl, o3, n3⟩; obtain ⟨at3, ct3, rfl, -, -⟩ := o3.shape)
        | (go_at_call 38; refine (Hdec.out _).mono ?_; rintro e w5 ⟨rfl, n5⟩))
    all_goals (go_wp2; go_ret; exact ⟨rfl, (n0.drew.trans n3).trans n5⟩)
  · simp only [if_true]
    unfold txt
    clear hload hlen hi hs
    go_enter Tryd.func19, Tryd.ntmps19
    go_wp2_with fail
    go_ret
    exact ⟨rfl, n0⟩

set_option maxRecDepth 4000 in
set_option maxHeartbeats 1000000 in
theorem specItemText {S T : Nat → Prop} (v : Value) (os : List HeldR) (o : ItemR) (u : Value) (w : World) (h : Helds S w v os) (g : Ints T w u o.ids) (hp : o.path.length ≤ 1048576) :
    Calls Tryd.prog 7 #[v, .agg #[txt o.path, .bool o.dir, u]] w fun e w' => e = .returned (txt (textH o os)) ∧ New w w' := by
  have hok := fun (W : World) (nw : New w W) => specStoreValid v os W (Recs.new h nw)
  have hit := fun (W : World) (nw : New w W) => specItem o u W (g.new nw) hp
  have hids := fun (W : World) (n : New w W) hs => specIds v u os o.ids W (Recs.new h n) (g.new n) hs
  have htx := fun (W : World) (nw : New w W) hs hi => specLine v os o u W (Recs.new h nw) (g.new nw) hp hs hi
  obtain ⟨-, av, cv, rfl, -, hv2, -⟩ := h
  unfold maxLen at hv2
  obtain ⟨l, d, xs⟩ := o
  simp only at hok hit hids g hp htx ⊢
  obtain ⟨a, c, rfl, g1, ⟨g2, -⟩, -, -⟩ := g
  unfold maxLen at g2
  unfold textH
  simp only
  have n0 : New w (w.alloc (.cells #[.string ⟨l.toArray⟩, .bool d, .slice a xs.length c] 31)) := (New.refl w).alloc _
  have k0 : (w.alloc (.cells #[.string ⟨l.toArray⟩, .bool d, .slice a xs.length c] 31)).cell? ⟨w.heap.size, 0, none⟩ = some (.string ⟨l.toArray⟩) := by rw [cell_alloc]; rfl
  have k1 : (w.alloc (.cells #[.string ⟨l.toArray⟩, .bool d, .slice a xs.length c] 31)).cell? ⟨w.heap.size, 1, none⟩ = some (.bool d) := by rw [cell_alloc]; rfl
  have k2 : (w.alloc (.cells #[.string ⟨l.toArray⟩, .bool d, .slice a xs.length c] 31)).cell? ⟨w.heap.size, 2, none⟩ = some (.slice a xs.length c) := by rw [cell_alloc]; rfl
  have N0 := Lib.hid n0
  have Hok := Lib.hid (hok _ n0)
  have Hit := Lib.hid hit
  have Hids := Lib.hid hids
  have Htx := Lib.hid htx
  clear hok hit n0 hids htx
  unfold txt at Hit Htx ⊢
  rcases hs : storeOk os with _ | _
  · rw [if_neg (by simp)]
    rw [hs] at Hok
    clear hs
    go_enter Tryd.func7, Tryd.ntmps7
    go_wp2_with fail
    refine Hok.out.mono ?_
    rintro e w1 ⟨rfl, n1⟩
    go_wp2_with fail
    all_goals (go_ret; exact ⟨rfl, N0.out.trans n1⟩)
  · rw [hs] at Hok
    rcases hi : itemOk ⟨l, d, xs⟩ with _ | _
    · rw [if_neg (by simp)]
      rw [hi] at Hit
      clear hs hi
      go_enter Tryd.func7, Tryd.ntmps7
      go_wp2_with fail
      refine Hok.out.mono ?_
      rintro e w1 ⟨rfl, n1⟩
      have m0 := n1.cell k0
      have m1 := n1.cell k1
      have m2 := n1.cell k2
      have n2 := N0.out.trans n1
      clear k0 k1 k2
      go_wp2_with fail
      refine (Hit.out _ n2).mono ?_
      rintro e w3 ⟨rfl, n3⟩
      have n4 := n2.trans n3
      go_wp2_with fail
      all_goals (go_ret; exact ⟨rfl, n4⟩)
    · rw [hi] at Hit
      rcases hd : idsOk xs os with _ | _
      · rw [if_neg (by simp)]
        simp only [hd] at Hids
        have hids := fun (W : World) nw => Hids.out W nw hs
        have Hid2 := Lib.hid hids
        clear hs hi hd hids
        go_enter Tryd.func7, Tryd.ntmps7
        go_wp2_with fail
        refine Hok.out.mono ?_
        rintro e w1 ⟨rfl, n1⟩
        have m0 := n1.cell k0
        have m1 := n1.cell k1
        have m2 := n1.cell k2
        have n2 := N0.out.trans n1
        clear k0 k1 k2
        go_wp2_with fail
        refine (Hit.out _ n2).mono ?_
        rintro e w3 ⟨rfl, n3⟩
        have n4 := n2.trans n3
        have p2 := n3.cell m2
        go_wp2_with fail
        refine (Hid2.out _ n4).mono ?_
        rintro e w4 ⟨rfl, rfl⟩
        go_wp2_with fail
        all_goals (go_ret; exact ⟨rfl, n4⟩)
      · rw [if_pos (by simp)]
        simp only [hd] at Hids
        have hids := fun (W : World) nw => Hids.out W nw hs
        have Hid2 := Lib.hid hids
        have htx := fun (W : World) nw => Htx.out W nw hs hd
        have Htx2 := Lib.hid htx
        clear hs hi hd hids htx
        go_enter Tryd.func7, Tryd.ntmps7
        go_wp2_with fail
        refine Hok.out.mono ?_
        rintro e w1 ⟨rfl, n1⟩
        have m0 := n1.cell k0
        have m1 := n1.cell k1
        have m2 := n1.cell k2
        have n2 := N0.out.trans n1
        clear k0 k1 k2
        go_wp2_with fail
        refine (Hit.out _ n2).mono ?_
        rintro e w3 ⟨rfl, n3⟩
        have n4 := n2.trans n3
        have p0 := n3.cell m0
        have p1 := n3.cell m1
        have p2 := n3.cell m2
        go_wp2_with fail
        refine (Hid2.out _ n4).mono ?_
        rintro e w4 ⟨rfl, rfl⟩
        go_wp2_with fail
        refine (Htx2.out _ n4).mono ?_
        rintro e w5 ⟨rfl, n5⟩
        go_wp2_with fail
        go_ret
        exact ⟨rfl, n4.trans n5⟩
end Go.Proofs.YtipligidnoajfaaDoor
