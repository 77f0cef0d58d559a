/- Several texts in one. -/
import Derived.Test.YtkffejommncinaaDoorBaseA
import Derived.Sort.Walk0
import Derived.Test.YtkffejommncinaaDoorItemsA
import Derived.Test.YtkffejommncinaaDoorTextsA
import Derived.Deep.LoopGhost
/- The order of texts: cmp.Compare. -/
namespace Go.Proofs.YtkffejommncinaaDoor
open Go.RowKit

def sLt (a b : List UInt8) : Bool := decide (a < b)
theorem less_is (a b : List UInt8) : Op.bytesLess a b = sLt a b := bytesLess_eq a b
def sCmp (a b : List UInt8) : Int := if sLt a b = true then -1 else if a = b then 0 else 1
theorem sLt_irrefl (a : List UInt8) : sLt a a = false := by simp [sLt, List.lt_irrefl]
theorem sLt_trans {a b c : List UInt8} (h : sLt a b = true) (g : sLt b c = true) : sLt a c = true := by
  simp only [sLt, decide_eq_true_eq] at *
  exact List.lt_trans h g
theorem sLt_total {a b : List UInt8} (h : sLt a b = false) (g : sLt b a = false) : a = b := by
  simp only [sLt, decide_eq_false_iff_not, List.not_lt] at *
  exact List.le_antisymm g h
theorem sCmp_bd (a b : List UInt8) : -1 ≤ sCmp a b ∧ sCmp a b ≤ 1 := by unfold sCmp; split <;> (try split) <;> omega
theorem sCmp_neg (a b : List UInt8) : decide (sCmp a b < 0) = sLt a b := by
  unfold sCmp
  rcases h : sLt a b with _ | _
  · simp; split <;> omega
  · simp
theorem sCmp_zero {a b : List UInt8} : sCmp a b = 0 ↔ a = b := by
  unfold sCmp
  constructor
  · intro h
    split at h
    · omega
    · split at h
      · assumption
      · omega
  · rintro rfl
    simp [sLt_irrefl]

set_option maxRecDepth 4000 in
set_option maxHeartbeats 400000 in
theorem nanStr (a : ByteArray) (w : World) :
    Calls Tryd.prog 100 #[.string a] w fun e w' => e = .returned (.bool false) ∧ w = w' := by
  go_enter Tryd.func100, Tryd.ntmps100
  go_wp2_with fail
  go_ret
  exact ⟨ret_bool (by simp), rfl⟩

set_option maxRecDepth 4000 in
set_option maxHeartbeats 400000 in
theorem cmpStr (a b : List UInt8) (w : World) :
    Calls Tryd.prog 91 #[.string ⟨a.toArray⟩, .string ⟨b.toArray⟩] w fun e w' => e = .returned (.int .i64 (sCmp a b)) ∧ w = w' := by
  have Hn := Lib.hid nanStr
  rcases h : sLt a b with _ | _
  · by_cases he : a = b
    · have hr : sCmp a b = 0 := sCmp_zero.2 he
      rw [hr]
      subst he
      have h1 : Op.bytesLess a a = false := by rw [less_is]; exact h
      clear hr h
      go_enter Tryd.func91, Tryd.ntmps91
      go_wp2_with (go_at_call 100; refine (Hn.out _ _).mono ?_; rintro e w1 ⟨rfl, rfl⟩)
      go_ret
      exact ⟨rfl, rfl⟩
    · have hr : sCmp a b = 1 := by simp [sCmp, h, he]
      rw [hr]
      have h1 : Op.bytesLess a b = false := by rw [less_is]; exact h
      have h2 : (a == b) = false := by simp [he]
      clear hr h he
      go_enter Tryd.func91, Tryd.ntmps91
      go_wp2_with (go_at_call 100; refine (Hn.out _ _).mono ?_; rintro e w1 ⟨rfl, rfl⟩)
      go_ret
      exact ⟨rfl, rfl⟩
  · have hr : sCmp a b = -1 := by simp [sCmp, h]
    rw [hr]
    have h1 : Op.bytesLess a b = true := by rw [less_is]; exact h
    clear hr h
    go_enter Tryd.func91, Tryd.ntmps91
    go_wp2_with (go_at_call 100; refine (Hn.out _ _).mono ?_; rintro e w1 ⟨rfl, rfl⟩)
    go_ret
    exact ⟨rfl, rfl⟩
end Go.Proofs.YtkffejommncinaaDoor

/- Trees, plain: when a list of items is a tree; its nodes by their keys. No program in sight. -/
namespace Go.Proofs.YtkffejommncinaaDoor
open Go.RowKit

abbrev Key := List (List UInt8)
/-- the text of parts -/
def joinS : Key → List UInt8
  | [] => []
  | [a] => a
  | a :: b :: r => a ++ 47 :: joinS (b :: r)
theorem join_cutGo : ∀ (l cur : List UInt8), joinS (cutGo cur l) = cur ++ l
  | [], cur => by simp [cutGo, joinS]
  | c :: r, cur => by
    rw [cutGo]
    split
    · rename_i h
      subst h
      have ih := join_cutGo r []
      rcases hg : cutGo [] r with _ | ⟨x, xs⟩
      · exact absurd hg (cutGo_ne _ _)
      · rw [hg] at ih
        rw [joinS, ih]; simp
    · rw [join_cutGo r]; simp
theorem join_cut (l : List UInt8) : joinS (cutS l) = l := by unfold cutS; rw [join_cutGo]; rfl
theorem cutS_inj {l m : List UInt8} (h : cutS l = cutS m) : l = m := by rw [← join_cut l, ← join_cut m, h]
theorem cutS_ne (l : List UInt8) : cutS l ≠ [] := cutGo_ne [] l

theorem pathOk_ne {l : List UInt8} (h : pathOk l = true) : l ≠ [] := by
  rintro rfl
  simp [pathOk, cutS, cutGo, wordOk] at h
theorem pathOk_word {l : List UInt8} (h : pathOk l = true) {x : List UInt8} (hx : x ∈ cutS l) : wordOk x = true := by
  simp only [pathOk, Bool.and_eq_true] at h
  exact List.all_eq_true.1 h.2 x hx
theorem wordOk_len {x : List UInt8} (h : wordOk x = true) : x.length ≤ 5 ∧ x ≠ [] := by
  simp only [wordOk, Bool.and_eq_true, decide_eq_true_eq] at h
  refine ⟨h.1.2, ?_⟩
  rintro rfl
  simp at h
/-- a path and its parent -/
theorem parent_cases {l : List UInt8} (h : pathOk l = true) :
    (parentOf l = [] ∧ cutS l = [l]) ∨ (∃ n, parentOf l ≠ [] ∧ pathOk (parentOf l) = true ∧ l = parentOf l ++ 47 :: n ∧ cutS l = cutS (parentOf l) ++ [n]) := by
  have hbd := lastOf_bd l
  by_cases hm1 : lastOf l = -1
  · obtain ⟨e1, e2⟩ := parent_none hm1
    refine .inl ⟨e1, ?_⟩
    unfold cutS
    rw [cutGo_none _ _ e2]; rfl
  · obtain ⟨m, hm⟩ : ∃ m : Nat, lastOf l = m := ⟨(lastOf l).toNat, by omega⟩
    obtain ⟨e1, e2, e3⟩ := parent_some hm
    have hcut : cutS l = cutS (l.take m) ++ [l.drop (m + 1)] := by
      unfold cutS
      conv => lhs; rw [e3]
      exact cutGo_last _ _ _ e2
    have hx : pathOk (l.take m) = true := by
      unfold pathOk at h ⊢
      rw [hcut] at h
      simp only [List.length_append, List.length_singleton, List.all_append, Bool.and_eq_true, decide_eq_true_eq] at h ⊢
      exact ⟨by omega, h.2.1⟩
    exact .inr ⟨l.drop (m + 1), by rw [e1]; exact pathOk_ne hx, by rw [e1]; exact hx, by rw [e1]; exact e3, by rw [e1]; exact hcut⟩

theorem sLt_iff {a b : List UInt8} : sLt a b = true ↔ a < b := by simp [sLt]
theorem sLt_append (p a b : List UInt8) : sLt (p ++ a) (p ++ b) = sLt a b := by
  induction p with
  | nil => rfl
  | cons c r ih =>
    unfold sLt at ih ⊢
    rw [decide_eq_decide] at ih ⊢
    rw [List.cons_append, List.cons_append, List.cons_lt_cons_iff]
    simp [UInt8.lt_irrefl, ih]
theorem sLt_prefix (p : List UInt8) (c : UInt8) (n : List UInt8) : sLt p (p ++ c :: n) = true := by
  have h := sLt_append p [] (c :: n)
  rw [List.append_nil] at h
  rw [h]; simp [sLt]
theorem sLt_nil {l : List UInt8} (h : l ≠ []) : sLt [] l = true := by
  rcases l with _ | ⟨c, n⟩
  · exact absurd rfl h
  · simp [sLt]
theorem sLt_ne {a b : List UInt8} (h : sLt a b = true) : a ≠ b := by
  rintro rfl
  rw [sLt_irrefl] at h; cases h
theorem parent_lt {l : List UInt8} (h : pathOk l = true) : sLt (parentOf l) l = true := by
  rcases parent_cases h with ⟨e, _⟩ | ⟨n, _, _, e, _⟩
  · rw [e]; exact sLt_nil (pathOk_ne h)
  · conv => arg 1; rw [e]
    exact (by rw [show sLt (parentOf l) l = sLt (parentOf l) (parentOf l ++ 47 :: n) from by conv => lhs; arg 2; rw [e]]; exact sLt_prefix _ _ _ : sLt (parentOf l) l = true) |> fun h => by rw [← e]; exact h

/-! ### lists of items that are trees -/
def findI (os : List ItemR) (p : List UInt8) : Option ItemR := os.find? fun o => o.path == p
def homeS (os : List ItemR) (p : List UInt8) : Bool := (parentOf p).isEmpty || ((findI os (parentOf p)).map (·.dir)).getD false
def prevOk (prev : Option (List UInt8)) (p : List UInt8) : Bool := match prev with | none => true | some q => sLt q p
/-- as the reference goes through a list -/
def specGo (all : List ItemR) (prev : Option (List UInt8)) : List ItemR → Bool
  | [] => true
  | x :: r => itemOk x && (prevOk prev x.path && (homeS all x.path && specGo all (some x.path) r))
def treeOk (os : List ItemR) : Bool := specGo os none os && decide (os.length ≤ 12)
/-- as the program goes through it -/
def openGo (last : List UInt8) (pre : List ItemR) : List ItemR → Bool
  | [] => true
  | x :: r => sLt last x.path && (itemOk x && (homeS pre x.path && openGo x.path (pre ++ [x]) r))

def Asc (os : List ItemR) : Prop := os.Pairwise fun a b => sLt a.path b.path = true
theorem spec_asc (all : List ItemR) : ∀ (r : List ItemR) (p : List UInt8), specGo all (some p) r = true → (∀ x ∈ r, sLt p x.path = true) ∧ Asc r
  | [], _, _ => ⟨by simp, List.Pairwise.nil⟩
  | x :: r, p, h => by
    simp only [specGo, prevOk, Bool.and_eq_true] at h
    obtain ⟨h1, h2⟩ := spec_asc all r x.path h.2.2.2
    refine ⟨fun y hy => ?_, List.Pairwise.cons h1 h2⟩
    rcases List.mem_cons.1 hy with rfl | hy
    · exact h.2.1
    · exact sLt_trans h.2.1 (h1 y hy)
theorem open_asc : ∀ (r pre : List ItemR) (p : List UInt8), openGo p pre r = true → (∀ x ∈ r, sLt p x.path = true) ∧ Asc r
  | [], _, _, _ => ⟨by simp, List.Pairwise.nil⟩
  | x :: r, pre, p, h => by
    simp only [openGo, Bool.and_eq_true] at h
    obtain ⟨h1, h2⟩ := open_asc r _ x.path h.2.2.2
    refine ⟨fun y hy => ?_, List.Pairwise.cons h1 h2⟩
    rcases List.mem_cons.1 hy with rfl | hy
    · exact h.1
    · exact sLt_trans h.1 (h1 y hy)
theorem itemOk_path {o : ItemR} (h : itemOk o = true) : pathOk o.path = true := by
  simp only [itemOk, Bool.and_eq_true] at h
  exact h.1.1.1
theorem home_later {pre r : List ItemR} {p : List UInt8} (h : pathOk p = true) (hr : ∀ y ∈ r, y.path = p ∨ sLt p y.path = true) : homeS (pre ++ r) p = homeS pre p := by
  unfold homeS findI
  rw [List.find?_append]
  have hn : r.find? (fun o => o.path == parentOf p) = none := by
    rw [List.find?_eq_none]
    intro y hy he
    have hlt := parent_lt h
    simp only [beq_iff_eq] at he
    rcases hr y hy with e | e
    · rw [← he, e, sLt_irrefl] at hlt; cases hlt
    · have := sLt_trans hlt e
      rw [← he, sLt_irrefl] at this; cases this
  rw [hn, Option.or_none]
theorem spec_open : ∀ (r pre : List ItemR) (last : List UInt8), openGo last pre r = true → ∀ prev, (prev = none ∨ prev = some last) → specGo (pre ++ r) prev r = true
  | [], _, _, _, _, _ => rfl
  | x :: r, pre, last, h, prev, hp => by
    have ha := open_asc _ _ _ h
    simp only [openGo, Bool.and_eq_true] at h
    obtain ⟨h1, h2, h3, h4⟩ := h
    have ih := spec_open r (pre ++ [x]) x.path h4 (some x.path) (.inr rfl)
    rw [List.append_assoc] at ih
    have hh : homeS (pre ++ x :: r) x.path = true := by
      rw [home_later (itemOk_path h2) (fun y hy => ?_)]
      · exact h3
      · rcases List.mem_cons.1 hy with rfl | hy
        · exact .inl rfl
        · exact .inr ((List.pairwise_cons.1 ha.2).1 y hy)
    simp only [specGo, Bool.and_eq_true]
    refine ⟨h2, ?_, hh, ih⟩
    rcases hp with rfl | rfl
    · rfl
    · exact h1
theorem open_spec : ∀ (r pre : List ItemR) (last : List UInt8) (prev : Option (List UInt8)), specGo (pre ++ r) prev r = true → ((prev = none ∧ last = []) ∨ prev = some last) → openGo last pre r = true
  | [], _, _, _, _, _ => rfl
  | x :: r, pre, last, prev, h, hp => by
    simp only [specGo, Bool.and_eq_true] at h
    obtain ⟨h1, h2, h3, h4⟩ := h
    have ha := spec_asc _ _ _ h4
    have ih := open_spec r (pre ++ [x]) x.path (some x.path) (by rw [List.append_assoc]; exact h4) (.inr rfl)
    simp only [openGo, Bool.and_eq_true]
    refine ⟨?_, h1, ?_, ih⟩
    · rcases hp with ⟨rfl, rfl⟩ | rfl
      · exact sLt_nil (pathOk_ne (itemOk_path h1))
      · exact h2
    · rw [home_later (itemOk_path h1) (fun y hy => ?_)] at h3
      · exact h3
      · rcases List.mem_cons.1 hy with rfl | hy
        · exact .inl rfl
        · exact .inr (ha.1 y hy)
/-- The two go through to the end at the same lists. -/
theorem tree_same (os : List ItemR) : treeOk os = (decide (os.length ≤ 12) && openGo [] [] os) := by
  unfold treeOk
  rw [Bool.and_comm]
  congr 1
  rw [Bool.eq_iff_iff]
  constructor
  · intro h; exact open_spec os [] [] none h (.inl ⟨rfl, rfl⟩)
  · intro h; exact spec_open os [] [] h none (.inl rfl)

/-- What stands in a tree. -/
structure TreeP (os : List ItemR) : Prop where
  asc : Asc os
  ok : ∀ o ∈ os, itemOk o = true
  home : ∀ o ∈ os, homeS os o.path = true
theorem TreeP.nil : TreeP [] := ⟨List.Pairwise.nil, by simp, by simp⟩
theorem homeS_mono {pre r : List ItemR} {p : List UInt8} (h : homeS pre p = true) : homeS (pre ++ r) p = true := by
  unfold homeS findI at h ⊢
  rw [Bool.or_eq_true] at h ⊢
  rcases h with h | h
  · exact .inl h
  · refine .inr ?_
    rw [List.find?_append]
    rcases hf : pre.find? (fun o => o.path == parentOf p) with _ | y
    · rw [hf] at h; simp at h
    · rw [hf] at h ⊢; exact h
theorem TreeP.snoc {pre : List ItemR} {x : ItemR} (h : TreeP pre) (h1 : ∀ o ∈ pre, sLt o.path x.path = true) (h2 : itemOk x = true) (h3 : homeS pre x.path = true) : TreeP (pre ++ [x]) := by
  refine ⟨?_, fun o ho => ?_, fun o ho => homeS_mono ?_⟩
  · unfold Asc
    rw [List.pairwise_append]
    exact ⟨h.asc, List.pairwise_singleton _ _, fun a ha b hb => by rw [List.mem_singleton.1 hb]; exact h1 a ha⟩
  · rcases List.mem_append.1 ho with ho | ho
    · exact h.ok o ho
    · rw [List.mem_singleton.1 ho]; exact h2
  · rcases List.mem_append.1 ho with ho | ho
    · exact h.home o ho
    · rw [List.mem_singleton.1 ho]; exact h3
theorem open_tree : ∀ (r pre : List ItemR) (last : List UInt8), openGo last pre r = true → TreeP pre → (∀ o ∈ pre, o.path = last ∨ sLt o.path last = true) → TreeP (pre ++ r)
  | [], pre, _, _, h, _ => by rw [List.append_nil]; exact h
  | x :: r, pre, last, ho, h, hl => by
    simp only [openGo, Bool.and_eq_true] at ho
    obtain ⟨h1, h2, h3, h4⟩ := ho
    have hx : ∀ o ∈ pre, sLt o.path x.path = true := fun o ho => by
      rcases hl o ho with e | e
      · rw [e]; exact h1
      · exact sLt_trans e h1
    have := open_tree r (pre ++ [x]) x.path h4 (h.snoc hx h2 h3) (fun o ho => by
      rcases List.mem_append.1 ho with ho | ho
      · exact .inr (hx o ho)
      · rw [List.mem_singleton.1 ho]; exact .inl rfl)
    rw [List.append_assoc] at this
    exact this
theorem treeOk_p {os : List ItemR} (h : treeOk os = true) : TreeP os ∧ os.length ≤ 12 := by
  rw [tree_same, Bool.and_eq_true] at h
  exact ⟨open_tree os [] [] h.2 TreeP.nil (by simp), by simpa using h.1⟩
end Go.Proofs.YtkffejommncinaaDoor

/- Trees, plain: the nodes of a tree by their keys, the parts of their paths. -/
namespace Go.Proofs.YtkffejommncinaaDoor
open Go.RowKit

structure Nd where
  key : Key
  dir : Bool
  ids : List Int
def nodeOf (o : ItemR) : Nd := ⟨cutS o.path, o.dir, o.ids⟩
def nodesOf (os : List ItemR) : List Nd := ⟨[], true, []⟩ :: os.map nodeOf
def nameOf (k : Key) : List UInt8 := k.getLast?.getD []
def isKid (k : Key) (x : Nd) : Bool := !x.key.isEmpty && x.key.dropLast == k
def kidsOf (ns : List Nd) (k : Key) : List Key := (ns.filter (isKid k)).map (·.key)
def hasKey (ns : List Nd) (k : Key) : Bool := ns.any fun x => x.key == k
def dirAt (ns : List Nd) (k : Key) : Bool := ((ns.find? fun x => x.key == k).map (·.dir)).getD false

theorem nameOf_snoc (k : Key) (n : List UInt8) : nameOf (k ++ [n]) = n := by simp [nameOf]
theorem key_split {k : Key} (h : k ≠ []) : k = k.dropLast ++ [nameOf k] := by
  unfold nameOf
  rw [List.getLast?_eq_some_getLast h]
  exact (List.dropLast_concat_getLast h).symm
theorem mem_kids {ns : List Nd} {k q : Key} : q ∈ kidsOf ns k ↔ ∃ x ∈ ns, x.key = q ∧ q ≠ [] ∧ q.dropLast = k := by
  unfold kidsOf isKid
  simp only [List.mem_map, List.mem_filter, Bool.and_eq_true, Bool.not_eq_true', beq_iff_eq, List.isEmpty_eq_false_iff]
  constructor
  · rintro ⟨x, ⟨h1, h2, h3⟩, rfl⟩; exact ⟨x, h1, rfl, h2, h3⟩
  · rintro ⟨x, h1, rfl, h2, h3⟩; exact ⟨x, ⟨h1, h2, h3⟩, rfl⟩
theorem kid_split {ns : List Nd} {k q : Key} (h : q ∈ kidsOf ns k) : q = k ++ [nameOf q] := by
  obtain ⟨x, _, rfl, h2, h3⟩ := mem_kids.1 h
  conv => lhs; rw [key_split h2, h3]
theorem hasKey_iff {ns : List Nd} {k : Key} : hasKey ns k = true ↔ ∃ x ∈ ns, x.key = k := by simp [hasKey]
theorem kid_iff {ns : List Nd} {k : Key} {n : List UInt8} : k ++ [n] ∈ kidsOf ns k ↔ hasKey ns (k ++ [n]) = true := by
  rw [mem_kids, hasKey_iff]
  constructor
  · rintro ⟨x, h1, h2, _⟩; exact ⟨x, h1, h2⟩
  · rintro ⟨x, h1, h2⟩; exact ⟨x, h1, h2, by simp, by simp⟩

/-- What a tree's nodes meet. -/
structure Good (ns : List Nd) : Prop where
  root : ∃ x ∈ ns, x.key = [] ∧ x.dir = true
  uniq : ∀ x ∈ ns, ∀ y ∈ ns, x.key = y.key → x = y
  up : ∀ x ∈ ns, x.key ≠ [] → ∃ y ∈ ns, y.key = x.key.dropLast ∧ y.dir = true
  asc : ∀ k, (kidsOf ns k).Pairwise fun a b => sLt (nameOf a) (nameOf b) = true
  word : ∀ x ∈ ns, (nameOf x.key).length ≤ 5

theorem find_key {ns : List Nd} (h : ∀ x ∈ ns, ∀ y ∈ ns, x.key = y.key → x = y) {x : Nd} (hx : x ∈ ns) : ns.find? (fun y => y.key == x.key) = some x := by
  rcases hf : ns.find? (fun y => y.key == x.key) with _ | y
  · rw [List.find?_eq_none] at hf
    exact absurd (by simp) (hf x hx)
  · have h1 := List.find?_some hf
    have h2 := List.mem_of_find?_eq_some hf
    rw [hf, h y h2 x hx (by simpa using h1)]
theorem Good.dir_of {ns : List Nd} (h : Good ns) {x : Nd} (hx : x ∈ ns) : dirAt ns x.key = x.dir := by
  unfold dirAt; rw [find_key h.uniq hx]; rfl
theorem dirAt_has {ns : List Nd} {k : Key} (h : dirAt ns k = true) : ∃ x ∈ ns, x.key = k ∧ x.dir = true := by
  unfold dirAt at h
  rcases hf : ns.find? (fun y => y.key == k) with _ | y
  · rw [hf] at h; simp at h
  · rw [hf] at h
    exact ⟨y, List.mem_of_find?_eq_some hf, by simpa using List.find?_some hf, h⟩
/-- above a node there are nodes -/
theorem Good.prefix {ns : List Nd} (h : Good ns) : ∀ (n : Nat) (a c : Key), c.length = n → hasKey ns (a ++ c) = true → hasKey ns a = true
  | 0, a, c, hc, hk => by
    rw [List.eq_nil_of_length_eq_zero hc, List.append_nil] at hk
    exact hk
  | n + 1, a, c, hc, hk => by
    have hne : c ≠ [] := by rintro rfl; simp at hc
    obtain ⟨x, hx, e⟩ := hasKey_iff.1 hk
    obtain ⟨y, hy, e2, _⟩ := h.up x hx (by rw [e]; simp [hne])
    refine Good.prefix h n a c.dropLast (by simp; omega) ?_
    rw [hasKey_iff]
    exact ⟨y, hy, by rw [e2, e, List.dropLast_append_of_ne_nil hne]⟩
theorem Good.dirs {ns : List Nd} (h : Good ns) {k : Key} (hk : k ≠ []) (hh : hasKey ns k = true) : dirAt ns k.dropLast = true := by
  obtain ⟨x, hx, rfl⟩ := hasKey_iff.1 hh
  obtain ⟨y, hy, e, hd⟩ := h.up x hx hk
  rw [← e, h.dir_of hy, hd]

/-! ### of a list of items -/
theorem find_map_node (os : List ItemR) (k : Key) (hk : k ≠ []) : (nodesOf os).find? (fun x => x.key == k) = (os.find? fun o => cutS o.path == k).map nodeOf := by
  unfold nodesOf
  rw [List.find?_cons_of_neg (by simpa using hk), List.find?_map]
  rfl
/-- its home, by text and by key -/
theorem home_key {os : List ItemR} {p : List UInt8} (hp : pathOk p = true) : homeS os p = dirAt (nodesOf os) (cutS p).dropLast := by
  unfold homeS dirAt findI
  rcases parent_cases hp with ⟨e1, e2⟩ | ⟨n, e1, _, _, e2⟩
  · rw [e1, e2]
    rfl
  · rw [e2, List.dropLast_concat, find_map_node _ _ (cutS_ne _)]
    have e3 : (parentOf p).isEmpty = false := by simpa using e1
    have e4 : (fun o : ItemR => cutS o.path == cutS (parentOf p)) = fun o => o.path == parentOf p := by
      funext o
      rw [Bool.eq_iff_iff, beq_iff_eq, beq_iff_eq]
      exact ⟨cutS_inj, fun e => by rw [e]⟩
    rw [e3, e4, Bool.false_or, Option.map_map]
    rfl
theorem key_text {l : List UInt8} (hp : pathOk l = true) : l = if (cutS l).dropLast = [] then nameOf (cutS l) else joinS (cutS l).dropLast ++ 47 :: nameOf (cutS l) := by
  rcases parent_cases hp with ⟨e1, e2⟩ | ⟨n, e1, _, e3, e2⟩
  · rw [e2]; simp [nameOf]
  · rw [e2, List.dropLast_concat, nameOf_snoc, if_neg (cutS_ne _), join_cut]
    exact e3
theorem same_dir_lt {l m : List UInt8} (hl : pathOk l = true) (hm : pathOk m = true) (h : (cutS l).dropLast = (cutS m).dropLast) : sLt l m = sLt (nameOf (cutS l)) (nameOf (cutS m)) := by
  conv => lhs; rw [key_text hl, key_text hm, h]
  split
  · rfl
  · have e : ∀ (a n : List UInt8), a ++ 47 :: n = (a ++ [47]) ++ n := fun a n => by simp
    rw [e _ (nameOf (cutS l)), e _ (nameOf (cutS m)), sLt_append]
theorem kids_nodes (os : List ItemR) (k : Key) : kidsOf (nodesOf os) k = (os.filter fun o => (cutS o.path).dropLast == k).map fun o => cutS o.path := by
  unfold kidsOf nodesOf
  rw [List.filter_cons_of_neg (by simp [isKid]), List.filter_map, List.map_map]
  have e : (isKid k ∘ nodeOf) = fun o => (cutS o.path).dropLast == k := by
    funext o
    have := cutS_ne o.path
    simp [isKid, nodeOf, this]
  rw [e]
  rfl
theorem kids_snoc (os : List ItemR) (x : ItemR) (k : Key) : kidsOf (nodesOf (os ++ [x])) k = kidsOf (nodesOf os) k ++ (if (cutS x.path).dropLast = k then [cutS x.path] else []) := by
  rw [kids_nodes, kids_nodes, List.filter_append, List.map_append]
  congr 1
  by_cases h : (cutS x.path).dropLast = k
  · rw [if_pos h, List.filter_cons_of_pos (by simpa using h)]; rfl
  · rw [if_neg h, List.filter_cons_of_neg (by simpa using h)]; rfl
theorem kids_len (os : List ItemR) (k : Key) : (kidsOf (nodesOf os) k).length ≤ os.length := by
  rw [kids_nodes, List.length_map]; exact List.length_filter_le _ _
theorem mem_nodes {os : List ItemR} {x : Nd} : x ∈ nodesOf os ↔ x = ⟨[], true, []⟩ ∨ ∃ o ∈ os, nodeOf o = x := by simp [nodesOf]

theorem TreeP.path {os : List ItemR} (h : TreeP os) {o : ItemR} (ho : o ∈ os) : pathOk o.path = true := itemOk_path (h.ok o ho)
theorem asc_eq : ∀ {os : List ItemR}, Asc os → ∀ {a b : ItemR}, a ∈ os → b ∈ os → a.path = b.path → a = b
  | [], _, a, b, ha, _, _ => by simp at ha
  | x :: r, h, a, b, ha, hb, e => by
    obtain ⟨h1, h2⟩ := List.pairwise_cons.1 h
    rcases List.mem_cons.1 ha with ea | ha' <;> rcases List.mem_cons.1 hb with eb | hb'
    · rw [ea, eb]
    · subst ea; exact absurd e (sLt_ne (h1 b hb'))
    · subst eb; exact absurd e.symm (sLt_ne (h1 a ha'))
    · exact asc_eq h2 ha' hb' e
theorem TreeP.good {os : List ItemR} (h : TreeP os) : Good (nodesOf os) := by
  refine ⟨⟨_, List.mem_cons_self, rfl, rfl⟩, fun x hx y hy e => ?_, fun x hx hk => ?_, fun k => ?_, fun x hx => ?_⟩
  · rcases mem_nodes.1 hx with rfl | ⟨a, ha, rfl⟩ <;> rcases mem_nodes.1 hy with rfl | ⟨c, hc, rfl⟩
    · rfl
    · exact absurd e.symm (cutS_ne _)
    · exact absurd e (cutS_ne _)
    · rw [asc_eq h.asc ha hc (cutS_inj e)]
  · rcases mem_nodes.1 hx with rfl | ⟨a, ha, rfl⟩
    · exact absurd rfl hk
    · have hh := h.home a ha
      rw [home_key (h.path ha)] at hh
      exact dirAt_has hh
  · rw [kids_nodes, List.pairwise_map]
    refine List.Pairwise.imp_of_mem ?_ (List.Pairwise.filter _ h.asc)
    intro a c ha hc hac
    simp only [List.mem_filter, beq_iff_eq] at ha hc
    rw [← same_dir_lt (h.path ha.1) (h.path hc.1) (ha.2.trans hc.2.symm)]
    exact hac
  · rcases mem_nodes.1 hx with rfl | ⟨a, ha, rfl⟩
    · simp [nameOf]
    · have hw := pathOk_word (h.path ha) (x := nameOf (cutS a.path)) (by
        have e := key_split (cutS_ne a.path)
        generalize nameOf (cutS a.path) = n at *
        rw [e]; simp)
      exact (wordOk_len hw).1
theorem has_path {os : List ItemR} {p : List UInt8} : hasKey (nodesOf os) (cutS p) = true ↔ ∃ o ∈ os, o.path = p := by
  rw [hasKey_iff]
  constructor
  · rintro ⟨x, hx, e⟩
    rcases mem_nodes.1 hx with rfl | ⟨a, ha, rfl⟩
    · exact absurd e.symm (cutS_ne _)
    · exact ⟨a, ha, cutS_inj e⟩
  · rintro ⟨o, ho, rfl⟩
    exact ⟨nodeOf o, mem_nodes.2 (.inr ⟨o, ho, rfl⟩), rfl⟩
end Go.Proofs.YtkffejommncinaaDoor

/- A directory's names: place$1, slices.BinarySearchFunc. -/
namespace Go.Proofs.YtkffejommncinaaDoor
open Go.RowKit

set_option maxRecDepth 4000 in
set_option maxHeartbeats 400000 in
theorem kidCmp (g : Nat) (n nm : List UInt8) (w : World) (hc : w.cell? ⟨g, 0, none⟩ = some (txt n)) :
    Calls Tryd.prog 90 #[.pointer (some ⟨g, 0, none⟩), txt nm] w fun e w' => e = .returned (.int .i64 (sCmp n nm)) ∧ w = w' := by
  unfold txt at hc ⊢
  have Hc := Lib.hid (cmpStr n nm w)
  go_enter Tryd.func90, Tryd.ntmps90
  go_wp2_with (go_at_call 91; refine Hc.out.mono ?_; rintro e w1 ⟨rfl, rfl⟩)
  go_ret
  exact ⟨rfl, rfl⟩

/-- where a name is, or would be, among keys whose names ascend -/
def PlaceAt (ks : List Key) (nm : List UInt8) (i : Nat) : Prop :=
  i ≤ ks.length ∧ (∀ t q, t < i → ks[t]? = some q → sLt (nameOf q) nm = true) ∧ (∀ t q, i ≤ t → ks[t]? = some q → sLt (nameOf q) nm = false)
def thereAt (ks : List Key) (nm : List UInt8) (i : Nat) : Bool := decide ((ks[i]?).map nameOf = some nm)
def PlacePost (ks : List Key) (nm : List UInt8) (w : World) (e : Ending) (w' : World) : Prop :=
  ∃ i : Nat, PlaceAt ks nm i ∧ e = .returned (.tuple #[.int .i64 i, .bool (thereAt ks nm i)]) ∧ w = w'
def KidAt (w : World) (a : Option Addr) (b : Key → Nat) (t : Nat) (q : Key) : Prop :=
  ∃ g, a = some ⟨g, 0, none⟩ ∧ w.cell? ⟨g, t, none⟩ = some (.pointer (some ⟨b q, 0, none⟩)) ∧ w.cell? ⟨b q, 0, none⟩ = some (txt (nameOf q))

theorem asc_get {ks : List Key} (h : ks.Pairwise fun a b => sLt (nameOf a) (nameOf b) = true) {i j : Nat} {p q : Key} (hij : i < j) (hi : ks[i]? = some p) (hj : ks[j]? = some q) : sLt (nameOf p) (nameOf q) = true := by
  obtain ⟨h1, rfl⟩ := List.getElem?_eq_some_iff.1 hi
  obtain ⟨h2, rfl⟩ := List.getElem?_eq_some_iff.1 hj
  exact List.pairwise_iff_getElem.1 h i j h1 h2 hij

set_option maxRecDepth 4000 in
set_option maxHeartbeats 1000000 in
theorem binSearch (ks : List Key) (b : Key → Nat) (a : Option Addr) (c : Nat) (nm : List UInt8) (w : World) (hk : ∀ t q, ks[t]? = some q → KidAt w a b t q) (hl : ks.length ≤ 1000) (_hc : ks.length ≤ c)
    (hasc : ks.Pairwise fun a b => sLt (nameOf a) (nameOf b) = true) :
    Calls Tryd.prog 89 #[.slice a ks.length c, txt nm, .func (.func 90) #[] #[]] w (PlacePost ks nm w) := by
  have HK := Lib.hid hk
  have Hasc := Lib.hid hasc
  clear hk hasc
  go_enter Tryd.func89, Tryd.ntmps89
  go_wp2
  go_loopg [9, 10] ks.length (fun kx s9 s10 wr => ∃ lo hi : Nat, s9 = .int .i64 lo ∧ s10 = .int .i64 hi ∧ lo ≤ hi ∧ hi ≤ ks.length ∧ hi - lo ≤ kx ∧ w = wr ∧
    Hid ((∀ t q, t < lo → ks[t]? = some q → sLt (nameOf q) nm = true) ∧ (∀ t q, hi ≤ t → ks[t]? = some q → sLt (nameOf q) nm = false)))
  case atStart => exact ⟨0, ks.length, rfl, rfl, Nat.zero_le _, Nat.le_refl _, by omega, rfl, Lib.hid ⟨fun t q h => absurd h (Nat.not_lt_zero _), fun t q h hq => by have := (List.getElem?_eq_some_iff.1 hq).1; omega⟩⟩
  case round =>
    obtain ⟨lo, hi, rfl, rfl, hlh, hin, hg, rfl, I⟩ := hrel
    by_cases hlt : lo < hi
    · obtain ⟨q, hq⟩ := get_of (show (lo + hi) / 2 < ks.length by omega)
      obtain ⟨g, rfl, k1, k2⟩ := HK.out _ q hq
      have hcm := kidCmp (b q) (nameOf q) nm w k2
      unfold txt at hcm
      have Hcm := Lib.hid hcm
      have Hq := Lib.hid hq
      have hneg := sCmp_neg (nameOf q) nm
      clear hcm hq k2
      rcases hs : sLt (nameOf q) nm with _ | _
      · have hn : ¬ (sCmp (nameOf q) nm < 0) := by rw [hs] at hneg; exact of_decide_eq_false hneg
        have Hs := Lib.hid hs
        clear hneg hs
        generalize sCmp (nameOf q) nm = r at *
        unfold txt
        go_wp2_with fail
        refine Hcm.out.mono ?_
        rintro e w' ⟨rfl, rfl⟩
        go_wp2_with fail
        go_roundg ((lo + hi) / 2 - lo)
        case measure => omega
        case rel =>
          refine ⟨lo, (lo + hi) / 2, rfl, by rw [show ((lo : Int) + (hi : Int)) / 2 = (((lo + hi) / 2 : Nat) : Int) by omega], by omega, by omega, Nat.le_refl _, rfl, Lib.hid ⟨I.out.1, fun t p ht hp => ?_⟩⟩
          rcases Nat.eq_or_lt_of_le ht with e | e
          · subst e
            rw [Hq.out] at hp
            rw [← Option.some.inj hp]; exact Hs.out
          · have h1 := asc_get Hasc.out e Hq.out hp
            rcases h2 : sLt (nameOf p) nm with _ | _
            · rfl
            · have := sLt_trans h1 h2
              rw [Hs.out] at this; cases this
      · have hn : sCmp (nameOf q) nm < 0 := by rw [hs] at hneg; exact of_decide_eq_true hneg
        have Hs := Lib.hid hs
        clear hneg hs
        generalize sCmp (nameOf q) nm = r at *
        unfold txt
        go_wp2_with fail
        refine Hcm.out.mono ?_
        rintro e w' ⟨rfl, rfl⟩
        go_wp2_with fail
        go_roundg (hi - ((lo + hi) / 2 + 1))
        case measure => omega
        case rel =>
          refine ⟨(lo + hi) / 2 + 1, hi, by rw [show ((lo : Int) + (hi : Int)) / 2 + 1 = (((lo + hi) / 2 + 1 : Nat) : Int) by omega], rfl, by omega, hin, Nat.le_refl _, rfl, Lib.hid ⟨fun t p ht hp => ?_, I.out.2⟩⟩
          rcases Nat.eq_or_lt_of_le (show t ≤ (lo + hi) / 2 by omega) with e | e
          · subst e
            rw [Hq.out] at hp
            rw [← Option.some.inj hp]; exact Hs.out
          · exact sLt_trans (asc_get Hasc.out e hp Hq.out) Hs.out
    · obtain rfl : hi = lo := by omega
      have hP : PlaceAt ks nm hi := ⟨hin, I.out⟩
      have HP := Lib.hid hP
      clear hP
      by_cases hn : hi < ks.length
      · obtain ⟨q, hq⟩ := get_of hn
        obtain ⟨g, rfl, k1, k2⟩ := HK.out _ q hq
        have hcm := kidCmp (b q) (nameOf q) nm w k2
        unfold txt at hcm
        have Hcm := Lib.hid hcm
        have Hq := Lib.hid hq
        clear hcm hq k2
        by_cases he : nameOf q = nm
        · have hz : sCmp (nameOf q) nm = 0 := sCmp_zero.2 he
          have ht : thereAt ks nm hi = true := by unfold thereAt; rw [Hq.out, ← he]; simp
          have Ht := Lib.hid ht
          clear ht he
          generalize sCmp (nameOf q) nm = r at *
          unfold txt
          go_wp2_with fail
          refine Hcm.out.mono ?_
          rintro e w' ⟨rfl, rfl⟩
          go_wp2_with fail
          go_ret2
          exact ⟨hi, HP.out, by rw [Ht.out]; first | rfl | (rw [show false = (r == 0) from by simp [hz]]; rfl), rfl⟩
        · have hz : ¬ (sCmp (nameOf q) nm = 0) := fun e => he (sCmp_zero.1 e)
          have ht : thereAt ks nm hi = false := by unfold thereAt; rw [Hq.out]; simp [he]
          have Ht := Lib.hid ht
          clear ht he
          generalize sCmp (nameOf q) nm = r at *
          unfold txt
          go_wp2_with fail
          refine Hcm.out.mono ?_
          rintro e w' ⟨rfl, rfl⟩
          go_wp2_with fail
          go_ret2
          exact ⟨hi, HP.out, by rw [Ht.out]; first | rfl | (rw [show false = (r == 0) from by simp [hz]]; rfl), rfl⟩
      · have ht : thereAt ks nm hi = false := by unfold thereAt; rw [List.getElem?_eq_none (by omega)]; rfl
        have Ht := Lib.hid ht
        clear ht
        go_wp2
        go_ret2
        exact ⟨hi, HP.out, by rw [Ht.out]; rfl, rfl⟩
end Go.Proofs.YtkffejommncinaaDoor

/- Trees, plain: sorted lists are one by their members; an item put, an item dropped. No program in sight. -/
namespace Go.Proofs.YtkffejommncinaaDoor
open Go.RowKit

theorem sorted_one {α : Type} (R : α → α → Prop) (hi : ∀ a, ¬ R a a) (ht : ∀ a b c, R a b → R b c → R a c) : ∀ (l m : List α), l.Pairwise R → m.Pairwise R → (∀ x, x ∈ l ↔ x ∈ m) → l = m
  | [], [], _, _, _ => rfl
  | [], b :: m, _, _, h => absurd ((h b).2 List.mem_cons_self) (by simp)
  | a :: l, [], _, _, h => absurd ((h a).1 List.mem_cons_self) (by simp)
  | a :: l, b :: m, h1, h2, h => by
    obtain ⟨a1, a2⟩ := List.pairwise_cons.1 h1
    obtain ⟨b1, b2⟩ := List.pairwise_cons.1 h2
    have e : a = b := by
      rcases List.mem_cons.1 ((h a).1 List.mem_cons_self) with e | e
      · exact e
      · rcases List.mem_cons.1 ((h b).2 List.mem_cons_self) with e' | e'
        · exact e'.symm
        · exact absurd (ht _ _ _ (b1 a e) (a1 b e')) (hi b)
    subst e
    have hr : l = m := by
      refine sorted_one R hi ht l m a2 b2 fun x => ⟨fun hx => ?_, fun hx => ?_⟩
      · rcases List.mem_cons.1 ((h x).1 (List.mem_cons_of_mem _ hx)) with e | e
        · rw [e] at hx; exact absurd (a1 _ hx) (hi _)
        · exact e
      · rcases List.mem_cons.1 ((h x).2 (List.mem_cons_of_mem _ hx)) with e | e
        · rw [e] at hx; exact absurd (b1 _ hx) (hi _)
        · exact e
    rw [hr]

theorem spec_of {all : List ItemR} (h : TreeP all) : ∀ (r : List ItemR) (prev : Option (List UInt8)), (∀ o ∈ r, o ∈ all) → Asc r → (∀ q, prev = some q → ∀ o ∈ r, sLt q o.path = true) → specGo all prev r = true
  | [], _, _, _, _ => rfl
  | x :: r, prev, hm, ha, hp => by
    obtain ⟨h1, h2⟩ := List.pairwise_cons.1 ha
    simp only [specGo, Bool.and_eq_true]
    have hx := hm x List.mem_cons_self
    refine ⟨h.ok x hx, ?_, h.home x hx, spec_of h r _ (fun o ho => hm o (List.mem_cons_of_mem _ ho)) h2 (fun q hq o ho => ?_)⟩
    · rcases prev with _ | q
      · rfl
      · exact hp q rfl x List.mem_cons_self
    · cases hq; exact h1 o ho
theorem treeOk_of {os : List ItemR} (h : TreeP os) (hl : os.length ≤ 12) : treeOk os = true := by
  unfold treeOk
  rw [spec_of h os none (fun _ h => h) h.asc (fun q h => by cases h)]
  simpa using hl
theorem treeOk_iff {os : List ItemR} : treeOk os = true ↔ TreeP os ∧ os.length ≤ 12 := ⟨treeOk_p, fun h => treeOk_of h.1 h.2⟩

theorem find_iff {os : List ItemR} (h : Asc os) {p : List UInt8} {o : ItemR} : findI os p = some o ↔ o ∈ os ∧ o.path = p := by
  unfold findI
  constructor
  · intro hf
    exact ⟨List.mem_of_find?_eq_some hf, by simpa using List.find?_some hf⟩
  · rintro ⟨ho, rfl⟩
    rcases hf : os.find? (fun x => x.path == o.path) with _ | y
    · rw [List.find?_eq_none] at hf
      exact absurd (by simp) (hf o ho)
    · have e := asc_eq h (List.mem_of_find?_eq_some hf) ho (by simpa using List.find?_some hf)
      rw [e] at hf; exact hf
theorem home_iff {os : List ItemR} (h : Asc os) {p : List UInt8} : homeS os p = true ↔ parentOf p = [] ∨ ∃ y ∈ os, y.path = parentOf p ∧ y.dir = true := by
  unfold homeS
  rw [Bool.or_eq_true, List.isEmpty_iff]
  constructor
  · rintro (e | e)
    · exact .inl e
    · rcases hf : findI os (parentOf p) with _ | y
      · rw [hf] at e; simp at e
      · rw [hf] at e
        obtain ⟨h1, h2⟩ := (find_iff h).1 hf
        exact .inr ⟨y, h1, h2, e⟩
  · rintro (e | ⟨y, h1, h2, h3⟩)
    · exact .inl e
    · rw [(find_iff h).2 ⟨h1, h2⟩]
      exact .inr h3
theorem find_none {os : List ItemR} {p : List UInt8} : findI os p = none ↔ ∀ o ∈ os, o.path ≠ p := by
  unfold findI
  rw [List.find?_eq_none]
  simp

/-! ### put -/
def putS (x : ItemR) : List ItemR → List ItemR
  | [] => [x]
  | o :: r => if sLt o.path x.path = true then o :: putS x r else if o.path = x.path then x :: r else x :: o :: r
theorem mem_put {x : ItemR} : ∀ {os : List ItemR}, Asc os → ∀ o, o ∈ putS x os ↔ (o = x ∨ (o ∈ os ∧ o.path ≠ x.path))
  | [], _, o => by simp [putS]
  | y :: r, h, o => by
    obtain ⟨h1, h2⟩ := List.pairwise_cons.1 h
    rw [putS]
    split
    · rename_i hs
      have hne := sLt_ne hs
      rw [List.mem_cons, mem_put h2, List.mem_cons]
      constructor
      · rintro (rfl | rfl | ⟨ho, hn⟩)
        · exact .inr ⟨.inl rfl, hne⟩
        · exact .inl rfl
        · exact .inr ⟨.inr ho, hn⟩
      · rintro (rfl | ⟨rfl | ho, hn⟩)
        · exact .inr (.inl rfl)
        · exact .inl rfl
        · exact .inr (.inr ⟨ho, hn⟩)
    · rename_i hs
      have later : ∀ z ∈ r, z.path ≠ x.path := fun z hz e => by
        have := h1 z hz
        rw [e] at this; exact hs this
      split
      · rename_i he
        rw [List.mem_cons, List.mem_cons]
        constructor
        · rintro (rfl | ho)
          · exact .inl rfl
          · exact .inr ⟨.inr ho, later o ho⟩
        · rintro (rfl | ⟨rfl | ho, hn⟩)
          · exact .inl rfl
          · exact absurd he hn
          · exact .inr ho
      · rename_i he
        rw [List.mem_cons, List.mem_cons]
        constructor
        · rintro (rfl | rfl | ho)
          · exact .inl rfl
          · exact .inr ⟨.inl rfl, he⟩
          · exact .inr ⟨.inr ho, later o ho⟩
        · rintro (rfl | ⟨h, hn⟩)
          · exact .inl rfl
          · exact .inr h
theorem asc_put {x : ItemR} : ∀ {os : List ItemR}, Asc os → Asc (putS x os)
  | [], _ => List.pairwise_singleton _ _
  | y :: r, h => by
    obtain ⟨h1, h2⟩ := List.pairwise_cons.1 h
    rw [putS]
    split
    · rename_i hs
      refine List.Pairwise.cons (fun z hz => ?_) (asc_put h2)
      rcases (mem_put h2 z).1 hz with rfl | ⟨hz, _⟩
      · exact hs
      · exact h1 z hz
    · rename_i hs
      split
      · rename_i he
        exact List.Pairwise.cons (fun z hz => by rw [← he]; exact h1 z hz) h2
      · rename_i he
        have hxy : sLt x.path y.path = true := by
          rcases hq : sLt x.path y.path with _ | _
          · exact absurd (sLt_total (by simpa using hs) hq) he
          · rfl
        refine List.Pairwise.cons (fun z hz => ?_) h
        rcases List.mem_cons.1 hz with rfl | hz
        · exact hxy
        · exact sLt_trans hxy (h1 z hz)
theorem len_put_new {x : ItemR} : ∀ {os : List ItemR}, (∀ o ∈ os, o.path ≠ x.path) → (putS x os).length = os.length + 1
  | [], _ => rfl
  | y :: r, h => by
    rw [putS]
    split
    · rw [List.length_cons, len_put_new (fun o ho => h o (List.mem_cons_of_mem _ ho)), List.length_cons]
    · rw [if_neg (h y List.mem_cons_self)]; rfl
theorem len_put_old {x : ItemR} : ∀ {os : List ItemR}, Asc os → (∃ o ∈ os, o.path = x.path) → (putS x os).length = os.length
  | [], _, h => by obtain ⟨o, ho, _⟩ := h; simp at ho
  | y :: r, ha, h => by
    obtain ⟨h1, h2⟩ := List.pairwise_cons.1 ha
    obtain ⟨o, ho, e⟩ := h
    rw [putS]
    split
    · rename_i hs
      rcases List.mem_cons.1 ho with rfl | ho
      · exact absurd e (sLt_ne hs)
      · rw [List.length_cons, len_put_old h2 ⟨o, ho, e⟩, List.length_cons]
    · rename_i hs
      rcases List.mem_cons.1 ho with rfl | ho
      · rw [if_pos e]; rfl
      · have := h1 o ho
        rw [e] at this; exact absurd this hs
theorem parent_ne {l : List UInt8} (h : pathOk l = true) : parentOf l ≠ l := sLt_ne (parent_lt h)
theorem TreeP.put_new {os : List ItemR} {x : ItemR} (h : TreeP os) (hx : itemOk x = true) (hn : ∀ o ∈ os, o.path ≠ x.path) (hh : homeS os x.path = true) : TreeP (putS x os) := by
  refine ⟨asc_put h.asc, fun o ho => ?_, fun o ho => ?_⟩
  · rcases (mem_put h.asc o).1 ho with rfl | ⟨ho, _⟩
    · exact hx
    · exact h.ok o ho
  · have hs : homeS os o.path = true := by
      rcases (mem_put h.asc o).1 ho with rfl | ⟨ho, _⟩
      · exact hh
      · exact h.home o ho
    rw [home_iff (asc_put h.asc)]
    rcases (home_iff h.asc).1 hs with e | ⟨y, h1, h2, h3⟩
    · exact .inl e
    · exact .inr ⟨y, (mem_put h.asc y).2 (.inr ⟨h1, hn y h1⟩), h2, h3⟩
theorem TreeP.put_old {os : List ItemR} {x z : ItemR} (h : TreeP os) (hx : itemOk x = true) (hz : z ∈ os) (he : z.path = x.path) (hd : z.dir = false) : TreeP (putS x os) := by
  have keep : ∀ p, homeS os p = true → homeS (putS x os) p = true := fun p hp => by
    rw [home_iff (asc_put h.asc)]
    rcases (home_iff h.asc).1 hp with e | ⟨y, h1, h2, h3⟩
    · exact .inl e
    · refine .inr ⟨y, (mem_put h.asc y).2 (.inr ⟨h1, fun e => ?_⟩), h2, h3⟩
      rw [asc_eq h.asc h1 hz (e.trans he.symm), hd] at h3
      cases h3
  refine ⟨asc_put h.asc, fun o ho => ?_, fun o ho => ?_⟩
  · rcases (mem_put h.asc o).1 ho with rfl | ⟨ho, _⟩
    · exact hx
    · exact h.ok o ho
  · rcases (mem_put h.asc o).1 ho with rfl | ⟨ho, _⟩
    · exact keep _ (by rw [← he]; exact h.home z hz)
    · exact keep _ (h.home o ho)
theorem TreeP.put_home {os : List ItemR} {x : ItemR} (ha : Asc os) (h : TreeP (putS x os)) : homeS os x.path = true := by
  have hm : x ∈ putS x os := (mem_put ha x).2 (.inl rfl)
  have hs := h.home x hm
  rw [home_iff h.asc] at hs
  rw [home_iff ha]
  rcases hs with e | ⟨y, h1, h2, h3⟩
  · exact .inl e
  · rcases (mem_put ha y).1 h1 with rfl | ⟨h1, _⟩
    · exact absurd h2.symm (parent_ne (h.path hm))
    · exact .inr ⟨y, h1, h2, h3⟩

def putR (os : List ItemR) (x : ItemR) : Option (List ItemR) :=
  if (treeOk os && (itemOk x && ((findI os x.path).all fun o => !o.dir && !x.dir))) = true then (if treeOk (putS x os) = true then some (putS x os) else none) else none
/-- A new item: what is asked of it. -/
theorem put_new_iff {os : List ItemR} {x : ItemR} (h : treeOk os = true) (hx : itemOk x = true) (hn : findI os x.path = none) : treeOk (putS x os) = (decide (os.length < 12) && homeS os x.path) := by
  obtain ⟨hT, hl⟩ := treeOk_p h
  have hn' := find_none.1 hn
  rw [Bool.eq_iff_iff, treeOk_iff, len_put_new hn', Bool.and_eq_true, decide_eq_true_eq]
  constructor
  · rintro ⟨h1, h2⟩; exact ⟨by omega, h1.put_home hT.asc⟩
  · rintro ⟨h1, h2⟩; exact ⟨hT.put_new hx hn' h2, by omega⟩
theorem put_old_ok {os : List ItemR} {x z : ItemR} (h : treeOk os = true) (hx : itemOk x = true) (hz : findI os x.path = some z) (hd : z.dir = false) : treeOk (putS x os) = true := by
  obtain ⟨hT, hl⟩ := treeOk_p h
  obtain ⟨h1, h2⟩ := (find_iff hT.asc).1 hz
  rw [treeOk_iff, len_put_old hT.asc ⟨z, h1, h2⟩]
  exact ⟨hT.put_old hx h1 h2 hd, hl⟩

/-! ### drop -/
def dropS (p : List UInt8) (os : List ItemR) : List ItemR := os.filter fun o => !(o.path == p)
theorem mem_drop {p : List UInt8} {os : List ItemR} {o : ItemR} : o ∈ dropS p os ↔ o ∈ os ∧ o.path ≠ p := by simp [dropS]
theorem asc_drop {p : List UInt8} {os : List ItemR} (h : Asc os) : Asc (dropS p os) := List.Pairwise.filter _ h
def noKids (p : List UInt8) (os : List ItemR) : Bool := os.all fun o => !(parentOf o.path == p)
theorem noKids_iff {p : List UInt8} {os : List ItemR} : noKids p os = true ↔ ∀ o ∈ os, parentOf o.path ≠ p := by simp [noKids]
theorem drop_iff {os : List ItemR} (h : treeOk os = true) {z : ItemR} (hz : z ∈ os) : treeOk (dropS z.path os) = noKids z.path os := by
  obtain ⟨hT, hl⟩ := treeOk_p h
  have hlen : (dropS z.path os).length ≤ os.length := List.length_filter_le _ _
  have hne := pathOk_ne (hT.path hz)
  rw [Bool.eq_iff_iff, treeOk_iff, noKids_iff]
  constructor
  · rintro ⟨h1, h2⟩ o ho e
    have hm : o ∈ dropS z.path os := mem_drop.2 ⟨ho, fun e2 => parent_ne (hT.path ho) (e.trans e2.symm)⟩
    rcases (home_iff h1.asc).1 (h1.home o hm) with e3 | ⟨y, g1, g2, _⟩
    · exact hne (e.symm.trans e3)
    · exact (mem_drop.1 g1).2 (g2.trans e)
  · intro hk
    refine ⟨⟨asc_drop hT.asc, fun o ho => hT.ok o (mem_drop.1 ho).1, fun o ho => ?_⟩, by omega⟩
    have ho' := (mem_drop.1 ho).1
    rw [home_iff (asc_drop hT.asc)]
    rcases (home_iff hT.asc).1 (hT.home o ho') with e | ⟨y, g1, g2, g3⟩
    · exact .inl e
    · exact .inr ⟨y, mem_drop.2 ⟨g1, fun e => hk o ho' (g2.symm.trans e)⟩, g2, g3⟩
theorem drop_at : ∀ {os : List ItemR} {i : Nat} {z : ItemR}, Asc os → os[i]? = some z → dropS z.path os = os.take i ++ os.drop (i + 1)
  | [], i, z, _, h => by simp at h
  | y :: r, 0, z, ha, h => by
    obtain rfl : y = z := by simpa using h
    obtain ⟨h1, _⟩ := List.pairwise_cons.1 ha
    unfold dropS
    rw [List.filter_cons_of_neg (by simp)]
    simp only [List.take_zero, List.nil_append, Nat.zero_add, List.drop_succ_cons, List.drop_zero]
    rw [List.filter_eq_self]
    intro o ho
    have := sLt_ne (h1 o ho)
    simp [Ne.symm this]
  | y :: r, i + 1, z, ha, h => by
    have hz : r[i]? = some z := by simpa using h
    obtain ⟨h1, h2⟩ := List.pairwise_cons.1 ha
    have ih := drop_at h2 hz
    have hne := sLt_ne (h1 z (List.mem_of_getElem? hz))
    unfold dropS at ih ⊢
    rw [List.filter_cons_of_pos (by simp [hne]), ih]
    rfl
def dropR (os : List ItemR) (p : List UInt8) : Option (List ItemR) :=
  if (treeOk os && ((findI os p).isSome && noKids p os)) = true then some (dropS p os) else none

/-! ### the kids -/
theorem kids_one {ns : List Nd} {k : Key} (h1 : (kidsOf ns k).Pairwise fun a b => sLt (nameOf a) (nameOf b) = true) {l : List Key} (h2 : l.Pairwise fun a b => sLt (nameOf a) (nameOf b) = true) (h : ∀ q, q ∈ kidsOf ns k ↔ q ∈ l) : kidsOf ns k = l :=
  sorted_one (fun a b : Key => sLt (nameOf a) (nameOf b) = true) (fun a h => by rw [sLt_irrefl] at h; cases h) (fun a b c h g => sLt_trans h g) _ _ h1 h2 h
theorem nodes_put {os : List ItemR} {x : ItemR} (h : Asc os) (hn : ∀ o ∈ os, o.path ≠ x.path) (y : Nd) : y ∈ nodesOf (putS x os) ↔ y ∈ nodesOf os ∨ y = nodeOf x := by
  rw [mem_nodes, mem_nodes]
  constructor
  · rintro (rfl | ⟨o, ho, rfl⟩)
    · exact .inl (.inl rfl)
    · rcases (mem_put h o).1 ho with rfl | ⟨ho, _⟩
      · exact .inr rfl
      · exact .inl (.inr ⟨o, ho, rfl⟩)
  · rintro ((rfl | ⟨o, ho, rfl⟩) | rfl)
    · exact .inl rfl
    · exact .inr ⟨o, (mem_put h o).2 (.inr ⟨ho, hn o ho⟩), rfl⟩
    · exact .inr ⟨x, (mem_put h x).2 (.inl rfl), rfl⟩
theorem kids_put_other {os : List ItemR} {x : ItemR} (h : TreeP os) (h' : TreeP (putS x os)) (hn : ∀ o ∈ os, o.path ≠ x.path) {k : Key} (hk : (cutS x.path).dropLast ≠ k) : kidsOf (nodesOf (putS x os)) k = kidsOf (nodesOf os) k := by
  refine kids_one (h'.good.asc k) (h.good.asc k) fun q => ?_
  rw [mem_kids, mem_kids]
  constructor
  · rintro ⟨y, h1, h2, h3, h4⟩
    rcases (nodes_put h.asc hn y).1 h1 with h1 | rfl
    · exact ⟨y, h1, h2, h3, h4⟩
    · exact absurd (by rw [← h4, ← h2]; rfl) hk
  · rintro ⟨y, h1, h2, h3, h4⟩
    exact ⟨y, (nodes_put h.asc hn y).2 (.inl h1), h2, h3, h4⟩
theorem take_drop_get {α : Type} {l : List α} {i : Nat} {q : α} : q ∈ l.take i ∨ q ∈ l.drop i ↔ q ∈ l := by
  conv => rhs; rw [← List.take_append_drop i l]
  rw [List.mem_append]
theorem kids_put_here {os : List ItemR} {x : ItemR} (h : TreeP os) (h' : TreeP (putS x os)) (hn : ∀ o ∈ os, o.path ≠ x.path) {k : Key} (hk : (cutS x.path).dropLast = k) {i : Nat} (hp : PlaceAt (kidsOf (nodesOf os) k) (nameOf (cutS x.path)) i) :
    kidsOf (nodesOf (putS x os)) k = (kidsOf (nodesOf os) k).take i ++ cutS x.path :: (kidsOf (nodesOf os) k).drop i := by
  obtain ⟨-, p2, p3⟩ := hp
  have hne : ∀ q ∈ kidsOf (nodesOf os) k, nameOf q ≠ nameOf (cutS x.path) := fun q hq e => by
    obtain ⟨y, h1, h2, h3, h4⟩ := mem_kids.1 hq
    have e2 : q = cutS x.path := by rw [key_split h3, key_split (cutS_ne x.path), h4, hk, e]
    obtain ⟨o, ho, e3⟩ := has_path.1 (hasKey_iff.2 ⟨y, h1, h2.trans e2⟩)
    exact hn o ho e3
  have ha := h.good.asc k
  refine kids_one (h'.good.asc k) ?_ fun q => ?_
  · rw [List.pairwise_append]
    have hd : ∀ b ∈ (kidsOf (nodesOf os) k).drop i, sLt (nameOf (cutS x.path)) (nameOf b) = true := fun b hb => by
      obtain ⟨t, ht⟩ := List.mem_iff_getElem?.1 hb
      rw [List.getElem?_drop] at ht
      have h1 := p3 (i + t) b (by omega) ht
      rcases hq : sLt (nameOf (cutS x.path)) (nameOf b) with _ | _
      · exact absurd (sLt_total h1 hq) (hne b (List.mem_of_getElem? ht))
      · rfl
    have ht : ∀ a ∈ (kidsOf (nodesOf os) k).take i, sLt (nameOf a) (nameOf (cutS x.path)) = true := fun a ha => by
      obtain ⟨t, ht⟩ := List.mem_iff_getElem?.1 ha
      rw [List.getElem?_take] at ht
      split at ht
      · exact p2 t a (by assumption) ht
      · cases ht
    refine ⟨ha.sublist (List.take_sublist _ _), List.Pairwise.cons hd (ha.sublist (List.drop_sublist _ _)), fun a ha b hb => ?_⟩
    rcases List.mem_cons.1 hb with rfl | hb
    · exact ht a ha
    · exact sLt_trans (ht a ha) (hd b hb)
  · rw [List.mem_append, List.mem_cons, mem_kids]
    constructor
    · rintro ⟨y, h1, h2, h3, h4⟩
      rcases (nodes_put h.asc hn y).1 h1 with h1 | rfl
      · rcases take_drop_get.2 (mem_kids.2 ⟨y, h1, h2, h3, h4⟩) with h5 | h5
        · exact .inl h5
        · exact .inr (.inr h5)
      · exact .inr (.inl h2.symm)
    · intro hq
      have hq' : q = cutS x.path ∨ q ∈ kidsOf (nodesOf os) k := by
        rcases hq with hq | rfl | hq
        · exact .inr (take_drop_get.1 (.inl hq))
        · exact .inl rfl
        · exact .inr (take_drop_get.1 (.inr hq))
      rcases hq' with rfl | hq'
      · exact ⟨nodeOf x, (nodes_put h.asc hn _).2 (.inr rfl), rfl, cutS_ne _, hk⟩
      · obtain ⟨y, h1, h2, h3, h4⟩ := mem_kids.1 hq'
        exact ⟨y, (nodes_put h.asc hn _).2 (.inl h1), h2, h3, h4⟩
theorem nodes_drop {os : List ItemR} {p : List UInt8} (y : Nd) : y ∈ nodesOf (dropS p os) ↔ y ∈ nodesOf os ∧ y.key ≠ cutS p := by
  rw [mem_nodes, mem_nodes]
  constructor
  · rintro (rfl | ⟨o, ho, rfl⟩)
    · exact ⟨.inl rfl, fun e => cutS_ne p e.symm⟩
    · obtain ⟨h1, h2⟩ := mem_drop.1 ho
      exact ⟨.inr ⟨o, h1, rfl⟩, fun e => h2 (cutS_inj e)⟩
  · rintro ⟨rfl | ⟨o, ho, rfl⟩, h2⟩
    · exact .inl rfl
    · exact .inr ⟨o, mem_drop.2 ⟨ho, fun e => h2 (by rw [← e]; rfl)⟩, rfl⟩
theorem kids_drop_other {os : List ItemR} {p : List UInt8} (h : TreeP os) (h' : TreeP (dropS p os)) {k : Key} (hk : (cutS p).dropLast ≠ k) : kidsOf (nodesOf (dropS p os)) k = kidsOf (nodesOf os) k := by
  refine kids_one (h'.good.asc k) (h.good.asc k) fun q => ?_
  rw [mem_kids, mem_kids]
  constructor
  · rintro ⟨y, h1, h2, h3, h4⟩
    exact ⟨y, (nodes_drop y).1 h1 |>.1, h2, h3, h4⟩
  · rintro ⟨y, h1, h2, h3, h4⟩
    exact ⟨y, (nodes_drop y).2 ⟨h1, fun e => hk (by rw [← h4, ← h2, e])⟩, h2, h3, h4⟩
theorem kids_drop_here {os : List ItemR} {p : List UInt8} (h : TreeP os) (h' : TreeP (dropS p os)) {k : Key} {i : Nat} (hi : (kidsOf (nodesOf os) k)[i]? = some (cutS p)) :
    kidsOf (nodesOf (dropS p os)) k = (kidsOf (nodesOf os) k).take i ++ (kidsOf (nodesOf os) k).drop (i + 1) := by
  obtain ⟨hlt, e⟩ := List.getElem?_eq_some_iff.1 hi
  have ha := h.good.asc k
  have hs : kidsOf (nodesOf os) k = (kidsOf (nodesOf os) k).take i ++ cutS p :: (kidsOf (nodesOf os) k).drop (i + 1) := by
    conv => lhs; rw [← List.take_append_drop i (kidsOf (nodesOf os) k), List.drop_eq_getElem_cons hlt, e]
  have ha2 := ha
  rw [hs] at ha2
  obtain ⟨q1, q2, q3⟩ := List.pairwise_append.1 ha2
  obtain ⟨q4, q5⟩ := List.pairwise_cons.1 q2
  refine kids_one (h'.good.asc k) ?_ fun q => ?_
  · rw [List.pairwise_append]
    exact ⟨q1, q5, fun a ha b hb => q3 a ha b (List.mem_cons_of_mem _ hb)⟩
  · have irr : ∀ a : Key, ¬ (sLt (nameOf a) (nameOf a) = true) := fun a h => by rw [sLt_irrefl] at h; cases h
    rw [mem_kids, List.mem_append]
    constructor
    · rintro ⟨y, h1, h2, h3, h4⟩
      obtain ⟨h1, h5⟩ := (nodes_drop y).1 h1
      have hq := mem_kids.2 ⟨y, h1, h2, h3, h4⟩
      rw [hs, List.mem_append, List.mem_cons] at hq
      rcases hq with hq | hq | hq
      · exact .inl hq
      · exact absurd (h2.trans hq) h5
      · exact .inr hq
    · intro hq
      have hm : q ∈ kidsOf (nodesOf os) k ∧ q ≠ cutS p := by
        rcases hq with hq | hq
        · exact ⟨by rw [hs]; exact List.mem_append_left _ hq, fun e => irr _ (by have := q3 q hq _ List.mem_cons_self; rw [e] at this; exact this)⟩
        · exact ⟨by rw [hs]; exact List.mem_append_right _ (List.mem_cons_of_mem _ hq), fun e => irr _ (by have := q4 q hq; rw [e] at this; exact this)⟩
      obtain ⟨y, h1, h2, h3, h4⟩ := mem_kids.1 hm.1
      exact ⟨y, (nodes_drop y).2 ⟨h1, fun e => hm.2 (h2.symm.trans e)⟩, h2, h3, h4⟩
end Go.Proofs.YtkffejommncinaaDoor

/- Trees, plain: the items of a tree in the order in which its directories are gone through are its list. No program in sight. -/
namespace Go.Proofs.YtkffejommncinaaDoor
open Go.RowKit

def ndAt (ns : List Nd) (q : Key) : Option Nd := ns.find? fun x => x.key == q
def itemAt (ns : List Nd) (path : List UInt8) (q : Key) : ItemR := ⟨path, ((ndAt ns q).map (·.dir)).getD false, ((ndAt ns q).map (·.ids)).getD []⟩
/-- the items behind a node, at most n levels down -/
def walkI (ns : List Nd) : Nat → Key → List UInt8 → List ItemR
  | 0, _, _ => []
  | n + 1, k, start => (kidsOf ns k).flatMap fun q => itemAt ns (start ++ nameOf q) q :: walkI ns n q (start ++ nameOf q ++ [47])
def cntI (ns : List Nd) : Nat → Key → Nat
  | 0, _ => 0
  | n + 1, k => (kidsOf ns k).length + ((kidsOf ns k).map (cntI ns n)).sum
theorem len_walk (ns : List Nd) : ∀ (n : Nat) (k : Key) (start : List UInt8), (walkI ns n k start).length = cntI ns n k
  | 0, _, _ => rfl
  | n + 1, k, start => by
    rw [walkI, cntI, List.length_flatMap]
    induction kidsOf ns k with
    | nil => rfl
    | cons q r ih =>
      rw [List.map_cons, List.sum_cons, List.length_cons, List.map_cons, List.sum_cons, List.length_cons, ih, len_walk ns n q]
      omega
def startK (k : Key) : List UInt8 := if k = [] then [] else joinS k ++ [47]
theorem join_append : ∀ (q c : Key), q ≠ [] → c ≠ [] → joinS (q ++ c) = joinS q ++ 47 :: joinS c
  | [], _, h, _ => absurd rfl h
  | [a], c, _, h => by
    rcases c with _ | ⟨b, r⟩
    · exact absurd rfl h
    · rfl
  | a :: b :: r, c, _, h => by
    have ih := join_append (b :: r) c (by simp) h
    show a ++ 47 :: joinS (b :: r ++ c) = _
    rw [ih]
    show _ = (a ++ 47 :: joinS (b :: r)) ++ _
    simp
theorem join_snoc (k : Key) (n : List UInt8) : joinS (k ++ [n]) = startK k ++ n := by
  unfold startK
  by_cases h : k = []
  · subst h; rfl
  · rw [if_neg h, join_append k [n] h (by simp)]; simp [joinS]
theorem kid_start {ns : List Nd} {k q : Key} (h : q ∈ kidsOf ns k) : startK k ++ nameOf q = joinS q ∧ startK k ++ nameOf q ++ [47] = startK q ∧ q ≠ [] := by
  have e := kid_split h
  obtain ⟨_, _, _, hne, _⟩ := mem_kids.1 h
  have e1 : startK k ++ nameOf q = joinS q := by conv => rhs; rw [e]; rw [join_snoc]
  refine ⟨e1, ?_, hne⟩
  rw [e1]; unfold startK; rw [if_neg hne]
theorem itemAt_of {ns : List Nd} (G : Good ns) {y : Nd} (hy : y ∈ ns) (p : List UInt8) : itemAt ns p y.key = ⟨p, y.dir, y.ids⟩ := by
  unfold itemAt ndAt
  rw [find_key G.uniq hy]; rfl
def itemOf (y : Nd) : ItemR := ⟨joinS y.key, y.dir, y.ids⟩
theorem mem_walk {ns : List Nd} (G : Good ns) : ∀ (n : Nat) (k : Key) (x : ItemR), x ∈ walkI ns n k (startK k) ↔ ∃ y ∈ ns, (∃ c, c ≠ [] ∧ c.length ≤ n ∧ y.key = k ++ c) ∧ x = itemOf y
  | 0, k, x => by
    constructor
    · intro h; simp [walkI] at h
    · rintro ⟨y, _, ⟨c, h1, h2, _⟩, _⟩
      exact absurd (List.eq_nil_of_length_eq_zero (by omega)) h1
  | n + 1, k, x => by
    rw [walkI, List.mem_flatMap]
    constructor
    · rintro ⟨q, hq, hx⟩
      obtain ⟨e1, e2, hne⟩ := kid_start hq
      rw [e2, e1] at hx
      rcases List.mem_cons.1 hx with hx | hx
      · obtain ⟨y, hy, rfl, -⟩ := mem_kids.1 hq
        refine ⟨y, hy, ⟨[nameOf y.key], by simp, by simp, kid_split hq⟩, ?_⟩
        rw [hx, itemAt_of G hy]; rfl
      · obtain ⟨y, hy, ⟨c, h1, h2, h3⟩, h4⟩ := (mem_walk G n q x).1 hx
        refine ⟨y, hy, ⟨nameOf q :: c, by simp, by simp; omega, ?_⟩, h4⟩
        rw [h3]
        conv => lhs; rw [kid_split hq]
        simp
    · rintro ⟨y, hy, ⟨c, h1, h2, h3⟩, rfl⟩
      rcases c with _ | ⟨nm, c⟩
      · exact absurd rfl h1
      · have hk : hasKey ns (k ++ [nm]) = true := by
          refine G.prefix _ (k ++ [nm]) c rfl ?_
          rw [hasKey_iff]
          exact ⟨y, hy, by rw [h3]; simp⟩
        have hq := kid_iff.2 hk
        obtain ⟨e1, e2, hne⟩ := kid_start hq
        refine ⟨k ++ [nm], hq, ?_⟩
        rw [e2, e1]
        by_cases hc : c = []
        · subst hc
          rw [List.mem_cons]
          left
          rw [← h3, itemAt_of G hy]; rfl
        · rw [List.mem_cons]
          right
          exact (mem_walk G n (k ++ [nm]) _).2 ⟨y, hy, ⟨c, hc, by simp at h2; omega, by rw [h3]; simp⟩, rfl⟩
theorem lt_ext : ∀ (a b s t : List UInt8), sLt a b = true → (∀ c ∈ b, 47 < c) → (s = [] ∨ ∃ r, s = 47 :: r) → sLt (a ++ s) (b ++ t) = true
  | _, [], _, _, h, _, _ => by unfold sLt at h; simp at h
  | [], c :: b, s, t, _, hb, hs => by
    have hc := hb c List.mem_cons_self
    rw [sLt_iff, List.nil_append, List.cons_append]
    rcases hs with rfl | ⟨r, rfl⟩
    · simp
    · rw [List.cons_lt_cons_iff]; exact .inl hc
  | x :: a, c :: b, s, t, h, hb, hs => by
    rw [sLt_iff, List.cons_lt_cons_iff] at h
    rw [sLt_iff, List.cons_append, List.cons_append, List.cons_lt_cons_iff]
    rcases h with h | ⟨h, g⟩
    · exact .inl h
    · exact .inr ⟨h, sLt_iff.1 (lt_ext a b s t (sLt_iff.2 g) (fun c hc => hb c (List.mem_cons_of_mem _ hc)) hs)⟩
theorem walk_path {ns : List Nd} (G : Good ns) {n : Nat} {q : Key} (hq : q ≠ []) {x : ItemR} (hx : x ∈ walkI ns n q (startK q)) : ∃ s, x.path = joinS q ++ 47 :: s := by
  obtain ⟨y, _, ⟨c, h1, _, h3⟩, rfl⟩ := (mem_walk G n q x).1 hx
  exact ⟨joinS c, by show joinS y.key = _; rw [h3, join_append q c hq h1]⟩
theorem walk_asc {ns : List Nd} (G : Good ns) (hw : ∀ x ∈ ns, ∀ c ∈ nameOf x.key, 47 < c) : ∀ (n : Nat) (k : Key), Asc (walkI ns n k (startK k))
  | 0, _ => List.Pairwise.nil
  | n + 1, k => by
    unfold Asc
    rw [walkI, List.pairwise_flatMap]
    constructor
    · intro q hq
      obtain ⟨e1, e2, hne⟩ := kid_start hq
      rw [e2, e1]
      refine List.Pairwise.cons (fun x hx => ?_) (walk_asc G hw n q)
      obtain ⟨s, e⟩ := walk_path G hne hx
      rw [e]
      exact sLt_prefix _ _ _
    · refine List.Pairwise.imp_of_mem ?_ (G.asc k)
      intro q r hq hr hlt x hx y hy
      obtain ⟨e1, e2, hne⟩ := kid_start hq
      obtain ⟨g1, g2, gne⟩ := kid_start hr
      rw [e2] at hx
      rw [g2] at hy
      have hxp : ∃ s, (s = [] ∨ ∃ r, s = 47 :: r) ∧ x.path = startK k ++ (nameOf q ++ s) := by
        rcases List.mem_cons.1 hx with rfl | hx
        · exact ⟨[], .inl rfl, by simp [itemAt]⟩
        · obtain ⟨s, e⟩ := walk_path G hne hx
          exact ⟨47 :: s, .inr ⟨s, rfl⟩, by rw [e, ← e1]; simp⟩
      have hyp : ∃ t, y.path = startK k ++ (nameOf r ++ t) := by
        rcases List.mem_cons.1 hy with rfl | hy
        · exact ⟨[], by simp [itemAt]⟩
        · obtain ⟨s, e⟩ := walk_path G gne hy
          exact ⟨47 :: s, by rw [e, ← g1]; simp⟩
      obtain ⟨s, hs, e3⟩ := hxp
      obtain ⟨t, e4⟩ := hyp
      rw [e3, e4, sLt_append]
      obtain ⟨z, hz, rfl, -⟩ := mem_kids.1 hr
      exact lt_ext _ _ _ _ hlt (hw z hz) hs
theorem small_gt {c : UInt8} (h : small c = true) : 47 < c := by
  unfold small at h
  rw [Bool.and_eq_true, decide_eq_true_eq, decide_eq_true_eq] at h
  rw [UInt8.lt_iff_toNat_lt]
  have : (47 : UInt8).toNat = 47 := rfl
  omega
theorem TreeP.letters {os : List ItemR} (h : TreeP os) : ∀ x ∈ nodesOf os, ∀ c ∈ nameOf x.key, 47 < c := by
  intro x hx c hc
  rcases mem_nodes.1 hx with rfl | ⟨a, ha, rfl⟩
  · simp [nameOf] at hc
  · have hw := pathOk_word (h.path ha) (x := nameOf (cutS a.path)) (by
      have e := key_split (cutS_ne a.path)
      generalize nameOf (cutS a.path) = n at *
      rw [e]; simp)
    simp only [wordOk, Bool.and_eq_true] at hw
    exact small_gt (List.all_eq_true.1 hw.2 c hc)
theorem TreeP.depth {os : List ItemR} (h : TreeP os) : ∀ x ∈ nodesOf os, x.key.length ≤ 4 := by
  intro x hx
  rcases mem_nodes.1 hx with rfl | ⟨a, ha, rfl⟩
  · simp
  · have := h.path ha
    simp only [pathOk, Bool.and_eq_true, decide_eq_true_eq] at this
    exact this.1
/-- All items in their order. -/
theorem walk_all {os : List ItemR} (h : TreeP os) : walkI (nodesOf os) 5 [] [] = os := by
  have hs : startK [] = [] := rfl
  have ha := walk_asc h.good h.letters 5 []
  rw [hs] at ha
  refine sorted_one (fun a b : ItemR => sLt a.path b.path = true) (fun a h => by rw [sLt_irrefl] at h; cases h) (fun a b c h g => sLt_trans h g) _ _ ha h.asc fun x => ?_
  have hm := mem_walk h.good 5 [] x
  rw [hs] at hm
  rw [hm]
  constructor
  · rintro ⟨y, hy, ⟨c, h1, _, h3⟩, rfl⟩
    rcases mem_nodes.1 hy with rfl | ⟨o, ho, rfl⟩
    · exact absurd h3.symm h1
    · have : itemOf (nodeOf o) = o := by unfold itemOf nodeOf; rw [join_cut]
      rw [this]; exact ho
  · intro hx
    have hy : nodeOf x ∈ nodesOf os := mem_nodes.2 (.inr ⟨x, hx, rfl⟩)
    refine ⟨nodeOf x, hy, ⟨cutS x.path, cutS_ne _, ?_, rfl⟩, ?_⟩
    · have := h.depth _ hy
      show (cutS x.path).length ≤ 5
      have h4 : (cutS x.path).length ≤ 4 := this
      omega
    · unfold itemOf nodeOf; rw [join_cut]
theorem cnt_all {os : List ItemR} (h : TreeP os) : cntI (nodesOf os) 5 [] = os.length := by
  rw [← len_walk _ 5 [] [], walk_all h]
end Go.Proofs.YtkffejommncinaaDoor
