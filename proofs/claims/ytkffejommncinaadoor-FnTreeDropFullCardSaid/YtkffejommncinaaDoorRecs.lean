/- Slices of structs, their cells one behind the other: how they read, what the call owns of them. -/
import Derived.Test.YtkffejommncinaaDoorBytes
import Derived.Test.YtkffejommncinaaDoorAppend1
import Derived.Test.YtkffejommncinaaDoorTxt
namespace Go.Proofs.YtkffejommncinaaDoor
open Go.RowKit

/-- a field of a struct -/
inductive Fld where
  | int (x : Int) | txt (l : List UInt8) | bool (b : Bool) | nums (xs : List Int)
  deriving DecidableEq

/-- a row of numbers of the call's own; of an empty one nothing is asked but its shape -/
def OwnI (S : Nat → Prop) (w : World) (v : Value) (xs : List Int) : Prop :=
  (xs = [] ∧ ∃ a c, v = .slice a 0 c ∧ c ≤ maxLen ∧ (a = none → c = 0)) ∨ (xs ≠ [] ∧ OwnInts 3 S w v xs)
theorem OwnI.of {S : Nat → Prop} {w : World} {v : Value} {xs : List Int} (h : OwnInts 3 S w v xs) : OwnI S w v xs := by
  by_cases e : xs = []
  · subst e
    obtain ⟨a, c, rfl, h1, h2, _, h5⟩ := h.1.shape
    exact .inl ⟨rfl, a, c, rfl, h2, h5⟩
  · exact .inr ⟨e, h⟩
theorem OwnI.nums {S : Nat → Prop} {w : World} {v : Value} {xs : List Int} (h : OwnI S w v xs) : Ints S w v xs := by
  rcases h with ⟨rfl, a, c, rfl, h2, h3⟩ | ⟨_, h⟩
  · exact ⟨a, c, rfl, Nat.zero_le _, ⟨h2, h3⟩, by simp, .inl rfl⟩
  · exact h.nums
theorem OwnI.mono {S T : Nat → Prop} {w : World} {v : Value} {xs : List Int} (h : OwnI S w v xs) (hs : ∀ j, j < w.heap.size → S j → T j) : OwnI T w v xs :=
  h.imp id fun h => ⟨h.1, h.2.mono hs⟩
theorem OwnI.chg {S T : Nat → Prop} {w w' : World} {v : Value} {xs : List Int} (h : OwnI S w v xs) (g : Chg T w w') (hd : ∀ j, j < w.heap.size → S j → ¬ T j) : OwnI S w' v xs :=
  h.imp id fun h => ⟨h.1, h.2.chg g hd⟩
/-- the block that a row of at least one number lies in -/
def blk (v : Value) : Fld → Option Nat
  | .nums (_ :: _) => v.ownBlock
  | _ => none
def Fld.reads (S : Nat → Prop) (w : World) (v : Value) : Fld → Prop
  | .int x => v = .int .i64 x ∧ I64 x
  | .txt l => v = YtkffejommncinaaDoor.txt l ∧ l.length ≤ maxLen
  | .bool b => v = .bool b
  | .nums xs => Ints S w v xs
def Fld.owns (S : Nat → Prop) (w : World) (v : Value) : Fld → Prop
  | .int x => v = .int .i64 x ∧ I64 x
  | .txt l => v = YtkffejommncinaaDoor.txt l ∧ l.length ≤ maxLen
  | .bool b => v = .bool b
  | .nums xs => OwnI S w v xs
theorem Fld.owns.reads {S : Nat → Prop} {w : World} {v : Value} {f : Fld} (h : f.owns S w v) : f.reads S w v := by
  cases f <;> first | exact h | exact OwnI.nums h
theorem Fld.owns.mono {S T : Nat → Prop} {w : World} {v : Value} {f : Fld} (h : f.owns S w v) (hs : ∀ j, j < w.heap.size → S j → T j) : f.owns T w v := by
  cases f <;> first | exact h | exact OwnI.mono h hs
theorem Fld.owns.chg {S T : Nat → Prop} {w w' : World} {v : Value} {f : Fld} (h : f.owns S w v) (g : Chg T w w') (hd : ∀ j, j < w.heap.size → S j → ¬ T j) : f.owns S w' v := by
  cases f <;> first | exact h | exact OwnI.chg h g hd
theorem Fld.owns.blk {S : Nat → Prop} {w : World} {v : Value} {f : Fld} (h : f.owns S w v) : ∀ j, YtkffejommncinaaDoor.blk v f = some j → S j ∧ j < w.heap.size := by
  intro j hj
  cases f with
  | nums xs =>
    cases xs with
    | nil => simp [YtkffejommncinaaDoor.blk] at hj
    | cons x r =>
      rcases h with ⟨h, _⟩ | ⟨_, h⟩
      · cases h
      · exact ⟨h.1.2 j hj, h.1.lt j hj⟩
  | _ => simp [YtkffejommncinaaDoor.blk] at hj
theorem Fld.reads.chg {S T : Nat → Prop} {w w' : World} {v : Value} {f : Fld} (h : f.reads S w v) (g : Chg T w w') (hd : ∀ j, j < w.heap.size → S j → ¬ T j) : f.reads S w' v := by
  cases f <;> first | exact h | exact Nums.chg h g hd
theorem Fld.reads.mono {S T : Nat → Prop} {w : World} {v : Value} {f : Fld} (h : f.reads S w v) (hs : ∀ j, j < w.heap.size → S j → T j) : f.reads T w v := by
  cases f <;> first | exact h | exact Nums.mono h hs
theorem Fld.reads.one {S : Nat → Prop} {w : World} {v : Value} {f : Fld} (h : f.reads S w v) : v.oneCell' = true := by
  cases f with
  | int x => rw [h.1]; rfl
  | txt l => rw [h.1]; rfl
  | bool b => rw [show v = .bool b from h]; rfl
  | nums xs => obtain ⟨a, c, rfl, _⟩ := h; rfl
/-- owned in a world where its row has only been written elsewhere -/
theorem Fld.owns.chg' {S T : Nat → Prop} {w w' : World} {v : Value} {f : Fld} (h : f.owns S w v) (g : Chg T w w') (hd : ∀ j, YtkffejommncinaaDoor.blk v f = some j → ¬ T j) : f.owns S w' v := by
  cases f with
  | nums xs =>
    cases xs with
    | nil =>
      rcases h with h | h
      · exact .inl h
      · exact absurd rfl h.1
    | cons x r =>
      rcases h with ⟨h, _⟩ | ⟨hne, h⟩
      · cases h
      · exact .inr ⟨hne, h.chg' g hd⟩
  | _ => exact h

/-- Cells that the call owns: no two rows share. -/
def Fields (S : Nat → Prop) (w : World) : List Value → List Fld → Prop
  | [], [] => True
  | v :: vs, f :: fs => f.owns S w v ∧ Fields (fun j => S j ∧ blk v f ≠ some j) w vs fs
  | _, _ => False

theorem Fields.mono {w : World} : ∀ {vs : List Value} {fs : List Fld} {S T : Nat → Prop}, Fields S w vs fs → (∀ j, j < w.heap.size → S j → T j) → Fields T w vs fs
  | [], [], _, _, _, _ => trivial
  | _ :: _, _ :: _, _, _, h, hs => ⟨h.1.mono hs, Fields.mono h.2 fun j hj hh => ⟨hs j hj hh.1, hh.2⟩⟩
  | [], _ :: _, _, _, h, _ => h.elim
  | _ :: _, [], _, _, h, _ => h.elim
theorem Fields.chg {w w' : World} {T : Nat → Prop} (g : Chg T w w') : ∀ {vs : List Value} {fs : List Fld} {S : Nat → Prop}, Fields S w vs fs → (∀ j, j < w.heap.size → S j → ¬ T j) → Fields S w' vs fs
  | [], [], _, _, _ => trivial
  | _ :: _, _ :: _, _, h, hs => ⟨h.1.chg g hs, Fields.chg g h.2 fun j hj hh => hs j hj hh.1⟩
  | [], _ :: _, _, h, _ => h.elim
  | _ :: _, [], _, h, _ => h.elim
theorem Fields.new {w w' : World} {vs : List Value} {fs : List Fld} {S : Nat → Prop} (h : Fields S w vs fs) (g : New w w') : Fields S w' vs fs := h.chg g fun _ _ _ hf => hf
theorem Fields.length {w : World} : ∀ {vs : List Value} {fs : List Fld} {S : Nat → Prop}, Fields S w vs fs → vs.length = fs.length
  | [], [], _, _ => rfl
  | _ :: _, _ :: _, _, h => by simp [Fields.length h.2]
  | [], _ :: _, _, h => h.elim
  | _ :: _, [], _, h => h.elim
theorem Fields.old {w : World} {vs : List Value} {fs : List Fld} {S : Nat → Prop} (h : Fields S w vs fs) : Fields (fun j => S j ∧ j < w.heap.size) w vs fs := h.mono fun _ hj hs => ⟨hs, hj⟩
theorem Fields.append {w : World} {us : List Value} {gs : List Fld} {T : Nat → Prop} (g : Fields T w us gs) : ∀ {vs : List Value} {fs : List Fld} {S : Nat → Prop}, Fields S w vs fs → (∀ j, S j → ¬ T j) → Fields (fun j => S j ∨ T j) w (vs ++ us) (fs ++ gs)
  | [], [], _, _, _ => g.mono fun _ _ h => .inr h
  | u :: vs, f :: fs, S, h, hs => ⟨h.1.mono fun _ _ h => .inl h, (Fields.append g h.2 fun j hj => hs j hj.1).mono fun j _ hh => by
      rcases hh with hh | hh
      · exact ⟨.inl hh.1, hh.2⟩
      · exact ⟨.inr hh, fun he => hs j (h.1.blk j he).1 hh⟩⟩
  | [], _ :: _, _, h, _ => h.elim
  | _ :: _, [], _, h, _ => h.elim
theorem Fields.get {w : World} {f : Fld} : ∀ {vs : List Value} {fs : List Fld} {S : Nat → Prop} {i : Nat}, Fields S w vs fs → fs[i]? = some f → ∃ v, vs[i]? = some v ∧ f.owns S w v
  | [], [], _, i, _, h => by simp at h
  | u :: vs, g :: fs, S, 0, h, hv => by simp at hv; subst hv; exact ⟨u, rfl, h.1⟩
  | u :: vs, g :: fs, S, i + 1, h, hv => by
      obtain ⟨v, h1, h2⟩ := Fields.get (i := i) h.2 (by simpa using hv)
      exact ⟨v, by simpa using h1, h2.mono fun _ _ h => h.1⟩
  | [], _ :: _, _, _, h, _ => h.elim
  | _ :: _, [], _, _, h, _ => h.elim
/-- One place is written anew: its row lies where it lay, or nowhere. -/
theorem Fields.put {w w' : World} {v v' : Value} {f f' : Fld} {T : Nat → Prop} (g : Chg T w w') (hT : ∀ j, T j → blk v f = some j) (hb : ∀ j, blk v' f' = some j → blk v f = some j) :
    ∀ {vs : List Value} {fs : List Fld} {S : Nat → Prop} {i : Nat}, Fields S w vs fs → vs[i]? = some v → fs[i]? = some f → (∀ S', f.owns S' w v → f'.owns S' w' v') → Fields S w' (vs.set i v') (fs.set i f')
  | [], [], _, i, _, h, _, _ => by simp at h
  | u :: vs, z :: fs, S, 0, h, hv, hf, ho => by
      simp at hv hf; subst hv; subst hf
      refine ⟨ho S h.1, (h.2.chg g fun j _ hj hTj => hj.2 (hT j hTj)).mono fun j _ hj => ⟨hj.1, fun e => hj.2 (hb j e)⟩⟩
  | u :: vs, z :: fs, S, i + 1, h, hv, hf, ho => by
      have hv' : vs[i]? = some v := by simpa using hv
      have hf' : fs[i]? = some f := by simpa using hf
      obtain ⟨x, hx, hox⟩ := Fields.get h.2 hf'
      obtain rfl : x = v := Option.some.inj (hx.symm.trans hv')
      exact ⟨h.1.chg' g fun j hj hTj => (hox.blk j (hT j hTj)).1.2 hj, Fields.put g hT hb h.2 hv' hf' ho⟩
  | [], _ :: _, _, _, h, _, _, _ => h.elim
  | _ :: _, [], _, _, h, _, _, _ => h.elim

/-- A slice of structs of the call's own, sz cells each. -/
def OwnRecs (e sz : Nat) (S : Nat → Prop) (w : World) (v : Value) (n : Nat) (fs : List Fld) : Prop :=
  ∃ us, Row e sz S w v n us ∧ Fields (fun j => S j ∧ v.ownBlock ≠ some j) w us fs
/-- A slice that reads as structs. -/
def Recs (sz : Nat) (S : Nat → Prop) (w : World) (v : Value) (n : Nat) (fs : List Fld) : Prop :=
  fs.length = n * sz ∧ ∃ a c, v = .slice a n c ∧ n ≤ c ∧ c ≤ maxLen ∧ (n = 0 ∨ ∃ b off, a = some ⟨b, off, none⟩ ∧ S b ∧ b < w.heap.size ∧ ∀ (i : Nat) f, fs[i]? = some f → ∃ u, w.cell? ⟨b, off + i, none⟩ = some u ∧ f.reads S w u)

section
variable {e sz : Nat} {S T : Nat → Prop} {w w' : World} {v : Value} {n : Nat} {fs : List Fld}
theorem OwnRecs.mono (h : OwnRecs e sz S w v n fs) (hs : ∀ j, j < w.heap.size → S j → T j) : OwnRecs e sz T w v n fs := by
  obtain ⟨us, h1, h2⟩ := h
  exact ⟨us, h1.mono hs, h2.mono fun j hj hh => ⟨hs j hj hh.1, hh.2⟩⟩
theorem OwnRecs.chg (h : OwnRecs e sz S w v n fs) (g : Chg T w w') (hs : ∀ j, j < w.heap.size → S j → ¬ T j) : OwnRecs e sz S w' v n fs := by
  obtain ⟨us, h1, h2⟩ := h
  exact ⟨us, h1.chg g hs, h2.chg g fun j hj hh => hs j hj hh.1⟩
theorem OwnRecs.new (h : OwnRecs e sz S w v n fs) (g : New w w') : OwnRecs e sz S w' v n fs := h.chg g fun _ _ _ hf => hf
theorem OwnRecs.old (h : OwnRecs e sz S w v n fs) : OwnRecs e sz (fun j => S j ∧ j < w.heap.size) w v n fs := h.mono fun _ hj hs => ⟨hs, hj⟩
theorem OwnRecs.recs (h : OwnRecs e sz S w v n fs) : Recs sz S w v n fs := by
  obtain ⟨us, h1, h2⟩ := h
  obtain ⟨a, c, rfl, s1, s2, s3, s4⟩ := h1.shape
  refine ⟨by rw [← h2.length]; exact s3, a, c, rfl, s1, s2, ?_⟩
  by_cases h0 : n = 0
  · exact .inl h0
  · obtain ⟨g, cap, e1, hS, hg, _, _⟩ := h1.head (by omega)
    simp only [Value.slice.injEq] at e1
    obtain ⟨rfl, -, rfl⟩ := e1
    refine .inr ⟨g, 0, rfl, hS, hg, fun i f hf => ?_⟩
    obtain ⟨u, hu, ho⟩ := h2.get hf
    exact ⟨u, by rw [Nat.zero_add]; exact h1.cellAt hu, (ho.reads).mono fun _ _ hj => hj.1⟩
theorem OwnRecs.nil (e sz : Nat) (S : Nat → Prop) (w : World) : OwnRecs e sz S w (.slice none 0 0) 0 [] := ⟨[], Row.nil _ _ _ _, trivial⟩
theorem OwnRecs.empty (e sz : Nat) (w : World) : OwnRecs e sz (fun k => w.heap.size ≤ k) (w.alloc (.cells #[] e)) (.slice (some ⟨w.heap.size, 0, none⟩) 0 0) 0 [] :=
  ⟨[], (Row.empty _ _ _).mono (fun _ _ h => by omega) |> fun h => ⟨⟨by simp, h.1.2⟩, h.2⟩, trivial⟩
theorem OwnRecs.shape (h : OwnRecs e sz S w v n fs) : ∃ a c, v = .slice a n c ∧ n ≤ c ∧ c ≤ maxLen ∧ fs.length = n * sz := by
  obtain ⟨us, h1, h2⟩ := h
  obtain ⟨a, c, rfl, s1, s2, s3, _⟩ := h1.shape
  exact ⟨a, c, rfl, s1, s2, by rw [← h2.length]; exact s3⟩
theorem Recs.chg (h : Recs sz S w v n fs) (g : Chg T w w') (hs : ∀ j, j < w.heap.size → S j → ¬ T j) : Recs sz S w' v n fs := by
  obtain ⟨h0, a, c, rfl, h1, h2, h3⟩ := h
  refine ⟨h0, a, c, rfl, h1, h2, ?_⟩
  rcases h3 with h3 | ⟨b, off, rfl, hS, hb, hc⟩
  · exact .inl h3
  · refine .inr ⟨b, off, rfl, hS, Nat.lt_of_lt_of_le hb g.size, fun i f hf => ?_⟩
    obtain ⟨u, hu, hr⟩ := hc i f hf
    exact ⟨u, g.cell hu (hs b hb hS), hr.chg g hs⟩
theorem Recs.new (h : Recs sz S w v n fs) (g : New w w') : Recs sz S w' v n fs := h.chg g fun _ _ _ hf => hf
theorem Recs.mono (h : Recs sz S w v n fs) (hs : ∀ j, j < w.heap.size → S j → T j) : Recs sz T w v n fs := by
  obtain ⟨h0, a, c, rfl, h1, h2, h3⟩ := h
  refine ⟨h0, a, c, rfl, h1, h2, ?_⟩
  rcases h3 with h3 | ⟨b, off, rfl, hS, hb, hc⟩
  · exact .inl h3
  · refine .inr ⟨b, off, rfl, hs b hb hS, hb, fun i f hf => ?_⟩
    obtain ⟨u, hu, hr⟩ := hc i f hf
    exact ⟨u, hu, hr.mono hs⟩
theorem Recs.old (h : Recs sz S w v n fs) : Recs sz (fun j => S j ∧ j < w.heap.size) w v n fs := h.mono fun _ hj hs => ⟨hs, hj⟩
/-- its first block, where there is an element -/
theorem Recs.head (h : Recs sz S w v n fs) (hn : 0 < n) : ∃ b off c, v = .slice (some ⟨b, off, none⟩) n c ∧ S b ∧ b < w.heap.size ∧ ∀ (i : Nat) f, fs[i]? = some f → ∃ u, w.cell? ⟨b, off + i, none⟩ = some u ∧ f.reads S w u := by
  obtain ⟨h0, a, c, rfl, h1, h2, h3⟩ := h
  rcases h3 with h3 | ⟨b, off, rfl, hS, hb, hc⟩
  · omega
  · exact ⟨b, off, c, rfl, hS, hb, hc⟩
end

/-- One more struct. -/
theorem OwnRecs.snoc {e sz : Nat} {S T : Nat → Prop} {w w' : World} {v v' : Value} {n : Nat} {fs gs : List Fld} {us ts : List Value} (h2 : Fields (fun j => S j ∧ v.ownBlock ≠ some j) w us fs) (hu : Fields T w ts gs)
    (h1 : Row e sz (fun k => v.ownBlock = some k ∨ w.heap.size < k) w' v' (n + 1) (us ++ ts)) (g : Chg (fun k => v.ownBlock = some k) w w') (hS : ∀ j, v.ownBlock = some j → S j ∧ j < w.heap.size) (hT : ∀ j, S j → ¬ T j) :
    OwnRecs e sz (fun j => (S j ∧ j < w.heap.size) ∨ (T j ∧ j < w.heap.size) ∨ w.heap.size < j) w' v' (n + 1) (fs ++ gs) := by
  refine ⟨us ++ ts, ?_, ?_⟩
  · exact h1.mono fun j _ hj => by
      rcases hj with hj | hj
      · exact .inl (hS j hj)
      · exact .inr (.inr hj)
  · have r := (Fields.append hu.old h2.old (fun j hj hT' => hT j hj.1.1 hT'.1)).chg g (fun j _ hj he => by
      rcases hj with hj | hj
      · exact hj.1.2 he
      · exact hT j (hS j he).1 hj.1)
    refine r.mono fun j hj hh => ?_
    have hlt : j < w.heap.size := by rcases hh with hh | hh <;> exact hh.2
    refine ⟨?_, fun e => ?_⟩
    · rcases hh with hh | hh
      · exact .inl ⟨hh.1.1, hh.2⟩
      · exact .inr (.inl ⟨hh.1, hh.2⟩)
    · have := h1.2 j e
      rcases this with h | h
      · rcases hh with hh | hh
        · exact hh.1.2 h
        · exact hT j (hS j h).1 hh.1
      · omega

/-! ### numbering them -/
def Fld.size : Fld → Nat
  | .nums xs => xs.length
  | _ => 1
def decs (n : Nat) : List UInt8 := if h : n < 10 then [UInt8.ofNat (48 + n)] else decs (n / 10) ++ [UInt8.ofNat (48 + n % 10)]
def markT (k : Int) : List UInt8 := 109 :: decs k.toNat
def Fld.mark (k : Int) : Fld → Fld
  | .int _ => .int k
  | .txt _ => .txt (markT k)
  | .bool _ => .bool (decide (k % 3 = 0))
  | .nums xs => .nums (upTo k xs.length)
def sizes (fs : List Fld) : Nat := (fs.map Fld.size).sum
def markF (k : Int) : List Fld → List Fld
  | [] => []
  | f :: fs => f.mark k :: markF (k + f.size) fs
@[simp] theorem length_markF : ∀ (k : Int) (fs : List Fld), (markF k fs).length = fs.length
  | _, [] => rfl
  | k, f :: fs => by simp [markF, length_markF]
theorem sizes_cons (f : Fld) (fs : List Fld) : sizes (f :: fs) = f.size + sizes fs := by simp [sizes]
theorem sizes_append (a b : List Fld) : sizes (a ++ b) = sizes a + sizes b := by simp [sizes]
theorem markF_append : ∀ (k : Int) (a b : List Fld), markF k (a ++ b) = markF k a ++ markF (k + sizes a) b
  | k, [], b => by simp [markF, sizes]
  | k, f :: r, b => by
    rw [List.cons_append, markF, markF_append, markF, sizes_cons]
    simp [Int.add_assoc]
/-- what stands there after i places -/
def markedF (k : Int) (fs : List Fld) (i : Nat) : List Fld := markF k (fs.take i) ++ fs.drop i
theorem length_markedF (k : Int) (fs : List Fld) (i : Nat) : (markedF k fs i).length = fs.length := by simp [markedF]; omega
theorem markedF_zero (k : Int) (fs : List Fld) : markedF k fs 0 = fs := by simp [markedF, markF]
theorem markedF_all (k : Int) (fs : List Fld) {i : Nat} (h : fs.length ≤ i) : markedF k fs i = markF k fs := by simp [markedF, List.take_of_length_le h, List.drop_eq_nil_of_le h]
theorem markedF_later {k : Int} {fs : List Fld} {i j : Nat} (h : i ≤ j) : (markedF k fs i)[j]? = fs[j]? := by
  unfold markedF
  by_cases hj : j < fs.length
  · rw [List.getElem?_append_right (by simp; omega)]
    simp only [length_markF, List.length_take, List.getElem?_drop]
    congr 1; omega
  · rw [List.getElem?_eq_none (by simp; omega), List.getElem?_eq_none (by omega)]
theorem markedF_step {k : Int} {fs : List Fld} {i : Nat} {f : Fld} (h : fs[i]? = some f) : (markedF k fs i).set i (f.mark (k + sizes (fs.take i))) = markedF k fs (i + 1) := by
  obtain ⟨hi, e⟩ := List.getElem?_eq_some_iff.1 h
  unfold markedF
  rw [List.take_succ_eq_append_getElem hi, markF_append, List.set_append_right _ _ (by simp; omega)]
  have e1 : i - (markF k (List.take i fs)).length = 0 := by simp; omega
  rw [e1, List.drop_eq_getElem_cons hi, List.set_cons_zero, e]
  simp [markF]
theorem sizes_take {fs : List Fld} {i : Nat} {f : Fld} (h : fs[i]? = some f) : sizes (fs.take (i + 1)) = sizes (fs.take i) + f.size := by
  obtain ⟨hi, e⟩ := List.getElem?_eq_some_iff.1 h
  rw [List.take_succ_eq_append_getElem hi, sizes_append, e]; simp [sizes]
theorem sizes_le (fs : List Fld) (i : Nat) : sizes (fs.take i) ≤ sizes fs := by
  conv => rhs; rw [← List.take_append_drop i fs, sizes_append]
  omega
theorem markF_get {fs : List Fld} {i : Nat} {k : Int} {f : Fld} (h : fs[i]? = some f) : (markF k fs)[i]? = some (f.mark (k + sizes (fs.take i))) := by
  obtain ⟨hi, e⟩ := List.getElem?_eq_some_iff.1 h
  conv => lhs; rw [← List.take_append_drop i fs, markF_append]
  rw [List.getElem?_append_right (by simp; omega)]
  have e1 : i - (markF k (List.take i fs)).length = 0 := by simp; omega
  rw [e1, List.drop_eq_getElem_cons hi, e]
  simp [markF]

theorem chg_set1 (w : World) (b i : Nat) (x : Value) : Chg (fun q => q = b) w (w.setCell ⟨b, i, none⟩ x) := (Chg.refl (fun q => q = b) w).setCell (a := ⟨b, i, none⟩) x (fun _ => rfl)
theorem chg_set2 (w : World) (b i j : Nat) (x y : Value) : Chg (fun q => q = b) w ((w.setCell ⟨b, i, none⟩ x).setCell ⟨b, j, none⟩ y) := (chg_set1 w b i x).setCell (a := ⟨b, j, none⟩) y (fun _ => rfl)
theorem chg_set3 (w : World) (b i j k : Nat) (x y z : Value) : Chg (fun q => q = b) w (((w.setCell ⟨b, i, none⟩ x).setCell ⟨b, j, none⟩ y).setCell ⟨b, k, none⟩ z) := (chg_set2 w b i j x y).setCell (a := ⟨b, k, none⟩) z (fun _ => rfl)
theorem take_set_succ {α : Type} {us : List α} {i : Nat} {x : α} (h : i < us.length) : (us.set i x).take (i + 1) = us.take i ++ [x] := by
  rw [List.take_succ_eq_append_getElem (by simpa using h)]
  simp [List.take_set_of_le]
theorem take_set2 {α : Type} {us : List α} {i : Nat} {x y : α} (h : i + 1 < us.length) : ((us.set i x).set (i + 1) y).take (i + 2) = us.take i ++ [x, y] := by
  rw [take_set_succ (by simpa using h), take_set_succ (by omega)]; simp
theorem take_set3 {α : Type} {us : List α} {i : Nat} {x y z : α} (h : i + 2 < us.length) : (((us.set i x).set (i + 1) y).set (i + 2) z).take (i + 3) = us.take i ++ [x, y, z] := by
  rw [take_set_succ (by simpa using h), take_set2 (by omega)]; simp

theorem flds_len {α : Type} (f : α → List Fld) (sz : Nat) (hf : ∀ a, (f a).length = sz) : ∀ os : List α, (os.flatMap f).length = os.length * sz
  | [] => by simp
  | a :: r => by rw [List.flatMap_cons, List.length_append, hf, flds_len f sz hf r, List.length_cons]; rw [Nat.add_mul]; omega
theorem flds_get {α : Type} (f : α → List Fld) (sz : Nat) (hf : ∀ a, (f a).length = sz) : ∀ (os : List α) {i j : Nat} {a : α}, os[i]? = some a → j < sz → (os.flatMap f)[i * sz + j]? = (f a)[j]?
  | [], i, j, a, h, _ => by simp at h
  | x :: r, 0, j, a, h, hj => by
    simp at h; subst h
    rw [List.flatMap_cons, Nat.zero_mul, Nat.zero_add, List.getElem?_append_left (by rw [hf]; exact hj)]
  | x :: r, i + 1, j, a, h, hj => by
    have ih := flds_get f sz hf r (i := i) (j := j) (a := a) (by simpa using h) hj
    rw [List.flatMap_cons, List.getElem?_append_right (by rw [hf, Nat.add_mul]; omega), hf, ← ih]
    congr 1
    rw [Nat.add_mul]; omega
theorem flds_take {α : Type} (f : α → List Fld) (sz : Nat) (hf : ∀ a, (f a).length = sz) : ∀ (os : List α) (i : Nat), (os.flatMap f).take (i * sz) = (os.take i).flatMap f
  | [], i => by simp
  | x :: r, 0 => by simp
  | x :: r, i + 1 => by
    rw [List.flatMap_cons, List.take_succ_cons, List.flatMap_cons, ← flds_take f sz hf r i, Nat.add_mul, Nat.one_mul, Nat.add_comm (i * sz) sz, ← hf x, List.take_length_add_append]

end Go.Proofs.YtkffejommncinaaDoor
