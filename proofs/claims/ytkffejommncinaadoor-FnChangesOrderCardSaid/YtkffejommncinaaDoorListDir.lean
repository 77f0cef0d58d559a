/- TreeList of the program: the paths of a directory. -/
import Derived.Test.YtkffejommncinaaDoorTreeFind
namespace Go.Proofs.YtkffejommncinaaDoor
open Go.RowKit

theorem fields_strs (w : World) : ∀ (ts : List (List UInt8)) (S : Nat → Prop), (∀ x ∈ ts, x.length ≤ maxLen) → Fields S w (ts.map txt) (strFlds ts)
  | [], _, _ => trivial
  | x :: r, _, h => ⟨⟨rfl, h x List.mem_cons_self⟩, fields_strs w r _ fun y hy => h y (List.mem_cons_of_mem _ hy)⟩
theorem OwnStrs.of_row {S : Nat → Prop} {w : World} {v : Value} {ts : List (List UInt8)} (h : Row 9 1 S w v ts.length (ts.map txt)) (hf : ∀ x ∈ ts, x.length ≤ maxLen) : OwnStrs S w v ts := ⟨_, h, fields_strs w ts _ hf⟩

def listR (os : List ItemR) (d : List UInt8) : Option (List (List UInt8)) :=
  if (treeOk os && (d.isEmpty || ((findI os d).map (·.dir)).getD false)) = true then some ((os.filter fun o => parentOf o.path == d).map (·.path)) else none
def ListPost (r : Option (List (List UInt8))) (w : World) (e : Ending) (w' : World) : Prop :=
  ∃ v, e = .returned (.tuple #[v, .bool r.isSome]) ∧ OwnStrs (fun j => w.heap.size ≤ j) w' v (r.getD []) ∧ New w w'
theorem list_none {w w' : World} (n : New w w') : ListPost none w (.returned (.tuple #[.slice none 0 0, .bool false])) w' := ⟨_, rfl, OwnRecs.nil _ _ _ _, n⟩

def keyD (d : List UInt8) : Key := if d = [] then [] else cutS d
def startD (d : List UInt8) : List UInt8 := if d = [] then [] else d ++ [47]
theorem kid_dir {os : List ItemR} (h : TreeP os) {o : ItemR} (ho : o ∈ os) (d : List UInt8) : ((cutS o.path).dropLast == keyD d) = (parentOf o.path == d) := by
  unfold keyD
  rw [Bool.eq_iff_iff, beq_iff_eq, beq_iff_eq]
  rcases parent_cases (h.path ho) with ⟨e1, e2⟩ | ⟨n, e1, _, _, e2⟩
  · rw [e1, e2]
    by_cases hd : d = []
    · rw [if_pos hd, hd]; simp
    · rw [if_neg hd]
      exact ⟨fun e => absurd e.symm (cutS_ne d), fun e => absurd e.symm hd⟩
  · rw [e2, List.dropLast_concat]
    by_cases hd : d = []
    · rw [if_pos hd, hd]
      exact ⟨fun e => absurd e (cutS_ne _), fun e => absurd e e1⟩
    · rw [if_neg hd]
      exact ⟨cutS_inj, fun e => by rw [e]⟩
theorem kid_path {l d : List UInt8} (hl : pathOk l = true) (h : (cutS l).dropLast = keyD d) : startD d ++ nameOf (cutS l) = l := by
  have e := key_text hl
  rw [h] at e
  unfold startD
  unfold keyD at e
  by_cases hd : d = []
  · rw [if_pos hd] at e ⊢
    rw [if_pos rfl] at e
    rw [List.nil_append, ← e]
  · rw [if_neg hd] at e ⊢
    rw [if_neg (cutS_ne d), join_cut] at e
    conv => rhs; rw [e]
    simp
/-- the paths of a directory, by its kids -/
theorem dir_paths {os : List ItemR} (h : TreeP os) (d : List UInt8) : (kidsOf (nodesOf os) (keyD d)).map (fun q => startD d ++ nameOf q) = (os.filter fun o => parentOf o.path == d).map (·.path) := by
  rw [kids_nodes, List.map_map]
  have e : (os.filter fun o => (cutS o.path).dropLast == keyD d) = os.filter fun o => parentOf o.path == d := by
    refine List.filter_congr fun o ho => kid_dir h ho d
  rw [← e]
  refine List.map_congr_left fun o ho => ?_
  simp only [List.mem_filter, beq_iff_eq] at ho
  exact kid_path (h.path ho.1) ho.2
theorem list_ok {os : List ItemR} {d : List UInt8} (hk : treeOk os = true) (hd : (d.isEmpty || ((findI os d).map (·.dir)).getD false) = true) : listR os d = some ((kidsOf (nodesOf os) (keyD d)).map (fun q => startD d ++ nameOf q)) := by
  unfold listR
  rw [hk, hd, dir_paths (treeOk_p hk).1]
  rfl

end Go.Proofs.YtkffejommncinaaDoor
