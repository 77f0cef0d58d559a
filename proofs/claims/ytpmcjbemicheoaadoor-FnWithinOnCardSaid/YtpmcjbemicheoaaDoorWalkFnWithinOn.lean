/- The walk of FnWithinOn. -/
import Derived.Test.YtpmcjbemicheoaaDoorDrawDir
namespace Go.Proofs.YtpmcjbemicheoaaDoor
open Go.RowKit

set_option maxHeartbeats 1000000 in
theorem walkFnWithinOn (v : Value) (bs : List Int) (w : World) (h : Nums .u8 Any w v bs) :
    Calls Tryd.prog 3 #[v] w fun e w' => e = .returned (.bool true) ∧ New w w' := by
  have h0 := h
  obtain ⟨a, c, rfl, h1, ⟨h2, -⟩, h3, h4⟩ := h
  unfold maxLen at h2
  clear h4 h3
  by_cases hl : 1048576 < bs.length
  · have hl' : (1048576 : Int) < bs.length := by omega
    go_enter Tryd.func3, Tryd.ntmps3
    go_wp2_with fail
    go_ret
    exact ⟨rfl, New.refl _⟩
  · have hl' : ¬ ((1048576 : Int) < bs.length) := by omega
    go_enter Tryd.func3, Tryd.ntmps3
    go_wp2_with fail
    refine (drawPathWithin _ bs w h0).mono ?_
    rintro e w1 ⟨p, d, rfl, hp, hd, n1⟩
    have hps : (⟨p.toArray⟩ : ByteArray).size ≤ 1048576 := by show p.toArray.size ≤ _; simp; omega
    have hds : (⟨d.toArray⟩ : ByteArray).size ≤ 1048576 := by show d.toArray.size ≤ _; simp; omega
    have ci := fun (W : World) => implPathWithin ⟨p.toArray⟩ ⟨d.toArray⟩ W (by omega) (by omega)
    have cs := fun (W : World) => specPathWithin ⟨p.toArray⟩ ⟨d.toArray⟩ W hps hds
    rw [show (⟨p.toArray⟩ : ByteArray).data.toList = p from rfl, show (⟨d.toArray⟩ : ByteArray).data.toList = d from rfl] at ci cs
    have ex := isEmpty_toList ⟨d.toArray⟩
    rw [show (⟨d.toArray⟩ : ByteArray).data.toList = d from rfl] at ex
    have hlaw := fun h => within_parent (p := p) (d := d) h
    have hpar := parentIf_le d
    have Hlaw := Lib.hid hlaw
    clear hlaw
    unfold txt
    rcases hw : within p d with _ | _
    · rw [hw] at ci cs
      have Ci := Lib.hid ci
      have Cs := Lib.hid cs
      clear ci cs hw ex
      go_wp2_with fail
      refine (Ci.out _).mono ?_
      rintro e w2 ⟨rfl, n2⟩
      go_wp2_with fail
      refine (Cs.out _).mono ?_
      rintro e w3 ⟨rfl, n3⟩
      go_wp2_with fail
      go_ret
      exact ⟨rfl, (n1.trans n2).trans n3⟩
    · rw [hw] at ci cs
      have Ci := Lib.hid ci
      have Cs := Lib.hid cs
      have Hw := Lib.hid hw
      clear ci cs hw
      rcases he : d.isEmpty with _ | _
      · rw [he] at ex
        have hne : d ≠ [] := by intro e; rw [e] at he; simp at he
        obtain ⟨hok, hin⟩ := Hlaw.out Hw.out hne
        have cp := fun (W : World) => implPathParent ⟨d.toArray⟩ W (by omega)
        have ep : parentIf d = parentOf d := by simp [parentIf, hok]
        rw [show (⟨d.toArray⟩ : ByteArray).data.toList = d from rfl, ep, hok] at cp
        rw [ep] at hpar
        have cq := fun (W : World) => implPathWithin ⟨p.toArray⟩ ⟨(parentOf d).toArray⟩ W (by omega) (by show (parentOf d).toArray.size ≤ _; simp; omega)
        rw [show (⟨p.toArray⟩ : ByteArray).data.toList = p from rfl, show (⟨(parentOf d).toArray⟩ : ByteArray).data.toList = parentOf d from rfl, hin] at cq
        have Cp := Lib.hid cp
        have Cq := Lib.hid cq
        clear cp cq hok hin ep hne
        generalize parentOf d = x at *
        go_wp2_with fail
        refine (Ci.out _).mono ?_
        rintro e w2 ⟨rfl, n2⟩
        go_wp2_with fail
        refine (Cs.out _).mono ?_
        rintro e w3 ⟨rfl, n3⟩
        go_wp2_with fail
        refine (Cp.out _).mono ?_
        rintro e w4 ⟨rfl, n4⟩
        unfold txt
        go_wp2_with fail
        refine (Cq.out _).mono ?_
        rintro e w5 ⟨rfl, n5⟩
        go_wp2_with fail
        go_ret
        exact ⟨rfl, (((n1.trans n2).trans n3).trans n4).trans n5⟩
      · rw [he] at ex
        go_wp2_with fail
        refine (Ci.out _).mono ?_
        rintro e w2 ⟨rfl, n2⟩
        go_wp2_with fail
        refine (Cs.out _).mono ?_
        rintro e w3 ⟨rfl, n3⟩
        go_wp2_with fail
        go_ret
        exact ⟨rfl, (n1.trans n2).trans n3⟩

end Go.Proofs.YtpmcjbemicheoaaDoor
