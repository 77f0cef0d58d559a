/- The walk of FnFileCut. -/
import Derived.Test.YtepoaoimappcbaaCut
import Derived.Test.YtepoaoimappcbaaDrawFile
import Derived.Test.YtepoaoimappcbaaBlockOk
namespace Go.Proofs.Ytepoaoimappcbaa
open Go.RowKit

theorem drawFileCut {S : Nat → Prop} (v : Value) (bs : List Int) (w : World) (h : Nums .u8 S w v bs) :
    Calls Try.prog 13 #[v] w (DrawnNums 33 w) := by
  go_enter Try.func13, Try.ntmps13
  go_wp2_with fail
  refine (l6Open v bs w h).mono ?_
  rintro e w1 ⟨g, rfl, hg, hr, n1⟩
  go_wp2_with fail
  refine (l91File g 0 w1 hr (by omega)).mono ?_
  rintro e w2 ⟨v2, xs, rfl, hs, ho, hr2, c2⟩
  go_wp2_with fail
  go_ret
  exact ⟨v2, xs, rfl, hs, ho.mono (fun k _ hk => Nat.le_trans n1.size hk), n1.trans_chg c2 (fun k hk e => by omega)⟩

theorem cuts_get : ∀ (i : Nat) (xs b : List Int), (cuts xs)[i]? = some b → b = (xs.drop (8 * i)).take 8 ∧ 8 * i < xs.length
  | i, [], b, h => by simp [cuts_nil] at h
  | 0, x :: r, b, h => by
    rw [cuts_of (by simp)] at h
    simp only [List.getElem?_cons_zero, Option.some.injEq] at h
    subst h
    simp
  | i + 1, x :: r, b, h => by
    rw [cuts_of (by simp)] at h
    simp only [List.getElem?_cons_succ] at h
    obtain ⟨h1, h2⟩ := cuts_get i _ b h
    rw [List.drop_drop] at h1
    have e : 8 + 8 * i = 8 * (i + 1) := by omega
    rw [e] at h1
    refine ⟨h1, ?_⟩
    rw [List.length_drop] at h2
    omega
theorem cuts_end (xs : List Int) : xs.length ≤ 8 * (cuts xs).length := by
  induction h : xs.length using Nat.strongRecOn generalizing xs with
  | ind n ih =>
    by_cases h0 : xs = []
    · subst h0; subst h; simp
    · have hp : 0 < xs.length := List.length_pos_iff.2 h0
      have := ih (xs.drop 8).length (by simp; omega) _ rfl
      rw [cuts_of h0]
      simp at this ⊢; omega

set_option maxHeartbeats 1000000 in
theorem walkFnFileCut (v : Value) (bs : List Int) (w : World) (h : Nums .u8 Any w v bs) :
    Calls Try.prog 4 #[v] w fun e w' => e = .returned (.bool true) ∧ New w w' := by
  have h0 := h
  obtain ⟨a, c, rfl, h1, ⟨h2, -⟩, h3, h4⟩ := h
  unfold maxLen at h2
  clear h4 h3
  by_cases hl : 1048576 < bs.length
  · have hl' : (1048576 : Int) < bs.length := by omega
    go_enter Try.func4, Try.ntmps4
    go_wp2_with fail
    go_ret
    exact ⟨rfl, New.refl _⟩
  · have hl' : ¬ ((1048576 : Int) < bs.length) := by omega
    go_enter Try.func4, Try.ntmps4
    go_wp2_with fail
    refine (drawFileCut _ bs w h0).mono ?_
    rintro e w1 ⟨v1, xs, rfl, hs, ho, n1⟩
    have hx := ho.nums.old
    clear ho
    have hcut : fileOk xs = true → cutOf xs = cuts xs := fun h => by simp [cutOf, h]
    have Hcut := Lib.hid hcut
    clear hcut
    have himp := implCut _ xs _ hx
    have hspec := fun (W : World) (n : New w1 W) => specCut v1 xs W (hx.new n)
    have Himp := Lib.hid himp
    have Hspec := Lib.hid hspec
    have hbytes : fileOk xs = true → bytesOk xs = true := fun h => by simp [fileOk] at h; exact h.2
    have Hbytes := Lib.hid hbytes
    clear himp hspec hbytes
    rcases hok : fileOk xs with _ | _
    · rw [hok] at Himp Hspec
      generalize cutOf xs = r at Himp Hspec
      clear hok Hcut Hbytes
      go_wp2_with fail
      refine Himp.out.mono ?_
      rintro e w2 ⟨v2, rfl, o2, n2⟩
      go_wp2_with fail
      refine (Hspec.out _ n2).mono ?_
      rintro e w3 ⟨v3, rfl, o3, n3⟩
      replace o2 := o2.new n3
      have nn := (n1.trans n2).trans n3
      go_wp2_with fail
      refine (sameBlocks _ _ r r _ o2 o3).mono ?_
      rintro e w4 ⟨rfl, d4⟩
      replace o2 := o2.new d4.new
      replace o3 := o3.new d4.new
      replace nn := nn.trans d4.new
      go_wp2_with fail
      refine (sameBlocks _ _ r r _ o2 o3).mono ?_
      rintro e w5 ⟨rfl, d5⟩
      go_wp2_with fail
      go_ret
      exact ⟨ret_bool (by simp), nn.trans d5.new⟩
    · have hc := Hcut.out hok
      have hb := Hbytes.out hok
      rw [hok, hc] at Himp Hspec
      have Hb := Lib.hid hb
      have hget := fun i b => cuts_get i xs b
      have Hget := Lib.hid hget
      have hend := cuts_end xs
      have htot := cuts_length xs
      clear hok Hcut Hbytes hc hb hget
      generalize cuts xs = r at Himp Hspec Hget hend htot
      go_wp2_with fail
      refine Himp.out.mono ?_
      rintro e w2 ⟨v2, rfl, o2, n2⟩
      go_wp2_with fail
      refine (Hspec.out _ n2).mono ?_
      rintro e w3 ⟨v3, rfl, o3, n3⟩
      replace o2 := o2.new n3
      have nn := (n1.trans n2).trans n3
      go_wp2_with fail
      refine (sameBlocks _ _ r r _ o2 o3).mono ?_
      rintro e w4 ⟨rfl, d4⟩
      replace o2 := o2.old.new d4.new
      replace nn := nn.trans d4.new
      have hxx := (hx.new (n2.trans n3)).new d4.new
      have sz4 : w.heap.size ≤ w4.heap.size := nn.size
      clear o3 n1 n2 n3 d4 Himp Hspec hx
      obtain ⟨a2, c2, rfl, l2, m2⟩ := o2.shape
      unfold maxLen at m2
      have hrr : decide (r = r) = true := by simp
      go_wp2_with fail
      go_loopg [8, 9] r.length (fun gk s8 s9 wr => ∃ (k : Nat), gk = r.length - k ∧ k ≤ r.length ∧ s9 = .int .i64 k ∧ OwnInts 3 (fun j => w4.heap.size ≤ j) wr s8 (xs.take (8 * k)) ∧ New w4 wr)
      case atStart => exact ⟨0, by omega, by omega, rfl, by simpa using (OwnNums.empty .i64 3 w4).mono (fun j _ hj => by omega), (New.refl _).alloc _⟩
      case round =>
        obtain ⟨k, hgk, hk, rfl, ho, hn⟩ := hrel
        have Hgk := Lib.hid hgk
        clear hgk
        by_cases hlt : k < r.length
        · obtain ⟨b, hbk⟩ := get_of hlt
          obtain ⟨eb, hkl⟩ := Hget.out k b hbk
          obtain ⟨g, cg, u, e1, hS, hgl, hcell, hu⟩ := (o2.new hn).at hbk
          simp only [Value.slice.injEq] at e1
          obtain ⟨rfl, -, rfl⟩ := e1
          have hblen : b.length = min 8 (xs.length - 8 * k) := by rw [eb]; simp
          have hbok : blockOk b = true := by
            have h1 : bytesOk b = true := bytesOk_sub Hb.out (fun y hy => by rw [eb] at hy; exact List.mem_of_mem_drop (List.mem_of_mem_take hy))
            simp [blockOk, h1]; omega
          have hfull : k + 1 < r.length → b.length = 8 := fun hk1 => by
            obtain ⟨b', hb'⟩ := get_of hk1
            have := (Hget.out (k + 1) b' hb').2
            omega
          have ht8 : xs.take (8 * (k + 1)) = xs.take (8 * k) ++ b := by
            rw [eb, show 8 * (k + 1) = 8 * k + 8 from by omega, List.take_add]
          have hcall := implBlock u b wr hu.nums
          rw [hbok] at hcall
          have Hcall := Lib.hid hcall
          have Ht8 := Lib.hid ht8
          have hunums := hu.nums
          obtain ⟨au, cu, rfl, lu, mu⟩ := hu.shape
          unfold maxLen at mu
          have hlb : b.length ≤ 8 := by omega
          have hlx : (xs.take (8 * k)).length ≤ 33 := by simp; omega
          have Hfull := Lib.hid hfull
          have hfit := hu.2
          clear hbk eb hblen hbok hfull ht8 hcall hu
          by_cases hlast : k + 1 < r.length
          · have hb8 : ((b.length : Int) != 8) = false := by (have := Hfull.out hlast; simp; omega)
            go_wp2_with fail
            refine Hcall.out.mono ?_
            rintro e w5 ⟨rfl, rfl⟩
            go_wp2_with (at_builtin; refine wpRow_append slInt _ _ rfl rfl _ (xs.take (8 * k)).length ((xs.take (8 * k)).map (Value.int .i64)) rfl ho.1 _ b.length cu (b.map (Value.int .i64)) rfl hunums.src (oneCells _ _) (by unfold maxLen; omega) (by omega) ?_; intro v' w6 q6 c6)
            have hol := ho.lt
            have o6 := OwnNums.of_append (xs := xs.take (8 * k)) (ys := b) q6 ho.2 hfit
            rw [← Ht8.out] at o6
            have n6 : New w4 w6 := hn.trans_chg c6 (fun j hj e => by have := (hol j e).2; omega)
            have szr := hn.size
            go_roundg (r.length - (k + 1))
            case measure => rw [Hgk.out]; omega
            case rel =>
              refine ⟨k + 1, rfl, by omega, by go_num, o6.mono (fun j hj hh => ?_), n6⟩
              rcases hh with hh | hh
              · exact (hol j hh).2
              · omega
          · have hl1 : ¬ ((k : Int) + 1 < (r.length : Int)) := by omega
            go_wp2_with fail
            refine Hcall.out.mono ?_
            rintro e w5 ⟨rfl, rfl⟩
            go_wp2_with (at_builtin; refine wpRow_append slInt _ _ rfl rfl _ (xs.take (8 * k)).length ((xs.take (8 * k)).map (Value.int .i64)) rfl ho.1 _ b.length cu (b.map (Value.int .i64)) rfl hunums.src (oneCells _ _) (by unfold maxLen; omega) (by omega) ?_; intro v' w6 q6 c6)
            have hol := ho.lt
            have o6 := OwnNums.of_append (xs := xs.take (8 * k)) (ys := b) q6 ho.2 hfit
            rw [← Ht8.out] at o6
            have n6 : New w4 w6 := hn.trans_chg c6 (fun j hj e => by have := (hol j e).2; omega)
            have szr := hn.size
            go_roundg (r.length - (k + 1))
            case measure => rw [Hgk.out]; omega
            case rel =>
              refine ⟨k + 1, rfl, by omega, by go_num, o6.mono (fun j hj hh => ?_), n6⟩
              rcases hh with hh | hh
              · exact (hol j hh).2
              · omega
        · have hxe : xs.take (8 * k) = xs := List.take_of_length_le (by omega)
          rw [hxe] at ho
          clear hxe
          go_wp2_with fail
          refine (sameInts _ _ xs xs _ ho.nums (hxx.new hn)).mono ?_
          rintro e w7 ⟨rfl, d7⟩
          go_wp2_with fail
          go_ret
          exact ⟨ret_bool (by simp), (nn.trans hn).trans d7.new⟩

end Go.Proofs.Ytepoaoimappcbaa
