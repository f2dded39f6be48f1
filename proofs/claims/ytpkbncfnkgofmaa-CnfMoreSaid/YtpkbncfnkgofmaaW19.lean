/- Walk: the closed fact 'followed'. -/
import Derived.Test.YtpkbncfnkgofmaaW13
import Derived.Test.YtpkbncfnkgofmaaW2
import Derived.Test.YtpkbncfnkgofmaaW16
import Derived.Test.YtpkbncfnkgofmaaW18
namespace Go.Proofs.Ytpkbncfnkgofmaa
open Go.RowKit
def G2 : List (List Int) := [[1, 2], [-2, 3, 3]]
theorem fol1 : folOk 3 G2 [-1] = true ∧ folErr 3 G2 [-1] = 0 ∧ folL 3 G2 [-1] = [-1, 2, 3] := by decide +kernel
theorem fol2 : folOk 3 G2 [-1, -3] = false ∧ folErr 3 G2 [-1, -3] = 0 := by decide +kernel
theorem fol3 : holdsOk 3 G2 [true, false, false] = true ∧ holdsErr 3 G2 [true, false, false] = 0 := by decide +kernel

set_option maxHeartbeats 2000000 in
theorem followed_any (w : World) :
    Calls Try.prog 23 #[] w fun e w' => e = .returned (.bool true) ∧ Below w.heap.size w w' := by
  go_enter Try.func23, Try.ntmps23
  go_wp2_with fail
  refine (follows_any (some ⟨w.heap.size + 1 + 1, 0, none⟩) (some ⟨w.heap.size + 1 + 1 + 1 + 1, 0, none⟩) 2 2 1 1 3 G2 [-1] _ (fun k => k < w.heap.size + 5) ?s1 ?r1 ?p1 ⟨Nat.le_refl _, small_le (by simp)⟩ (small_le (by simp)) (by omega) (by omega)).mono ?_
  case s1 => intro k hk; simp; omega
  case r1 =>
    refine rclauses_of (t := 37) (hs := [(some ⟨w.heap.size, 0, none⟩, 2, 2), (some ⟨w.heap.size + 1, 0, none⟩, 3, 3)]) ⟨?_, ?_, trivial⟩ (by (repeat (first | (refine Whole.new _ _ _ _ ?_; simp; done) | refine Whole.alloc ?_ _))) (by omega) rfl
    · exact rints_lit (b := w.heap.size) (t := 3) (xs := [1, 2]) (by (repeat (first | (refine Whole.new _ _ _ _ ?_; simp; done) | refine Whole.alloc ?_ _))) (by simp) rfl (small_le (by simp))
    · exact rints_lit (b := w.heap.size + 1) (t := 3) (xs := [-2, 3, 3]) (by (repeat (first | (refine Whole.new _ _ _ _ ?_; simp; done) | refine Whole.alloc ?_ _))) (by simp) rfl (small_le (by simp))
  case p1 => exact Whole.ints (t := 3) (xs := [-1]) (by (repeat (first | (refine Whole.new _ _ _ _ ?_; simp; done) | refine Whole.alloc ?_ _))) (by omega) rfl
  rintro e w1 ⟨A1, n1, c1, he, hr1, hc1, hc1', hb1⟩
  rw [fol1.1, fol1.2.1] at he
  rw [fol1.2.2] at hr1
  obtain rfl : n1 = 3 := hr1.len.symm
  subst he
  have hW1 : Whole w1 (w.heap.size + 1 + 1 + 1) 29 [.int .i64 3, .slice (some ⟨w.heap.size + 1 + 1, 0, none⟩) 2 2] := Whole.below (by (repeat (first | (refine Whole.new _ _ _ _ ?_; simp; done) | refine Whole.alloc ?_ _))) hb1 (by simp)
  have hF1 : RClauses w1 (fun k => k < w.heap.size + 5) (some ⟨w.heap.size + 1 + 1, 0, none⟩) 2 G2 := by
    refine RClauses.below ?_ hb1 (fun k hk => by simp; omega)
    refine rclauses_of (t := 37) (hs := [(some ⟨w.heap.size, 0, none⟩, 2, 2), (some ⟨w.heap.size + 1, 0, none⟩, 3, 3)]) ⟨?_, ?_, trivial⟩ (by (repeat (first | (refine Whole.new _ _ _ _ ?_; simp; done) | refine Whole.alloc ?_ _))) (by omega) rfl
    · exact rints_lit (b := w.heap.size) (t := 3) (xs := [1, 2]) (by (repeat (first | (refine Whole.new _ _ _ _ ?_; simp; done) | refine Whole.alloc ?_ _))) (by simp) rfl (small_le (by simp))
    · exact rints_lit (b := w.heap.size + 1) (t := 3) (xs := [-2, 3, 3]) (by (repeat (first | (refine Whole.new _ _ _ _ ?_; simp; done) | refine Whole.alloc ?_ _))) (by simp) rfl (small_le (by simp))
  have hs1 : w.heap.size + 5 ≤ w1.heap.size := by have := hb1.size; simp at this; omega
  have Hb1 : Hid (Below w.heap.size w w1) := Below.trans (by go_grown) (hb1.mono (by simp; omega))
  have Hr1 : Hid (RInts w1 (fun k => k < w1.heap.size) A1 3 [-1, 2, 3]) := hr1.more (fun k hk => hk.2)
  clear hb1 hr1
  have hf0 := hW1.cell 0
  have hf1 := hW1.cell 1
  simp only [List.getElem?_cons_zero, List.getElem?_cons_succ] at hf0 hf1
  have HW1 := Lib.hid hW1; have HF1 := Lib.hid hF1; clear hW1 hF1
  go_wp2_with fail
  refine (follows_any (some ⟨w.heap.size + 1 + 1, 0, none⟩) (some ⟨w1.heap.size, 0, none⟩) 2 2 2 2 3 G2 [-1, -3] _ (fun k => k < w1.heap.size + 1) ?s2 ?r2 ?p2 ⟨Nat.le_refl _, small_le (by simp)⟩ (small_le (by simp)) (by omega) (by omega)).mono ?_
  case s2 => intro k hk; simp; omega
  case r2 => exact (HF1.out.below (B := w1.heap.size) (by go_grown) (fun k hk => by omega)).more (fun k hk => by omega)
  case p2 => exact Whole.ints (t := 3) (xs := [-1, -3]) (by (repeat (first | (refine Whole.new _ _ _ _ ?_; simp; done) | refine Whole.alloc ?_ _))) (by omega) rfl
  rintro e w2 ⟨A2, n2, c2, he, hr2, _, _, hb2⟩
  rw [fol2.1, fol2.2] at he
  subst he
  have Hb12 : Hid (Below w1.heap.size w1 w2) := Below.trans (by go_grown) (hb2.mono (by simp))
  have hs2 : w1.heap.size + 1 ≤ w2.heap.size := by have := hb2.size; simp at this; omega
  clear hb2 hf0 hf1 hr2
  have hW2 := HW1.out.below Hb12.out (by omega)
  have hf0 := hW2.cell 0
  have hf1 := hW2.cell 1
  simp only [List.getElem?_cons_zero, List.getElem?_cons_succ] at hf0 hf1
  clear hW2
  go_wp2_with fail
  refine (holds_any (some ⟨w.heap.size + 1 + 1, 0, none⟩) (some ⟨w2.heap.size, 0, none⟩) 2 2 3 3 3 G2 [true, false, false] _ (fun k => k < w2.heap.size + 1) ?s3 ?r3 ?p3 ⟨Nat.le_refl _, small_le (by simp)⟩ (small_le (by simp)) (by omega) (by omega)).mono ?_
  case s3 => intro k hk; simp; omega
  case r3 => exact ((HF1.out.below Hb12.out (fun k hk => by omega)).below (B := w2.heap.size) (by go_grown) (fun k hk => by omega)).more (fun k hk => by omega)
  case p3 => exact Whole.bools (t := 4) (xs := [true, false, false]) (by (repeat (first | (refine Whole.new _ _ _ _ ?_; simp; done) | refine Whole.alloc ?_ _))) (by omega) rfl
  rw [fol3.1, fol3.2]
  rintro e w3 ⟨rfl, hb3⟩
  have Hb23 : Hid (Below w2.heap.size w2 w3) := Below.trans (by go_grown) (hb3.mono (by simp))
  clear hb3 hf0 hf1
  go_wp2_with fail
  refine (equal_int A1 (some ⟨w3.heap.size, 0, none⟩) 3 3 c1 3 [-1, 2, 3] [-1, 2, 3] _ (fun k => k < w3.heap.size + 1) ?a1 ?a2 (small_le (by simp)) (small_le (by simp))).mono ?_
  case a1 => exact (((Hr1.out.below Hb12.out (fun k hk => hk)).below Hb23.out (fun k hk => Nat.lt_of_lt_of_le hk (by omega))).below (B := w3.heap.size) (by go_grown) (fun k hk => by have := Hb23.out.size; omega)).more (fun k hk => by have := Hb23.out.size; omega)
  case a2 => exact Whole.ints (t := 3) (by (repeat (first | (refine Whole.new _ _ _ _ ?_; simp; done) | refine Whole.alloc ?_ _))) (by omega) rfl
  rintro e w4 ⟨he, nq, rfl⟩
  obtain rfl : e = .returned (.bool true) := he.trans (by rw [beq_self_eq_true])
  go_wp2_with fail
  go_ret
  refine ⟨rfl, below_drewN (Below.alloc ((Hb1.out.trans (Hb12.out.mono (by omega))).trans (Hb23.out.mono (by omega))) (by have := Hb23.out.size; omega) _) _⟩
end Go.Proofs.Ytpkbncfnkgofmaa
