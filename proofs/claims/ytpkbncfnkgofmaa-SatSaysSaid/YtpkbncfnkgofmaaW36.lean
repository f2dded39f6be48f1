/- Walk: the closed fact 'solved'. -/
import Derived.Test.YtpkbncfnkgofmaaW33
import Derived.Test.YtpkbncfnkgofmaaW35
import Derived.Test.YtpkbncfnkgofmaaW13
namespace Go.Proofs.Ytpkbncfnkgofmaa
open Go.RowKit
def Ga : List (List Int) := [[1, 2]]
def Gb : List (List Int) := [[1, 2], [-1, 2], [1, -2], [-1, -2]]
theorem sol1 : solveErr 2 Ga 9 = 0 ∧ solveM 2 Ga 9 = [false, true] := by decide +kernel
theorem sol2 : solveErr 2 Gb 9 = 0 ∧ solveP 2 Gb 9 = [[1], [-1], []] := by decide +kernel
theorem sol3 : solveErr 2 [] 2 = 8 := by decide +kernel
set_option maxHeartbeats 4000000 in
theorem solved_any (w : World) :
    Calls Try.prog 40 #[] w fun e w' => e = .returned (.bool true) ∧ Below w.heap.size w w' := by
  go_enter Try.func40, Try.ntmps40
  go_wp2_with fail
  refine (solve_any (some ⟨w.heap.size + 1, 0, none⟩) 1 1 2 9 Ga _ (fun k => k < w.heap.size + 2) ?s1 ?r1 ⟨Nat.le_refl _, small_le (by simp)⟩ (by omega) (by omega) (by omega) (by omega)).mono ?_
  case s1 => intro k hk; simp; omega
  case r1 =>
    refine rclauses_of (t := 37) (hs := [(some ⟨w.heap.size, 0, none⟩, 2, 2)]) ⟨?_, trivial⟩ (by (repeat (first | (refine Whole.new _ _ _ _ ?_; simp; done) | refine Whole.alloc ?_ _))) (by omega) rfl
    exact rints_lit (b := w.heap.size) (t := 3) (xs := [1, 2]) (by (repeat (first | (refine Whole.new _ _ _ _ ?_; simp; done) | refine Whole.alloc ?_ _))) (by simp) rfl (small_le (by simp))
  rintro e w1 ⟨AM, nM, cM, AP, nP, cP, he, hrM, hM, hrP, hP, hb1⟩
  rw [sol1.1] at he
  rw [sol1.2] at hrM
  obtain rfl : nM = 2 := hrM.len.symm
  subst he
  have hs1 : w.heap.size + 2 ≤ w1.heap.size := by have := hb1.size; simp at this; omega
  have Hb1 : Hid (Below w.heap.size w w1) := Below.trans (by go_grown) (hb1.mono (by simp; omega))
  have HM1 : Hid (RBools w1 (fun k => k < w1.heap.size) AM 2 [false, true]) := hrM.more (fun k hk => hk.2)
  clear hb1 hrM hrP
  clear hM hP
  go_wp2_with fail
  refine (solve_any (some ⟨w1.heap.size + 1 + 1 + 1 + 1 + 1, 0, none⟩) 4 4 2 9 Gb _ (fun k => w1.heap.size < k ∧ k < w1.heap.size + 6) ?s2 ?r2 ⟨Nat.le_refl _, small_le (by simp)⟩ (by omega) (by omega) (by omega) (by omega)).mono ?_
  case s2 => intro k hk; simp; omega
  case r2 =>
    refine rclauses_of (t := 37) (hs := [(some ⟨w1.heap.size + 1, 0, none⟩, 2, 2), (some ⟨w1.heap.size + 1 + 1, 0, none⟩, 2, 2), (some ⟨w1.heap.size + 1 + 1 + 1, 0, none⟩, 2, 2), (some ⟨w1.heap.size + 1 + 1 + 1 + 1, 0, none⟩, 2, 2)]) ⟨?_, ?_, ?_, ?_, trivial⟩ (by (repeat (first | (refine Whole.new _ _ _ _ ?_; simp; done) | refine Whole.alloc ?_ _))) (by omega) rfl
    · exact rints_lit (b := w1.heap.size + 1) (t := 3) (xs := [1, 2]) (by (repeat (first | (refine Whole.new _ _ _ _ ?_; simp; done) | refine Whole.alloc ?_ _))) (by omega) rfl (small_le (by simp))
    · exact rints_lit (b := w1.heap.size + 1 + 1) (t := 3) (xs := [-1, 2]) (by (repeat (first | (refine Whole.new _ _ _ _ ?_; simp; done) | refine Whole.alloc ?_ _))) (by omega) rfl (small_le (by simp))
    · exact rints_lit (b := w1.heap.size + 1 + 1 + 1) (t := 3) (xs := [1, -2]) (by (repeat (first | (refine Whole.new _ _ _ _ ?_; simp; done) | refine Whole.alloc ?_ _))) (by omega) rfl (small_le (by simp))
    · exact rints_lit (b := w1.heap.size + 1 + 1 + 1 + 1) (t := 3) (xs := [-1, -2]) (by (repeat (first | (refine Whole.new _ _ _ _ ?_; simp; done) | refine Whole.alloc ?_ _))) (by omega) rfl (small_le (by simp))
  rintro e w2 ⟨BM, mM, dM, BP, mP, dP, he, hsM, hM2, hsP, hP2, hb2⟩
  rw [sol2.1] at he
  rw [sol2.2] at hsP
  obtain rfl : mP = 3 := hsP.len.symm
  subst he
  have hs2 : w1.heap.size + 6 ≤ w2.heap.size := by have := hb2.size; simp at this; omega
  have hb12 : Below w1.heap.size w1 w2 := Below.trans (by go_grown) (hb2.mono (by simp; omega))
  have hA2 : Whole w2 w1.heap.size 57 [.slice AM 2 cM, .slice AP nP cP] := Whole.below (by (repeat (first | (refine Whole.new _ _ _ _ ?_; simp; done) | refine Whole.alloc ?_ _))) hb2 (by simp; omega)
  have HA2 := Lib.hid hA2
  have Hb12 := Lib.hid hb12
  have HP2 : Hid (RClauses w2 (fun k => k < w2.heap.size) BP 3 [[1], [-1], []]) := hsP.more (fun k hk => hk.2)
  clear hb2 hsM hsP hb12 hA2 hM2 hP2
  go_wp2_with fail
  refine (solve_any none 0 0 2 2 [] _ (fun _ => False) (fun k hk => absurd hk id) RClauses.nil_ ⟨Nat.le_refl _, Nat.zero_le _⟩ (by omega) (by omega) (by omega) (by omega)).mono ?_
  rintro e w3 ⟨CM, lM, eM, CP, lP, eP, he, htM, hM3, htP, hP3, hb3⟩
  rw [sol3] at he
  subst he
  have hs3 : w2.heap.size + 1 ≤ w3.heap.size := by have := hb3.size; simp at this; omega
  have hb23 : Below w2.heap.size w2 w3 := Below.trans (by go_grown) (hb3.mono (by simp))
  have hB3 : Whole w3 w2.heap.size 57 [.slice BM mM dM, .slice BP 3 dP] := Whole.below (by (repeat (first | (refine Whole.new _ _ _ _ ?_; simp; done) | refine Whole.alloc ?_ _))) hb3 (by simp)
  have hA3 := HA2.out.below hb23 (by omega)
  have hA3c := hA3.cell 0
  have hB3c := hB3.cell 1
  simp only [List.getElem?_cons_zero, List.getElem?_cons_succ] at hA3c hB3c
  have Hb23 := Lib.hid hb23; have Hs := Lib.hid (And.intro hs2 hs3)
  have hlt13 : w1.heap.size < w3.heap.size := by omega
  have hlt23 : w2.heap.size < w3.heap.size := by omega
  clear hb3 htM htP hb23 hB3 hA3 hM3 hP3
  go_wp2_with fail
  refine (equal_bool AM (some ⟨w3.heap.size + 1, 0, none⟩) 2 2 cM 2 [false, true] [false, true] _ (fun k => k < w1.heap.size ∨ k = w3.heap.size + 1) ?a1 ?a2 (small_le (by simp)) (small_le (by simp))).mono ?_
  case a1 => exact ((((HM1.out.below Hb12.out (fun k hk => hk)).below Hb23.out (fun k hk => by have := Hs.out; omega)).below (B := w3.heap.size) (by go_grown) (fun k hk => by omega))).more (fun k hk => .inl hk)
  case a2 => exact Whole.bools (t := 4) (by (repeat (first | (refine Whole.new _ _ _ _ ?_; simp; done) | refine Whole.alloc ?_ _))) (.inr rfl) rfl
  rintro e w4 ⟨he, nq, rfl⟩
  obtain rfl : e = .returned (.bool true) := he.trans (by rw [beq_self_eq_true])
  go_wp2_with fail
  refine (sameClauses_any BP (some ⟨w3.heap.size + 1 + 1 + 1 + 1 + 1, 0, none⟩) 3 3 dP 3 [[1], [-1], []] [[1], [-1], []] _ (fun k => k < w2.heap.size ∨ w3.heap.size + 1 < k) ?b1 ?b2 (small_le (by simp)) (small_le (by simp))).mono ?_
  case b1 => exact ((HP2.out.below Hb23.out (fun k hk => hk)).below (B := w3.heap.size) (by repeat (first | exact Below.refl _ _ | (refine Below.alloc ?_ (by first | omega | (simp; done) | (simp; omega) | (simp [World.drewN]; omega)) _) | refine below_drewN ?_ _)) (fun k hk => by omega)).more (fun k hk => .inl hk)
  case b2 =>
    refine rclauses_of (t := 37) (hs := [(some ⟨w3.heap.size + 1 + 1, 0, none⟩, 1, 1), (some ⟨w3.heap.size + 1 + 1 + 1, 0, none⟩, 1, 1), (some ⟨w3.heap.size + 1 + 1 + 1 + 1, 0, none⟩, 0, 0)]) ⟨?_, ?_, ?_, trivial⟩ (by (repeat (first | (refine Whole.new _ _ _ _ ?_; simp; done) | (refine Whole.new _ _ _ _ ?_; show _ = _; simp [World.drewN]; done) | refine Whole.alloc ?_ _ | refine Whole.drewN ?_ _))) (.inr (by omega)) rfl
    · exact rints_lit (b := w3.heap.size + 1 + 1) (t := 3) (xs := [1]) (by (repeat (first | (refine Whole.new _ _ _ _ ?_; simp; done) | (refine Whole.new _ _ _ _ ?_; show _ = _; simp [World.drewN]; done) | refine Whole.alloc ?_ _ | refine Whole.drewN ?_ _))) (.inr (by omega)) rfl (small_le (by simp))
    · exact rints_lit (b := w3.heap.size + 1 + 1 + 1) (t := 3) (xs := [-1]) (by (repeat (first | (refine Whole.new _ _ _ _ ?_; simp; done) | (refine Whole.new _ _ _ _ ?_; show _ = _; simp [World.drewN]; done) | refine Whole.alloc ?_ _ | refine Whole.drewN ?_ _))) (.inr (by omega)) rfl (small_le (by simp))
    · exact rints_lit (b := w3.heap.size + 1 + 1 + 1 + 1) (t := 3) (xs := []) (by (repeat (first | (refine Whole.new _ _ _ _ ?_; simp; done) | (refine Whole.new _ _ _ _ ?_; show _ = _; simp [World.drewN]; done) | refine Whole.alloc ?_ _ | refine Whole.drewN ?_ _))) (.inr (by omega)) rfl (small_le (by simp))
  rintro e w5 ⟨he, nq2, rfl⟩
  obtain rfl : e = .returned (.bool true) := he.trans (by rw [beq_self_eq_true])
  go_wp2_with fail
  go_ret
  refine ⟨rfl, below_drewN ?_ _⟩
  have hB : Below w.heap.size w w3 := (Hb1.out.trans (Hb12.out.mono (by omega))).trans (Hb23.out.mono (by omega))
  repeat (first | exact hB | (refine Below.alloc ?_ (by first | omega | (simp; done) | (simp; omega) | (simp [World.drewN]; omega)) _) | refine below_drewN ?_ _)
end Go.Proofs.Ytpkbncfnkgofmaa
