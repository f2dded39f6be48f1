/- The other telling of what fits, walked. -/
import Derived.Test.YtheccogihldjgaaDoorAW11
import Derived.Test.YtheccogihldjgaaDoorAW4
namespace Go.Proofs.YtheccogihldjgaaDoor
open Go.RowKit Qm

set_option maxHeartbeats 3200000 in
theorem rfits_any (s f : ByteArray) (op ver slot v sl : Int) (on : Bool) (w : World) :
    Calls Tryd.prog 15 #[atv s op ver slot f on, .int .i64 v, .int .i64 sl] w fun e w' => e = .returned (.bool (fitsP (atOf s op ver slot f on) v sl)) ∧ Below w.heap.size w w' := by
  have BN := Lib.hid (Boxed.new w s op ver slot f on (t := 23))
  unfold atv
  by_cases z : slot = 0
  · subst z
    by_cases a1 : op = 1
    · subst a1
      go_enter Tryd.func15, Tryd.ntmps15
      go_wp2
      go_ret
      exact ⟨ret_bool (by rw [Bool.eq_iff_iff]; simp [fitsP, atOf, *] <;> exact decide_eq_true_iff.symm), (Below.refl _ _).alloc (Nat.le_refl _) _⟩
    · have b1 : (op == 1) = false := by simpa using a1
      by_cases a2 : op = 2
      · subst a2
        go_enter Tryd.func15, Tryd.ntmps15
        go_wp2
        go_ret
        exact ⟨ret_bool (by rw [Bool.eq_iff_iff]; simp [fitsP, atOf, *] <;> exact decide_eq_true_iff.symm), (Below.refl _ _).alloc (Nat.le_refl _) _⟩
      · have b2 : (op == 2) = false := by simpa using a2
        by_cases a3 : op = 3
        · subst a3
          go_enter Tryd.func15, Tryd.ntmps15
          go_wp2
          go_ret
          exact ⟨ret_bool (by rw [Bool.eq_iff_iff]; simp [fitsP, atOf, *] <;> exact decide_eq_true_iff.symm), (Below.refl _ _).alloc (Nat.le_refl _) _⟩
        · have b3 : (op == 3) = false := by simpa using a3
          go_enter Tryd.func15, Tryd.ntmps15
          go_wp2
          go_ret
          exact ⟨ret_bool (by rw [Bool.eq_iff_iff]; simp [fitsP, atOf, *] <;> exact decide_eq_true_iff.symm), (Below.refl _ _).alloc (Nat.le_refl _) _⟩
  · have z1 : (slot == 0) = false := by simpa using z
    by_cases y : slot = sl
    · have y1 : (slot == sl) = true := by simpa using y
      by_cases a1 : op = 1
      · subst a1
        go_enter Tryd.func15, Tryd.ntmps15
        go_wp2
        go_ret
        exact ⟨ret_bool (by rw [Bool.eq_iff_iff]; simp [fitsP, atOf, *] <;> exact decide_eq_true_iff.symm), (Below.refl _ _).alloc (Nat.le_refl _) _⟩
      · have b1 : (op == 1) = false := by simpa using a1
        by_cases a2 : op = 2
        · subst a2
          go_enter Tryd.func15, Tryd.ntmps15
          go_wp2
          go_ret
          exact ⟨ret_bool (by rw [Bool.eq_iff_iff]; simp [fitsP, atOf, *] <;> exact decide_eq_true_iff.symm), (Below.refl _ _).alloc (Nat.le_refl _) _⟩
        · have b2 : (op == 2) = false := by simpa using a2
          by_cases a3 : op = 3
          · subst a3
            go_enter Tryd.func15, Tryd.ntmps15
            go_wp2
            go_ret
            exact ⟨ret_bool (by rw [Bool.eq_iff_iff]; simp [fitsP, atOf, *] <;> exact decide_eq_true_iff.symm), (Below.refl _ _).alloc (Nat.le_refl _) _⟩
          · have b3 : (op == 3) = false := by simpa using a3
            go_enter Tryd.func15, Tryd.ntmps15
            go_wp2
            go_ret
            exact ⟨ret_bool (by rw [Bool.eq_iff_iff]; simp [fitsP, atOf, *] <;> exact decide_eq_true_iff.symm), (Below.refl _ _).alloc (Nat.le_refl _) _⟩
    · have y1 : (slot == sl) = false := by simpa using y
      by_cases a1 : op = 1
      · subst a1
        go_enter Tryd.func15, Tryd.ntmps15
        go_wp2
        go_ret
        exact ⟨ret_bool (by rw [Bool.eq_iff_iff]; simp [fitsP, atOf, *] <;> exact decide_eq_true_iff.symm), (Below.refl _ _).alloc (Nat.le_refl _) _⟩
      · have b1 : (op == 1) = false := by simpa using a1
        by_cases a2 : op = 2
        · subst a2
          go_enter Tryd.func15, Tryd.ntmps15
          go_wp2
          go_ret
          exact ⟨ret_bool (by rw [Bool.eq_iff_iff]; simp [fitsP, atOf, *] <;> exact decide_eq_true_iff.symm), (Below.refl _ _).alloc (Nat.le_refl _) _⟩
        · have b2 : (op == 2) = false := by simpa using a2
          by_cases a3 : op = 3
          · subst a3
            go_enter Tryd.func15, Tryd.ntmps15
            go_wp2
            go_ret
            exact ⟨ret_bool (by rw [Bool.eq_iff_iff]; simp [fitsP, atOf, *] <;> exact decide_eq_true_iff.symm), (Below.refl _ _).alloc (Nat.le_refl _) _⟩
          · have b3 : (op == 3) = false := by simpa using a3
            go_enter Tryd.func15, Tryd.ntmps15
            go_wp2
            go_ret
            exact ⟨ret_bool (by rw [Bool.eq_iff_iff]; simp [fitsP, atOf, *] <;> exact decide_eq_true_iff.symm), (Below.refl _ _).alloc (Nat.le_refl _) _⟩
end Go.Proofs.YtheccogihldjgaaDoor
