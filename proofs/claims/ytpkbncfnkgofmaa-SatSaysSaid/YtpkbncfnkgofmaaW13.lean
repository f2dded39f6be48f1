/- Walk: the closed fact 'refuted'. -/
import Derived.Test.YtpkbncfnkgofmaaW11
import Derived.Handy
namespace Go.Proofs.Ytpkbncfnkgofmaa
open Go.RowKit
/-- so many headers read as so many lists of ints -/
def RowsOf (w : World) (S : Nat → Prop) : List (Option Addr × Nat × Nat) → List (List Int) → Prop
  | [], [] => True
  | h :: hs, c :: cs => (RInts w S h.1 h.2.1 c ∧ h.2.1 ≤ h.2.2 ∧ h.2.2 ≤ maxLen) ∧ RowsOf w S hs cs
  | _, _ => False
theorem RowsOf.len {w : World} {S : Nat → Prop} : ∀ {hs : List (Option Addr × Nat × Nat)} {cs : List (List Int)}, RowsOf w S hs cs → cs.length = hs.length
  | [], [], _ => rfl
  | h :: hs, c :: cs, hh => by rw [List.length_cons, List.length_cons, RowsOf.len hh.2]
  | [], _ :: _, hh => hh.elim
  | _ :: _, [], hh => hh.elim
theorem RowsOf.get {w : World} {S : Nat → Prop} : ∀ {hs : List (Option Addr × Nat × Nat)} {cs : List (List Int)}, RowsOf w S hs cs → ∀ (j : Nat) (h : Option Addr × Nat × Nat) (c : List Int), hs[j]? = some h → cs[j]? = some c → RInts w S h.1 h.2.1 c ∧ h.2.1 ≤ h.2.2 ∧ h.2.2 ≤ maxLen
  | [], [], _, j, h, c, h1, _ => by simp at h1
  | h :: hs, c :: cs, hh, 0, h', c', h1, h2 => by simp at h1 h2; subst h1 h2; exact hh.1
  | h :: hs, c :: cs, hh, j + 1, h', c', h1, h2 => RowsOf.get hh.2 j h' c' (by simpa using h1) (by simpa using h2)
  | [], _ :: _, hh, _, _, _, _, _ => hh.elim
  | _ :: _, [], hh, _, _, _, _, _ => hh.elim
theorem rclauses_of {w : World} {S : Nat → Prop} {b : Nat} {t : TypeId} {hs : List (Option Addr × Nat × Nat)} {cs : List (List Int)} {n : Nat} (h : RowsOf w S hs cs) (hw : Whole w b t (hs.map fun h => Value.slice h.1 h.2.1 h.2.2)) (hb : S b) (hn : hs.length = n) :
    RClauses w S (some ⟨b, 0, none⟩) n cs :=
  ⟨hs, hw.row hb (by simpa using hn), by rw [h.len, hn], h.get⟩
theorem small_le {n : Nat} (h : n ≤ 1000) : n ≤ maxLen := by unfold maxLen; omega
theorem rints_lit {w : World} {S : Nat → Prop} {b : Nat} {t : TypeId} {xs : List Int} {n : Nat} (hw : Whole w b t (xs.map (Value.int .i64))) (hb : S b) (hn : xs.length = n) (hm : n ≤ maxLen) : RInts w S (some ⟨b, 0, none⟩) n xs ∧ n ≤ n ∧ n ≤ maxLen :=
  ⟨hw.ints hb hn, Nat.le_refl _, hm⟩

def F4 : List (List Int) := [[1, 2], [-1, 2], [1, -2], [-1, -2]]
theorem ref1 : refOk 2 F4 [[1], []] = true ∧ badErr 2 F4 [[1], []] = 0 := by decide +kernel
theorem ref2 : refOk 2 F4 [[]] = false ∧ badErr 2 F4 [[]] = 0 := by decide +kernel
theorem ref3 : badK 2 F4 [[1], [-2], [1, -1]] = -1 ∧ badErr 2 F4 [[1], [-2], [1, -1]] = 0 := by decide +kernel

set_option maxHeartbeats 2000000 in
theorem refuted_any (w : World) :
    Calls Try.prog 18 #[] w fun e w' => e = .returned (.bool true) ∧ Below w.heap.size w w' := by
  go_enter Try.func18, Try.ntmps18
  go_wp2_with fail
  refine (refutes_any (some ⟨w.heap.size + 1 + 1 + 1 + 1, 0, none⟩) (some ⟨w.heap.size + 1 + 1 + 1 + 1 + 1 + 1 + 1 + 1, 0, none⟩) 4 4 2 2 2 F4 [[1], []] _ (fun k => k < w.heap.size + 9) ?s1 ?r1 ?p1 ⟨Nat.le_refl _, small_le (by simp)⟩ ⟨Nat.le_refl _, small_le (by simp)⟩ (by omega) (by omega)).mono ?_
  case s1 => intro k hk; simp; omega
  case r1 =>
    refine rclauses_of (t := 37) (hs := [(some ⟨w.heap.size, 0, none⟩, 2, 2), (some ⟨w.heap.size + 1, 0, none⟩, 2, 2), (some ⟨w.heap.size + 1 + 1, 0, none⟩, 2, 2), (some ⟨w.heap.size + 1 + 1 + 1, 0, none⟩, 2, 2)]) ⟨?_, ?_, ?_, ?_, trivial⟩ (by (repeat (first | (refine Whole.new _ _ _ _ ?_; simp; done) | refine Whole.alloc ?_ _))) (by omega) rfl
    · exact rints_lit (b := w.heap.size) (t := 3) (xs := [1, 2]) (by (repeat (first | (refine Whole.new _ _ _ _ ?_; simp; done) | refine Whole.alloc ?_ _))) (by simp) rfl (small_le (by simp))
    · exact rints_lit (b := w.heap.size + 1) (t := 3) (xs := [-1, 2]) (by (repeat (first | (refine Whole.new _ _ _ _ ?_; simp; done) | refine Whole.alloc ?_ _))) (by simp) rfl (small_le (by simp))
    · exact rints_lit (b := w.heap.size + 1 + 1) (t := 3) (xs := [1, -2]) (by (repeat (first | (refine Whole.new _ _ _ _ ?_; simp; done) | refine Whole.alloc ?_ _))) (by simp) rfl (small_le (by simp))
    · exact rints_lit (b := w.heap.size + 1 + 1 + 1) (t := 3) (xs := [-1, -2]) (by (repeat (first | (refine Whole.new _ _ _ _ ?_; simp; done) | refine Whole.alloc ?_ _))) (by simp) rfl (small_le (by simp))
  case p1 =>
    refine rclauses_of (t := 37) (hs := [(some ⟨w.heap.size + 1 + 1 + 1 + 1 + 1 + 1, 0, none⟩, 1, 1), (some ⟨w.heap.size + 1 + 1 + 1 + 1 + 1 + 1 + 1, 0, none⟩, 0, 0)]) ⟨?_, ?_, trivial⟩ (by (repeat (first | (refine Whole.new _ _ _ _ ?_; simp; done) | refine Whole.alloc ?_ _))) (by omega) rfl
    · exact rints_lit (b := w.heap.size + 1 + 1 + 1 + 1 + 1 + 1) (t := 3) (xs := [1]) (by (repeat (first | (refine Whole.new _ _ _ _ ?_; simp; done) | refine Whole.alloc ?_ _))) (by simp) rfl (small_le (by simp))
    · exact ⟨RInts.nil_, Nat.le_refl _, small_le (by simp)⟩
  rw [ref1.1, ref1.2]
  rintro e w1 ⟨rfl, hb1⟩
  have hW1 : Whole w1 (w.heap.size + 1 + 1 + 1 + 1 + 1) 29 [.int .i64 2, .slice (some ⟨w.heap.size + 1 + 1 + 1 + 1, 0, none⟩) 4 4] := Whole.below (by (repeat (first | (refine Whole.new _ _ _ _ ?_; simp; done) | refine Whole.alloc ?_ _))) hb1 (by simp)
  have hF1 : RClauses w1 (fun k => k < w.heap.size + 9) (some ⟨w.heap.size + 1 + 1 + 1 + 1, 0, none⟩) 4 F4 := by
    refine RClauses.below ?_ hb1 (fun k hk => by simp; omega)
    refine rclauses_of (t := 37) (hs := [(some ⟨w.heap.size, 0, none⟩, 2, 2), (some ⟨w.heap.size + 1, 0, none⟩, 2, 2), (some ⟨w.heap.size + 1 + 1, 0, none⟩, 2, 2), (some ⟨w.heap.size + 1 + 1 + 1, 0, none⟩, 2, 2)]) ⟨?_, ?_, ?_, ?_, trivial⟩ (by (repeat (first | (refine Whole.new _ _ _ _ ?_; simp; done) | refine Whole.alloc ?_ _))) (by omega) rfl
    · exact rints_lit (b := w.heap.size) (t := 3) (xs := [1, 2]) (by (repeat (first | (refine Whole.new _ _ _ _ ?_; simp; done) | refine Whole.alloc ?_ _))) (by simp) rfl (small_le (by simp))
    · exact rints_lit (b := w.heap.size + 1) (t := 3) (xs := [-1, 2]) (by (repeat (first | (refine Whole.new _ _ _ _ ?_; simp; done) | refine Whole.alloc ?_ _))) (by simp) rfl (small_le (by simp))
    · exact rints_lit (b := w.heap.size + 1 + 1) (t := 3) (xs := [1, -2]) (by (repeat (first | (refine Whole.new _ _ _ _ ?_; simp; done) | refine Whole.alloc ?_ _))) (by simp) rfl (small_le (by simp))
    · exact rints_lit (b := w.heap.size + 1 + 1 + 1) (t := 3) (xs := [-1, -2]) (by (repeat (first | (refine Whole.new _ _ _ _ ?_; simp; done) | refine Whole.alloc ?_ _))) (by simp) rfl (small_le (by simp))
  have hs1 : w.heap.size + 9 ≤ w1.heap.size := by have := hb1.size; simp at this; omega
  have Hb1 : Hid (Below w.heap.size w w1) := Below.trans (by go_grown) (hb1.mono (by simp; omega))
  clear hb1
  have hf0 := hW1.cell 0
  have hf1 := hW1.cell 1
  simp only [List.getElem?_cons_zero, List.getElem?_cons_succ] at hf0 hf1
  have HW1 := Lib.hid hW1; have HF1 := Lib.hid hF1; clear hW1 hF1
  go_wp2_with fail
  refine (refutes_any (some ⟨w.heap.size + 1 + 1 + 1 + 1, 0, none⟩) (some ⟨w1.heap.size + 1, 0, none⟩) 4 4 1 1 2 F4 [[]] _ (fun k => k < w1.heap.size + 2) ?s2 ?r2 ?p2 ⟨Nat.le_refl _, small_le (by simp)⟩ ⟨Nat.le_refl _, small_le (by simp)⟩ (by omega) (by omega)).mono ?_
  case s2 => intro k hk; simp; omega
  case r2 => exact (HF1.out.below (B := w1.heap.size) (by go_grown) (fun k hk => by omega)).more (fun k hk => by omega)
  case p2 =>
    refine rclauses_of (t := 37) (hs := [(some ⟨w1.heap.size, 0, none⟩, 0, 0)]) ⟨?_, trivial⟩ (by (repeat (first | (refine Whole.new _ _ _ _ ?_; simp; done) | refine Whole.alloc ?_ _))) (by omega) rfl
    exact ⟨RInts.nil_, Nat.le_refl _, small_le (by simp)⟩
  rw [ref2.1, ref2.2]
  rintro e w2 ⟨rfl, hb2⟩
  have Hb12 : Hid (Below w1.heap.size w1 w2) := Below.trans (by go_grown) (hb2.mono (by simp; omega))
  have hs2 : w1.heap.size + 2 ≤ w2.heap.size := by have := hb2.size; simp at this; omega
  clear hb2 hf0 hf1
  have hW2 := HW1.out.below Hb12.out (by omega)
  have hf0 := hW2.cell 0
  have hf1 := hW2.cell 1
  simp only [List.getElem?_cons_zero, List.getElem?_cons_succ] at hf0 hf1
  clear hW2
  go_wp2_with fail
  refine (bad_any (some ⟨w.heap.size + 1 + 1 + 1 + 1, 0, none⟩) (some ⟨w2.heap.size + 1 + 1 + 1, 0, none⟩) 4 4 3 3 2 F4 [[1], [-2], [1, -1]] _ (fun k => k < w2.heap.size + 4) ?s3 ?r3 ?p3 ⟨Nat.le_refl _, small_le (by simp)⟩ ⟨Nat.le_refl _, small_le (by simp)⟩ (by omega) (by omega)).mono ?_
  case s3 => intro k hk; simp; omega
  case r3 => exact ((HF1.out.below Hb12.out (fun k hk => by omega)).below (B := w2.heap.size) (by go_grown) (fun k hk => by omega)).more (fun k hk => by omega)
  case p3 =>
    refine rclauses_of (t := 37) (hs := [(some ⟨w2.heap.size, 0, none⟩, 1, 1), (some ⟨w2.heap.size + 1, 0, none⟩, 1, 1), (some ⟨w2.heap.size + 1 + 1, 0, none⟩, 2, 2)]) ⟨?_, ?_, ?_, trivial⟩ (by (repeat (first | (refine Whole.new _ _ _ _ ?_; simp; done) | refine Whole.alloc ?_ _))) (by omega) rfl
    · exact rints_lit (b := w2.heap.size) (t := 3) (xs := [1]) (by (repeat (first | (refine Whole.new _ _ _ _ ?_; simp; done) | refine Whole.alloc ?_ _))) (by simp) rfl (small_le (by simp))
    · exact rints_lit (b := w2.heap.size + 1) (t := 3) (xs := [-2]) (by (repeat (first | (refine Whole.new _ _ _ _ ?_; simp; done) | refine Whole.alloc ?_ _))) (by simp) rfl (small_le (by simp))
    · exact rints_lit (b := w2.heap.size + 1 + 1) (t := 3) (xs := [1, -1]) (by (repeat (first | (refine Whole.new _ _ _ _ ?_; simp; done) | refine Whole.alloc ?_ _))) (by simp) rfl (small_le (by simp))
  rw [ref3.1, ref3.2]
  rintro e w3 ⟨rfl, hb3⟩
  have Hb23 : Hid (Below w2.heap.size w2 w3) := Below.trans (by go_grown) (hb3.mono (by simp; omega))
  clear hb3
  go_wp2_with fail
  go_ret
  exact ⟨rfl, (Hb1.out.trans (Hb12.out.mono (by omega))).trans (Hb23.out.mono (by omega))⟩
end Go.Proofs.Ytpkbncfnkgofmaa
