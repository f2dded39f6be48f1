/- Arguments that can be read as data, opened into the words of these proofs. -/
import Derived.Test.YtnkmonmkhmcgaaaGreatDoorBase
import Derived.ProofKit
import Derived.ChangeOld
import Derived.Lib.SmallJoins
import Derived.Deep.Matrix
import Derived.Deep.Grids
namespace Go.Proofs.YtnkmonmkhmcgaaaGreatDoor
open Go.ChangeShapes Go.WideShapes Go.ChangeAt Go.RowKit Go.Joins Go.Deep

theorem spot_add {w : World} {a : Addr} {n : Nat} {f : Nat → Value} (hn : 0 < n) (h : ∀ i, i < n → w.cell? (a.add i) = some (f i)) : ∃ b o, a = ⟨b, o, none⟩ ∧ b < w.heap.size ∧ ∀ j, j < n → w.cell? ⟨b, o + j, none⟩ = some (f j) := by
  obtain ⟨b, o, spot⟩ := a
  have h0 := h 0 hn
  have hs : spot = none := by simpa [Addr.add] using World.cell?_spot h0
  subst hs
  have ha : ∀ j, (⟨b, o, none⟩ : Addr).add j = ⟨b, o + j, none⟩ := by
    intro j; unfold Addr.add; by_cases hj : j = 0 <;> simp [hj]
  refine ⟨b, o, rfl, ?_, fun j hj => by rw [← ha]; exact h j hj⟩
  have := World.block_lt_of_cell? w _ h0
  rw [ha] at this; exact this

theorem row_of_cells {w : World} {a : Addr} {n : Nat} {vs : List Value} (hl : vs.length = n) (h : ∀ i (_ : i < n), w.cell? (a.add i) = vs[i]?) : Row w (fun k => k < w.heap.size) (some a) n vs := by
  refine ⟨hl, fun hn => ?_⟩
  obtain ⟨b, o, rfl, hb, hc⟩ := spot_add (f := fun i => (vs[i]?).getD undef) hn (fun i hi => by rw [h i hi, List.getElem?_eq_getElem (by omega)]; rfl)
  exact ⟨b, o, rfl, hb, fun j hj => by rw [hc j hj, List.getElem?_eq_getElem (by omega)]; rfl⟩

section
variable {H : Type} {enc : TypeId × Value → H} {P : Program} {w : World} {base : Nat} {held : Bool}
def InI64 (xs : List Int) : Prop := ∀ x ∈ xs, -9223372036854775808 ≤ x ∧ x ≤ 9223372036854775807
theorem i64_bd {x : Int} (h : (Lit.int .i64 x).wf = true) : -9223372036854775808 ≤ x ∧ x ≤ 9223372036854775807 := by
  simp [Lit.wf, IntKind.min, IntKind.max, IntKind.bits, IntKind.signed] at h; omega
/-- a slice of ints -/
theorem rints_of_trod {t e : TypeId} {fuel : Nat} {v : Value} {x : DataW H × List MemPlace} (ht : P.underlying t = some (.slice e)) (he : P.underlying e = some (.int .i64)) (hc : P.cellsOf e = 1)
    (h : DataW.trod enc P w base (fun _ => true) held fuel t [v] = some x) : ∃ (A : Option Addr) (n c : Nat) (xs : List Int), v = .slice A n c ∧ n ≤ c ∧ c ≤ maxLen ∧ RInts w (fun k => k < w.heap.size) A n xs ∧ InI64 xs := by
  rcases open_ints ht he hc h with ⟨hcs, _⟩ | ⟨a, len, cap, zs, hcs, _, hl, hm, hz, _, hcell, hwf⟩
  · simp at hcs
    exact ⟨none, 0, 0, [], hcs, Nat.le_refl _, Nat.zero_le _, RInts.nil_, fun x hx => by simp at hx⟩
  · simp at hcs hz
    refine ⟨some a, len, cap, zs.take len, hcs, hl, hm, row_of_cells (by simp; omega) (fun i hi => ?_), fun x hx => i64_bd (hwf x (List.mem_of_mem_take hx))⟩
    rw [hcell i (by omega), List.getElem?_map, List.getElem?_take_of_lt hi, List.getD_eq_getElem?_getD, List.getElem?_eq_getElem (by omega)]; rfl
/-- a slice of bools -/
theorem rbools_of_trod {t e : TypeId} {fuel : Nat} {v : Value} {x : DataW H × List MemPlace} (ht : P.underlying t = some (.slice e)) (he : P.underlying e = some .bool) (hc : P.cellsOf e = 1)
    (h : DataW.trod enc P w base (fun _ => true) held fuel t [v] = some x) : ∃ (A : Option Addr) (n c : Nat) (xs : List Bool), v = .slice A n c ∧ n ≤ c ∧ c ≤ maxLen ∧ RBools w (fun k => k < w.heap.size) A n xs := by
  rcases open_bools ht he hc h with ⟨hcs, _⟩ | ⟨a, len, cap, Bf, hcs, _, hl, hm, _, hcell⟩
  · simp at hcs
    exact ⟨none, 0, 0, [], hcs, Nat.le_refl _, Nat.zero_le _, ⟨rfl, fun h => absurd h (by omega)⟩⟩
  · simp at hcs
    refine ⟨some a, len, cap, (List.range len).map Bf, hcs, hl, hm, row_of_cells (by simp) (fun i hi => ?_)⟩
    rw [hcell i (by omega), List.getElem?_map, List.getElem?_map, List.getElem?_range hi]; rfl
/-- a slice of slices of ints -/
theorem rclauses_of_trod {t e q : TypeId} {fuel : Nat} {v : Value} {x : DataW H × List MemPlace} (ht : P.underlying t = some (.slice e)) (he : P.underlying e = some (.slice q)) (hq : P.underlying q = some (.int .i64)) (hc : P.cellsOf e = 1) (hcq : P.cellsOf q = 1)
    (h : DataW.trod enc P w base (fun _ => true) held fuel t [v] = some x) : ∃ (A : Option Addr) (n c : Nat) (cs : List (List Int)), v = .slice A n c ∧ n ≤ c ∧ c ≤ maxLen ∧ RClauses w (fun k => k < w.heap.size) A n cs ∧ ∀ c ∈ cs, InI64 c := by
  rcases open_int_rows ht he hq hc hcq h with ⟨hcs, _⟩ | ⟨a, len, cap, A, L, C, Z, hcs, _, hl, hm, _, hr⟩
  · simp at hcs
    exact ⟨none, 0, 0, [], hcs, Nat.le_refl _, Nat.zero_le _, RClauses.nil_, fun x hx => by simp at hx⟩
  · simp at hcs
    refine ⟨some a, len, cap, (List.range len).map (fun r => (Z r).take (L r)), hcs, hl, hm, ⟨(List.range len).map (fun r => (A r, L r, C r)), row_of_cells (by simp) (fun i hi => ?_), by simp, fun j hh c h1 h2 => ?_⟩, fun c hc => ?_⟩
    · rw [(hr i (by omega)).1, List.getElem?_map, List.getElem?_map, List.getElem?_range hi]; rfl
    · rw [List.getElem?_map] at h1 h2
      by_cases hj : j < len
      · rw [List.getElem?_range hj] at h1 h2
        simp at h1 h2
        subst h1 h2
        obtain ⟨h3, h4, h5, h6, h7, h8, h9⟩ := hr j (by omega)
        refine ⟨?_, h4, h5⟩
        cases hA : A j with
        | none =>
          have h0 : L j = 0 := by have := h8 hA; omega
          show RInts w _ none (L j) _
          rw [h0]; exact RInts.nil_
        | some a' =>
          show RInts w _ (some a') (L j) _
          exact row_of_cells (by simp; omega) (fun i hi => by
            rw [(h9 a' hA).2 i (by omega), List.getElem?_map, List.getElem?_take_of_lt hi, List.getD_eq_getElem?_getD, List.getElem?_eq_getElem (by omega)]; rfl)
      · rw [List.getElem?_eq_none (by simp; omega)] at h1; cases h1
    · obtain ⟨r, hr', rfl⟩ := List.mem_map.1 hc
      rw [List.mem_range] at hr'
      exact fun x hx => i64_bd ((hr r (by omega)).2.2.2.2.1 x (List.mem_of_mem_take hx))
end
end Go.Proofs.YtnkmonmkhmcgaaaGreatDoor
