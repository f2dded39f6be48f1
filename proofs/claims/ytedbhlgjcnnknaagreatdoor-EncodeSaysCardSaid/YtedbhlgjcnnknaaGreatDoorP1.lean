/- Parts of the proof: walks and plain laws, side by side. -/
import Derived.WalkKit
import Derived.Below
import Derived.Laws.OwnMore
import Derived.Deep.Draws
import Derived.Lib.Hide
import Derived.Test.YtedbhlgjcnnknaaGreatDoorProg
import Derived.Deep.LoopGhost
import Derived.StillTailTactics
import Derived.BigQuiet
import Derived.Maps.RangeWalk
import Derived.Maps.OwnSet
import Derived.Deep.RegionHeld3
import Derived.Deep.AppendLies
import Derived.OwnWalk
import Derived.Maps.AppendAt
import Derived.Lib.AppendZerosOnto
import Derived.Lib.Walk
import Derived.Lib.AtoiAll
import Derived.Lib.ItoaNum
import Derived.Lib.IndexAny
import Derived.Lib.IndexLaws
set_option linter.unusedVariables false
set_option linter.unusedSimpArgs false
set_option linter.unusedSectionVars false
set_option maxRecDepth 100000
set_option maxHeartbeats 12800000
namespace Go.Proofs.YtedbhlgjcnnknaaGreatDoor
open Go.RowKit
def Row (w : World) (S : Nat → Prop) (A : Option Addr) (n : Nat) (vs : List Value) : Prop :=
 vs.length = n ∧ (0 < n → ∃ b o, A = some ⟨b, o, none⟩ ∧ S b ∧ ∀ j, j < n → w.cell? ⟨b, o + j, none⟩ = vs[j]?)
section
variable {w w' : World} {S S' : Nat → Prop} {B n : Nat} {A : Option Addr} {vs : List Value}
theorem Row.len (h : Row w S A n vs) : vs.length = n := h.1
theorem Row.nil_ : Row w S A 0 [] := ⟨rfl, fun h => absurd h (by omega)⟩
theorem Row.at_ {k : Nat} (h : Row w S A n vs) (hk : k < n) : ∃ b o, A = some ⟨b, o, none⟩ ∧ S b ∧ w.cell? ⟨b, o + k, none⟩ = vs[k]? := by
 obtain ⟨b, o, e, hb, hc⟩ := h.2 (by omega)
 exact ⟨b, o, e, hb, hc k hk⟩
theorem Row.keep (h : Row w S A n vs) (hk : ∀ p : Addr, S p.block → w'.cell? p = w.cell? p) : Row w' S A n vs :=
 ⟨h.1, fun hn => by
  obtain ⟨b, o, e, hb, hc⟩ := h.2 hn
  exact ⟨b, o, e, hb, fun j hj => (hk _ hb).trans (hc j hj)⟩⟩
theorem Row.more (h : Row w S A n vs) (hS : ∀ k, S k → S' k) : Row w S' A n vs :=
 ⟨h.1, fun hn => by
  obtain ⟨b, o, e, hb, hc⟩ := h.2 hn
  exact ⟨b, o, e, hS _ hb, hc⟩⟩
theorem Row.below (h : Row w S A n vs) (hb : Below B w w') (hS : ∀ k, S k → k < B) : Row w' S A n vs := h.keep fun _ hp => hb.cell (hS _ hp)
theorem Row.drop (h : Row w S A n vs) {k cap : Nat} (hk : k ≤ n) (hc : n ≤ cap) : Row w S (if cap = k then A else A.map (·.add k)) (n - k) (vs.drop k) := by
 refine ⟨by rw [List.length_drop, h.1], fun hn => ?_⟩
 obtain ⟨b, o, e, hb, hcell⟩ := h.2 (by omega)
 subst e
 rw [if_neg (by omega)]
 have he : (⟨b, o, none⟩ : Addr).add k = ⟨b, o + k, none⟩ := by
  unfold Addr.add
  by_cases h0 : k = 0 <;> simp [h0]
 refine ⟨b, o + k, by rw [Option.map_some, he], hb, fun j hj => ?_⟩
 rw [List.getElem?_drop, ← hcell (k + j) (by omega), Nat.add_assoc]
def RInts (w : World) (S : Nat → Prop) (A : Option Addr) (n : Nat) (xs : List Int) : Prop := Row w S A n (xs.map (Value.int .i64))
theorem RInts.len {xs : List Int} (h : RInts w S A n xs) : xs.length = n := by have := h.1; simpa using this
theorem RInts.at_ {xs : List Int} {k : Nat} (h : RInts w S A n xs) (hk : k < n) : ∃ b o, A = some ⟨b, o, none⟩ ∧ S b ∧ w.cell? ⟨b, o + k, none⟩ = some (.int .i64 (xs.getD k 0)) := by
 obtain ⟨b, o, hA, hb, hc⟩ := Row.at_ h hk
 have hl := h.len
 refine ⟨b, o, hA, hb, ?_⟩
 rw [hc, List.getElem?_map, List.getElem?_eq_getElem (by omega), List.getD_eq_getElem?_getD, List.getElem?_eq_getElem (by omega)]; rfl
def RBools (w : World) (S : Nat → Prop) (A : Option Addr) (n : Nat) (xs : List Bool) : Prop := Row w S A n (xs.map Value.bool)
theorem RBools.len {xs : List Bool} (h : RBools w S A n xs) : xs.length = n := by have := h.1; simpa using this
theorem RBools.at_ {xs : List Bool} {k : Nat} (h : RBools w S A n xs) (hk : k < n) : ∃ b o, A = some ⟨b, o, none⟩ ∧ S b ∧ w.cell? ⟨b, o + k, none⟩ = some (.bool (xs.getD k false)) := by
 obtain ⟨b, o, hA, hb, hc⟩ := Row.at_ h hk
 have hl := h.len
 refine ⟨b, o, hA, hb, ?_⟩
 rw [hc, List.getElem?_map, List.getElem?_eq_getElem (by omega), List.getD_eq_getElem?_getD, List.getElem?_eq_getElem (by omega)]; rfl
def RClauses (w : World) (S : Nat → Prop) (A : Option Addr) (n : Nat) (cs : List (List Int)) : Prop :=
 ∃ hs : List (Option Addr × Nat × Nat), Row w S A n (hs.map fun h => Value.slice h.1 h.2.1 h.2.2) ∧ cs.length = n ∧
  ∀ (j : Nat) (h : Option Addr × Nat × Nat) (c : List Int), hs[j]? = some h → cs[j]? = some c → RInts w S h.1 h.2.1 c ∧ h.2.1 ≤ h.2.2 ∧ h.2.2 ≤ maxLen
theorem RClauses.len {cs : List (List Int)} (h : RClauses w S A n cs) : cs.length = n := by obtain ⟨_, _, h, _⟩ := h; exact h
theorem RClauses.at_ {cs : List (List Int)} {k : Nat} (h : RClauses w S A n cs) (hk : k < n) : ∃ b o A' n' c', A = some ⟨b, o, none⟩ ∧ S b ∧ w.cell? ⟨b, o + k, none⟩ = some (.slice A' n' c') ∧
  RInts w S A' n' (cs.getD k []) ∧ n' ≤ c' ∧ c' ≤ maxLen := by
 obtain ⟨hs, hr, hl, hi⟩ := h
 obtain ⟨b, o, hA, hb, hc⟩ := hr.at_ hk
 have hsl : hs.length = n := by simpa using hr.len
 have e1 : hs[k]? = some (hs[k]'(by omega)) := List.getElem?_eq_getElem (by omega)
 have e2 : cs[k]? = some (cs[k]'(by omega)) := List.getElem?_eq_getElem (by omega)
 have e3 : cs.getD k [] = cs[k]'(by omega) := by rw [List.getD_eq_getElem?_getD, e2]; rfl
 refine ⟨b, o, (hs[k]'(by omega)).1, (hs[k]'(by omega)).2.1, (hs[k]'(by omega)).2.2, hA, hb, ?_, ?_⟩
 ·rw [hc, List.getElem?_map, e1]; rfl
 ·rw [e3]; exact hi k _ _ e1 e2
theorem RInts.keep {xs : List Int} (h : RInts w S A n xs) (hk : ∀ p : Addr, S p.block → w'.cell? p = w.cell? p) : RInts w' S A n xs := Row.keep h hk
theorem RInts.below {xs : List Int} (h : RInts w S A n xs) (hb : Below B w w') (hS : ∀ k, S k → k < B) : RInts w' S A n xs := Row.below h hb hS
theorem RInts.more {xs : List Int} (h : RInts w S A n xs) (hS : ∀ k, S k → S' k) : RInts w S' A n xs := Row.more h hS
theorem RInts.nil_ : RInts w S A 0 [] := Row.nil_
theorem RBools.below {xs : List Bool} (h : RBools w S A n xs) (hb : Below B w w') (hS : ∀ k, S k → k < B) : RBools w' S A n xs := Row.below h hb hS
theorem RBools.more {xs : List Bool} (h : RBools w S A n xs) (hS : ∀ k, S k → S' k) : RBools w S' A n xs := Row.more h hS
theorem RClauses.keep {cs : List (List Int)} (h : RClauses w S A n cs) (hk : ∀ p : Addr, S p.block → w'.cell? p = w.cell? p) : RClauses w' S A n cs := by
 obtain ⟨hs, hr, hl, hi⟩ := h
 exact ⟨hs, hr.keep hk, hl, fun j h c h1 h2 => ⟨(hi j h c h1 h2).1.keep hk, (hi j h c h1 h2).2⟩⟩
theorem RClauses.below {cs : List (List Int)} (h : RClauses w S A n cs) (hb : Below B w w') (hS : ∀ k, S k → k < B) : RClauses w' S A n cs := h.keep fun _ hp => hb.cell (hS _ hp)
theorem RClauses.more {cs : List (List Int)} (h : RClauses w S A n cs) (hS : ∀ k, S k → S' k) : RClauses w S' A n cs := by
 obtain ⟨hs, hr, hl, hi⟩ := h
 exact ⟨hs, hr.more hS, hl, fun j h c h1 h2 => ⟨(hi j h c h1 h2).1.more hS, (hi j h c h1 h2).2⟩⟩
theorem RClauses.nil_ : RClauses w S A 0 [] := ⟨[], Row.nil_, rfl, fun j h c h1 _ => by simp at h1⟩
def Whole (w : World) (b : Nat) (t : TypeId) (vs : List Value) : Prop := w.heap[b]? = some (.cells vs.toArray t (0, 0))
variable {b : Nat} {t : TypeId}
theorem Whole.lt (h : Whole w b t vs) : b < w.heap.size := lt_of_block h
theorem Whole.cell (h : Whole w b t vs) (i : Nat) : w.cell? ⟨b, i, none⟩ = vs[i]? := by rw [cell_of_row w b i _ t (0, 0) h]; simp
theorem Whole.free (h : Whole w b t vs) (i : Nat) : w.frozen? ⟨b, i, none⟩ = false := frozen_of_row w b i _ t h
theorem Whole.new (w : World) (b : Nat) (t : TypeId) (vs : List Value) (h : b = w.heap.size) : Whole (w.alloc (.cells vs.toArray t)) b t vs := by subst h; exact heap_alloc_new w _
theorem Whole.alloc (h : Whole w b t vs) (o : Obj) : Whole (w.alloc o) b t vs := (Below.heap_alloc w o b h.lt).trans h
theorem Whole.drew (h : Whole w b t vs) : Whole w.drew b t vs := h
theorem Whole.drewN (h : Whole w b t vs) (k : Nat) : Whole (w.drewN k) b t vs := h
theorem Whole.set_ (h : Whole w b t vs) (i : Nat) (u : Value) : Whole (w.setCell ⟨b, i, none⟩ u) b t (vs.set i u) := by
 unfold Whole at h ⊢
 rw [heap_setCell_same w b i _ t u h]; simp
theorem Whole.far (h : Whole w b t vs) {p : Addr} (hp : b ≠ p.block) (u : Value) : Whole (w.setCell p u) b t vs := (heap_setCell_other w p b u hp).trans h
theorem Whole.below {B : Nat} (h : Whole w b t vs) (hb : Below B w w') (hg : b < B) : Whole w' b t vs := (hb.block b hg).trans h
theorem Whole.grown {row : Option Nat} (h : Whole w b t vs) (hg : w.grownBy w' row) (hr : some b ≠ row) : Whole w' b t vs := (hg.block b h.lt hr).trans h
theorem Whole.row (h : Whole w b t vs) {S : Nat → Prop} (hB : S b) {n : Nat} (hn : vs.length = n) : Row w S (some ⟨b, 0, none⟩) n vs :=
 ⟨hn, fun _ => ⟨b, 0, rfl, hB, fun j _ => by rw [Nat.zero_add]; exact h.cell j⟩⟩
theorem Whole.ints {xs : List Int} (h : Whole w b t (xs.map (Value.int .i64))) {S : Nat → Prop} (hB : S b) {n : Nat} (hn : xs.length = n) : RInts w S (some ⟨b, 0, none⟩) n xs :=
 Whole.row h hB (by simpa using hn)
theorem Whole.bools {xs : List Bool} (h : Whole w b t (xs.map Value.bool)) {S : Nat → Prop} (hB : S b) {n : Nat} (hn : xs.length = n) : RBools w S (some ⟨b, 0, none⟩) n xs :=
 Whole.row h hB (by simpa using hn)
theorem row_of_own {base : Nat} {e : TypeId} {c : Nat} (h : w.ownsRow base e 1 (.slice A n c) n vs) {S : Nat → Prop} (hS : ∀ g, (.slice A n c : Value).ownBlock = some g → S g) : Row w S A n vs := by
 refine ⟨by simpa using h.1, fun hn => ?_⟩
 rcases h.2 with ⟨_, h0⟩ | ⟨g, cap, cur, hv, hb, hh, hc, hm, hs, ht⟩
 ·omega
 ·injection hv with h1 h2 h3
  subst h1 h3
  refine ⟨g, 0, rfl, hS g rfl, fun j hj => ?_⟩
  rw [Nat.zero_add]; exact h.cellAt j (by omega)
theorem below_drewN {B : Nat} {a w : World} (h : Below B a w) (n : Nat) : Below B a (w.drewN n) := ⟨h.os, h.tape, h.output, h.size, h.block⟩
theorem below_of_grown {B : Nat} {w w' : World} {row : Option Nat} (hg : w.grownBy w' row) (hB : B ≤ w.heap.size) (hr : ∀ k, row = some k → B ≤ k) : Below B w w' := (Below.refl B w).grown hg hB hr
theorem grown_of_below {a w : World} (h : Below a.heap.size a w) (row : Option Nat) : a.grownBy w row := ⟨h.os, h.tape, h.output, h.size, fun i hi _ => h.block i hi⟩
end
theorem ret_int {k : IntKind} {a b : Int} (h : a = b) : Ending.returned (.int k a) = .returned (.int k b) := by rw [h]
theorem ret_bool {a b : Bool} (h : a = b) : Ending.returned (.bool a) = .returned (.bool b) := by rw [h]
theorem qh {p : Prop} (h : p) : Go.RowKit.Hid p := h
theorem qr (n : Nat) : n ≤ n := Nat.le_refl n
theorem ql {a b c : Nat} (h : a < b) (g : b ≤ c) : a < c := Nat.lt_of_lt_of_le h g
theorem qgz {α : Type} {a : α} {l : List α} : (a :: l)[0]? = some a := List.getElem?_cons_zero
theorem qgs {α : Type} {a : α} {l : List α} {i : Nat} : (a :: l)[i + 1]? = l[i]? := List.getElem?_cons_succ
theorem qsa {α : Type} {l : List α} {i : Nat} {a : α} : l.toArray.setIfInBounds i a = (l.set i a).toArray := List.setIfInBounds_toArray _ _ _
theorem qsz {α : Type} {x : α} {l : List α} {a : α} : (x :: l).set 0 a = a :: l := List.set_cons_zero
theorem qge {α : Type} {l : List α} {i : Nat} (h : i < l.length) : l[i]? = some l[i] := List.getElem?_eq_getElem h
theorem qgd {α : Type} {l : List α} {i : Nat} {a : α} : l.getD i a = l[i]?.getD a := List.getD_eq_getElem?_getD
theorem qlt {a b c : Nat} (h : a ≤ b) (g : b ≤ c) : a ≤ c := Nat.le_trans h g
theorem qdf {p : Prop} [Decidable p] (h : ¬ p) : decide p = false := decide_eq_false h
theorem qdt {p : Prop} [Decidable p] (h : p) : decide p = true := decide_eq_true h
theorem qgm {α β : Type} {f : α → β} {l : List α} {i : Nat} : (l.map f)[i]? = Option.map f l[i]? := List.getElem?_map
theorem qss {α : Type} {x : α} {l : List α} {i : Nat} {a : α} : (x :: l).set (i + 1) a = x :: l.set i a := List.set_cons_succ
end Go.Proofs.YtedbhlgjcnnknaaGreatDoor

namespace Qm
def vof (v : List Int) (n : Int) : Int := if n < 0 then - v.getD (-n).toNat 0 else v.getD n.toNat 0
def vset (v : List Int) (n : Int) : List Int := if n < 0 then v.set (-n).toNat (-1) else v.set n.toNat 1
def scanStep (v : List Int) (st : Int × Int) (n : Int) : Int × Int :=
 if st.2 < 0 then st
 else if vof v n = 1 then (st.1, -1)
 else if vof v n = 0 ∧ (st.2 = 0 ∨ st.2 = 1 ∧ st.1 ≠ n) then (n, st.2 + 1)
 else st
def scan (v : List Int) (c : List Int) : Int × Int := c.foldl (scanStep v) (0, 0)
def passOne (s : Option (List Int × Bool)) (c : List Int) : Option (List Int × Bool) :=
 match s with
 | none => none
 | some (v, m) => if (scan v c).2 = 0 then none else if (scan v c).2 = 1 then some (vset v (scan v c).1, true) else some (v, m)
def pass (cs : List (List Int)) (v : List Int) : Option (List Int × Bool) := cs.foldl passOne (some (v, false))
def spreadN (cs : List (List Int)) : Nat → List Int → Option (List Int)
 | 0, v => some v
 | k + 1, v => match pass cs v with
  | none => none
  | some (v', m) => if m then spreadN cs k v' else some v'
def zeros (v : List Int) : Nat := (v.drop 1).count 0
def spread (cs : List (List Int)) (v : List Int) : Option (List Int) := spreadN cs (zeros v + 1) v
def IsLit (N : Nat) (n : Int) : Prop := n ≠ 0 ∧ n.natAbs ≤ N
def IsCl (N : Nat) (c : List Int) : Prop := ∀ n ∈ c, IsLit N n
def Fine (N : Nat) (v : List Int) : Prop := v.length = N + 1 ∧ ∀ x ∈ v, x = 0 ∨ x = 1 ∨ x = -1
theorem vof_neg (v : List Int) (n : Int) (h : n ≠ 0) : vof v (-n) = - vof v n := by
 unfold vof
 by_cases h1 : n < 0
 ·rw [if_pos h1, if_neg (by omega)]; simp
 ·rw [if_neg h1, if_pos (by omega)]; simp
theorem vof_range {N : Nat} {v : List Int} (hv : Fine N v) (n : Int) : vof v n = 0 ∨ vof v n = 1 ∨ vof v n = -1 := by
 have key : ∀ k, v.getD k 0 = 0 ∨ v.getD k 0 = 1 ∨ v.getD k 0 = -1 := by
  intro k
  by_cases hk : k < v.length
  ·have := hv.2 v[k] (List.getElem_mem hk)
   simpa [List.getD, hk] using this
  ·left; simp [List.getD, List.getElem?_eq_none (by omega : v.length ≤ k)]
 unfold vof
 split
 ·have := key (-n).toNat; omega
 ·exact key n.toNat
theorem vof_vset {N : Nat} {v : List Int} (hv : Fine N v) {n : Int} (hn : IsLit N n) (m : Int) (hm : m ≠ 0) :
  vof (vset v n) m = if m = n then 1 else if m = -n then -1 else vof v m := by
 have hl := hv.1
 obtain ⟨h0, h1⟩ := hn
 have hg : ∀ (k j : Nat) (x : Int), k < v.length → (v.set k x).getD j 0 = if j = k then x else v.getD j 0 := by
  intro k j x hk
  by_cases hjk : j = k
  ·subst hjk; simp [List.getD, hk]
  ·simp only [List.getD]; rw [List.getElem?_set_ne (by omega)]; simp [hjk]
 unfold vof vset
 by_cases hn0 : n < 0
 ·rw [if_pos hn0]
  by_cases hm0 : m < 0
  ·rw [if_pos hm0, if_pos hm0, hg _ _ _ (by omega)]
   by_cases e : m = n
   ·subst e; simp
   ·rw [if_neg (by omega), if_neg e, if_neg (by omega)]
  ·rw [if_neg hm0, if_neg hm0, hg _ _ _ (by omega)]
   by_cases e : m = -n
   ·subst e; rw [if_pos rfl, if_neg (by omega), if_pos rfl]
   ·rw [if_neg (by omega), if_neg (by omega), if_neg e]
 ·rw [if_neg hn0]
  by_cases hm0 : m < 0
  ·rw [if_pos hm0, if_pos hm0, hg _ _ _ (by omega)]
   by_cases e : m = -n
   ·subst e; rw [if_pos (by omega), if_neg (by omega), if_pos rfl]
   ·rw [if_neg (by omega), if_neg (by omega), if_neg e]
  ·rw [if_neg hm0, if_neg hm0, hg _ _ _ (by omega)]
   by_cases e : m = n
   ·subst e; simp
   ·rw [if_neg (by omega), if_neg e, if_neg (by omega)]
def ScanSays (v : List Int) (d : List Int) (st : Int × Int) : Prop :=
 (st.2 = -1 ∧ ∃ x ∈ d, vof v x = 1) ∨
 (st.2 = 0 ∧ ∀ x ∈ d, vof v x ≠ 1 ∧ vof v x ≠ 0) ∨
 (st.2 = 1 ∧ st.1 ∈ d ∧ vof v st.1 = 0 ∧ (∀ x ∈ d, vof v x ≠ 1 ∧ (vof v x = 0 → x = st.1))) ∨
 (2 ≤ st.2 ∧ (∀ x ∈ d, vof v x ≠ 1) ∧ ∃ x ∈ d, ∃ y ∈ d, x ≠ y ∧ vof v x = 0 ∧ vof v y = 0)
theorem scan_inv (v : List Int) (c d : List Int) (st : Int × Int) (h : ScanSays v d st) : ScanSays v (d ++ c) (c.foldl (scanStep v) st) := by
 induction c generalizing d st with
 | nil => simpa using h
 | cons n c ih =>
  have he : d ++ n :: c = (d ++ [n]) ++ c := by simp
  rw [he, List.foldl_cons]
  apply ih
  rcases h with ⟨h1, x, hx, hx1⟩ | ⟨h1, h2⟩ | ⟨h1, h2, h3, h4⟩ | ⟨h1, h2, x, hx, y, hy, hxy, hx0, hy0⟩
  ·have : scanStep v st n = st := by simp [scanStep, h1]
   rw [this]
   exact .inl ⟨h1, x, by simp [hx], hx1⟩
  ·by_cases a : vof v n = 1
   ·have : scanStep v st n = (st.1, -1) := by simp [scanStep, h1, a]
    rw [this]; exact .inl ⟨rfl, n, by simp, a⟩
   ·by_cases b : vof v n = 0
    ·have : scanStep v st n = (n, 1) := by simp [scanStep, h1, b]
     rw [this]
     refine .inr (.inr (.inl ⟨rfl, by simp, b, fun x hx => ?_⟩))
     rcases List.mem_append.1 hx with hx | hx
     ·exact ⟨(h2 x hx).1, fun h => absurd h (h2 x hx).2⟩
     ·simp at hx; subst hx; exact ⟨a, fun _ => rfl⟩
    ·have : scanStep v st n = st := by simp [scanStep, a, b]
     rw [this]
     refine .inr (.inl ⟨h1, fun x hx => ?_⟩)
     rcases List.mem_append.1 hx with hx | hx
     ·exact h2 x hx
     ·simp at hx; subst hx; exact ⟨a, b⟩
  ·by_cases a : vof v n = 1
   ·have : scanStep v st n = (st.1, -1) := by simp [scanStep, h1, a]
    rw [this]; exact .inl ⟨rfl, n, by simp, a⟩
   ·by_cases b : vof v n = 0
    ·by_cases e1 : st.1 = n
     ·have : scanStep v st n = st := by simp [scanStep, h1, b, e1]
      rw [this]
      refine .inr (.inr (.inl ⟨h1, by simp [h2], h3, fun x hx => ?_⟩))
      rcases List.mem_append.1 hx with hx | hx
      ·exact h4 x hx
      ·simp at hx; subst hx; exact ⟨a, fun _ => e1.symm⟩
     ·have : scanStep v st n = (n, 2) := by simp [scanStep, h1, b, e1]
      rw [this]
      refine .inr (.inr (.inr ⟨by simp, fun x hx => ?_, st.1, by simp [h2], n, by simp, e1, h3, b⟩))
      rcases List.mem_append.1 hx with hx | hx
      ·exact (h4 x hx).1
      ·simp at hx; subst hx; exact a
    ·have : scanStep v st n = st := by simp [scanStep, a, b]
     rw [this]
     refine .inr (.inr (.inl ⟨h1, by simp [h2], h3, fun x hx => ?_⟩))
     rcases List.mem_append.1 hx with hx | hx
     ·exact h4 x hx
     ·simp at hx; subst hx; exact ⟨a, fun h => absurd h b⟩
  ·by_cases a : vof v n = 1
   ·have : scanStep v st n = (st.1, -1) := by
     have : ¬ st.2 < 0 := by omega
     simp [scanStep, this, a]
    rw [this]; exact .inl ⟨rfl, n, by simp, a⟩
   ·have : scanStep v st n = st := by
     have h3 : ¬ st.2 < 0 := by omega
     have h4 : ¬ (st.2 = 0 ∨ st.2 = 1 ∧ st.1 ≠ n) := by omega
     simp only [scanStep, h3, a, h4, if_false, and_false]
    rw [this]
    refine .inr (.inr (.inr ⟨h1, fun z hz => ?_, x, by simp [hx], y, by simp [hy], hxy, hx0, hy0⟩))
    rcases List.mem_append.1 hz with hz | hz
    ·exact h2 z hz
    ·simp at hz; subst hz; exact a
theorem count_set_zero (l : List Int) (k : Nat) (x : Int) (hk : k < l.length) (h0 : l[k] = 0) (hx : x ≠ 0) : (l.set k x).count 0 + 1 = l.count 0 := by
 induction l generalizing k with
 | nil => simp at hk
 | cons a l ih =>
  cases k with
  | zero =>
   simp at h0; subst h0
   simp [List.set, List.count_cons, hx]
  | succ k =>
   have := ih k (by simpa using hk) (by simpa using h0)
   simp only [List.set, List.count_cons]; omega
theorem zeros_vset {N : Nat} {v : List Int} (hv : Fine N v) {n : Int} (hn : IsLit N n) (h : vof v n = 0) : zeros (vset v n) + 1 = zeros v := by
 have hl := hv.1
 obtain ⟨h0, h1⟩ := hn
 have key : ∀ (k : Nat) (x : Int), 1 ≤ k → k < v.length → v.getD k 0 = 0 → x ≠ 0 → zeros (v.set k x) + 1 = zeros v := by
  intro k x hk1 hk hz hx
  unfold zeros
  obtain ⟨j, rfl⟩ : ∃ j, k = j + 1 := ⟨k - 1, by omega⟩
  have : (v.set (j+1) x).drop 1 = (v.drop 1).set j x := by
   cases v with
   | nil => rfl
   | cons a v => rfl
  rw [this]
  refine count_set_zero _ _ _ (by simp; omega) ?_ hx
  rw [List.getD_eq_getElem?_getD, List.getElem?_eq_getElem hk] at hz
  simpa using hz
 unfold vset
 unfold vof at h
 by_cases hn0 : n < 0
 ·rw [if_pos hn0] at h ⊢
  exact key _ _ (by omega) (by omega) (by omega) (by omega)
 ·rw [if_neg hn0] at h ⊢
  exact key _ _ (by omega) (by omega) h (by omega)
def assume1 (s : Option (List Int)) (n : Int) : Option (List Int) := match s with | none => none | some v => if vof v n = -1 then none else some (vset v n)
def assume (ls : List Int) (v : List Int) : Option (List Int) := ls.foldl assume1 (some v)
def zeroVals (N : Nat) : List Int := List.replicate (N + 1) 0
end Qm

namespace Go.Proofs.YtedbhlgjcnnknaaGreatDoor
open Go.RowKit
end Go.Proofs.YtedbhlgjcnnknaaGreatDoor

namespace Go.Proofs.YtedbhlgjcnnknaaGreatDoor
open Go.RowKit
end Go.Proofs.YtedbhlgjcnnknaaGreatDoor

namespace Go.Proofs.YtedbhlgjcnnknaaGreatDoor
open Go.RowKit
end Go.Proofs.YtedbhlgjcnnknaaGreatDoor

namespace Go.Proofs.YtedbhlgjcnnknaaGreatDoor
open Go.RowKit
def badLit (vars n : Int) : Bool := decide (vars < 0) || n == 0 || decide (n < -vars) || decide (n > vars)
def ckClause (c : List Int) (vars : Int) : Int := if 60 < c.length then 2 else if c.any (badLit vars) then 5 else 0
theorem any_take_succ (p : Int → Bool) (c : List Int) (k : Nat) (h : k < c.length) : (c.take (k+1)).any p = ((c.take k).any p || p (c.getD k 0)) := by
  rw [List.take_succ_eq_append_getElem h]; rw [List.any_append]; simp [List.getD, h]
theorem any_of_take (p : Int → Bool) (c : List Int) (k : Nat) (h : (c.take k).any p = true) : c.any p = true := by
  rw [List.any_eq_true] at h ⊢
  obtain ⟨x, hx, hp⟩ := h
  exact ⟨x, List.mem_of_mem_take hx, hp⟩
theorem ckClause_bad {c : List Int} {vars x : Int} {n k : Nat} (hn : c.length = n) (h60 : ¬ 60 < n) (hk : k < n) (hx : c.getD k 0 = x) (h : badLit vars x = true) : ckClause c vars = 5 := by
  subst hn hx
  unfold ckClause
  rw [if_neg h60, if_pos]
  exact any_of_take _ _ (k+1) (by rw [any_take_succ _ _ _ hk, h]; simp)
theorem ckClause_end {c : List Int} {vars : Int} {n k : Nat} (hn : c.length = n) (h60 : ¬ 60 < n) (hk : ¬ k < n) (h : (c.take k).any (badLit vars) = false) : ckClause c vars = 0 := by
  subst hn
  unfold ckClause
  rw [List.take_of_length_le (by omega)] at h
  rw [if_neg h60, if_neg]
  rw [h]; simp
theorem anyBad_step {c : List Int} {p : Int → Bool} {x : Int} {n k : Nat} (hn : c.length = n) (hk : k < n) (hx : c.getD k 0 = x) (h : (c.take k).any p = false) (h1 : p x = false) : (c.take (k+1)).any p = false := by
  subst hn hx
  rw [any_take_succ _ _ _ hk, h, h1]; rfl
theorem badLit_yes {vars x : Int} (h : vars < 0 ∨ x = 0 ∨ x < -vars ∨ vars < x) : badLit vars x = true := by
  simp only [badLit, Bool.or_eq_true, decide_eq_true_eq, beq_iff_eq]; omega
theorem badLit_no {vars x : Int} (h : ¬ (vars < 0 ∨ x = 0 ∨ x < -vars ∨ vars < x)) : badLit vars x = false := by
  rw [Bool.eq_false_iff]; intro h'; simp only [badLit, Bool.or_eq_true, decide_eq_true_eq, beq_iff_eq] at h'; omega
theorem checkClause_any (A : Option Addr) (n cap : Nat) (c : List Int) (vars : Int) (w : World) (S : Nat → Prop) (hr : RInts w S A n c) (hn : n ≤ maxLen) (hv : -9223372036854775808 ≤ vars) (hv' : vars ≤ 9223372036854775807) :
    Calls Tryz.prog 69 #[.slice A n cap, .int .i64 vars] w fun e w' => e = .returned (.int .i64 (ckClause c vars)) ∧ w = w' := by
  unfold maxLen at hn
  have Hlen := qh hr.len
  by_cases h60 : 60 < n
  · have h60' : (60 : Int) < (n : Int) := by omega
    go_enter Tryz.func69, Tryz.ntmps69
    go_wp2
    go_ret
    exact ⟨ret_int (by unfold ckClause; rw [if_pos (by have := Hlen.out; omega)]), rfl⟩
  · have hd60 : decide ((60 : Int) < (n : Int)) = false := by simp; omega
    go_enter Tryz.func69, Tryz.ntmps69
    go_wp2
    go_loop [12] (fun i => ∃ k : Nat, k ≤ n ∧ i = .int .i64 k ∧ (c.take k).any (badLit vars) = false) (fun i => n - (intOf i).toNat)
    case atStart => exact ⟨0, Nat.zero_le _, rfl, rfl⟩
    case round =>
      obtain ⟨k, hk, rfl, hany⟩ := hrel
      have Hany := qh hany; clear hany
      by_cases hlt : k < n
      · obtain ⟨b, o, rfl, hb, hc⟩ := hr.at_ hlt
        generalize hx : c.getD k 0 = x at hc
        have Hx := qh hx; clear hx
        rcases Decidable.em (x = 0) with h0 | h0
        · have h1 : (x == 0) = true := by simpa using h0
          have h2 := qh h0; clear h0
          go_wp2
          all_goals (go_ret; exact ⟨ret_int (ckClause_bad Hlen.out h60 hlt Hx.out (badLit_yes (.inr (.inl h2.out)))).symm, rfl⟩)
        have h1 : (x == 0) = false := by simpa using h0
        go_wp2
        all_goals first
          | (go_ret; refine ⟨ret_int ?_, rfl⟩; exact (ckClause_bad Hlen.out h60 hlt Hx.out (badLit_yes (by omega))).symm)
          | (go_round
             case rel => refine ⟨k + 1, by omega, by go_num, anyBad_step Hlen.out hlt Hx.out Hany.out (badLit_no (by omega))⟩
             case measure => simp [intOf]; omega)
      · go_wp2
        go_ret
        exact ⟨ret_int (ckClause_end Hlen.out h60 hlt Hany.out).symm, rfl⟩
end Go.Proofs.YtedbhlgjcnnknaaGreatDoor

namespace Go.Proofs.YtedbhlgjcnnknaaGreatDoor
open Go.RowKit
def ckClauses (cs : List (List Int)) (vars : Int) : Int := match cs.find? (fun c => ckClause c vars != 0) with | some c => ckClause c vars | none => 0
def ckFormula (vars : Int) (cs : List (List Int)) : Int := if vars < 0 ∨ 400 < vars then 3 else if 4000 < cs.length then 2 else ckClauses cs vars
def NoneBad (cs : List (List Int)) (vars : Int) (k : Nat) : Prop := ∀ c ∈ cs.take k, ckClause c vars = 0
theorem ckClauses_bad {cs : List (List Int)} {vars : Int} {k : Nat} {c : List Int} (h : NoneBad cs vars k) (hk : k < cs.length) (hc : cs.getD k [] = c) (hb : (ckClause c vars != 0) = true) : ckClauses cs vars = ckClause c vars := by
 have e : cs = cs.take k ++ c :: cs.drop (k+1) := by
  rw [qgd, qge hk, Option.getD_some] at hc
  rw [← hc, List.getElem_cons_drop, List.take_append_drop]
 unfold ckClauses
 rw [e, List.find?_append]
 have : (cs.take k).find? (fun c => ckClause c vars != 0) = none := by
  rw [List.find?_eq_none]; intro x hx; rw [h x hx]; simp
 rw [this, Option.none_or]; simp only [List.find?_cons, hb]
theorem NoneBad.next {cs : List (List Int)} {vars : Int} {k : Nat} {c : List Int} (h : NoneBad cs vars k) (hk : k < cs.length) (hc : cs.getD k [] = c) (hb : (ckClause c vars != 0) = false) : NoneBad cs vars (k+1) := by
 intro x hx
 rw [List.take_succ_eq_append_getElem hk] at hx
 rcases List.mem_append.1 hx with hx | hx
 ·exact h x hx
 ·rw [qgd, qge hk, Option.getD_some] at hc
  simp at hx; subst hx; rw [hc]; simpa using hb
theorem ckClauses_good {cs : List (List Int)} {vars : Int} {k : Nat} (h : NoneBad cs vars k) (hk : k = cs.length) : ckClauses cs vars = 0 := by
 unfold ckClauses
 have : cs.find? (fun c => ckClause c vars != 0) = none := by
  rw [List.find?_eq_none]; intro x hx; rw [h x (by rw [hk, List.take_length]; exact hx)]; simp
 rw [this]
theorem checkFormula_any (A : Option Addr) (n cap : Nat) (cs : List (List Int)) (vars : Int) (w : World) (S : Nat → Prop) (hr : RClauses w S A n cs) (hS : ∀ k, S k → k < w.heap.size) (hn : n ≤ maxLen) (hv : -9223372036854775808 ≤ vars) (hv' : vars ≤ 9223372036854775807) :
  Calls Tryz.prog 23 #[.agg #[.int .i64 vars, .slice A n cap]] w fun e w' => e = .returned (.int .i64 (ckFormula vars cs)) ∧ Below w.heap.size w w' := by
 unfold maxLen at hn
 have Hlen := qh hr.len
 have Hr := qh hr; clear hr
 have Hw : Hid (∀ o, Below w.heap.size w (w.alloc o)) := fun o => (Below.refl _ _).alloc (qr _) o
 by_cases h0 : vars < 0
 ·go_enter Tryz.func23, Tryz.ntmps23
  go_wp2_with fail
  go_ret
  exact ⟨ret_int (by unfold ckFormula; rw [if_pos (.inl h0)]), Hw.out _⟩
 have h0' : decide (vars < 0) = false := by simpa using h0
 by_cases h4 : 400 < vars
 ·go_enter Tryz.func23, Tryz.ntmps23
  go_wp2_with fail
  go_ret
  exact ⟨ret_int (by unfold ckFormula; rw [if_pos (.inr h4)]), Hw.out _⟩
 have h4' : decide (400 < vars) = false := by simpa using h4
 have H3 : Hid (¬ (vars < 0 ∨ 400 < vars)) := by show ¬ _; omega
 by_cases hm : 4000 < n
 ·have hm' : decide ((4000 : Int) < (n : Int)) = true := by simp; omega
  go_enter Tryz.func23, Tryz.ntmps23
  go_wp2_with fail
  go_ret
  exact ⟨ret_int (by unfold ckFormula; rw [if_neg H3.out, if_pos (by rw [Hlen.out]; exact hm)]), Hw.out _⟩
 have hm' : decide ((4000 : Int) < (n : Int)) = false := by simp; omega
 have H5 : Hid (ckFormula vars cs = ckClauses cs vars) := by show _ = _; unfold ckFormula; rw [if_neg H3.out, if_neg (by rw [Hlen.out]; exact hm)]
 go_enter Tryz.func23, Tryz.ntmps23
 go_wp2_with fail
 go_loopg [21] n (fun g i wr => ∃ k : Nat, Hid (k + g = n) ∧ i = .int .i64 k ∧ NoneBad cs vars k ∧ Hid (w.alloc (.cells #[.int .i64 vars, .slice A n cap] 33) = wr))
 case atStart => exact ⟨0, Nat.zero_add _, rfl, fun c hc => by simp at hc, rfl⟩
 case round =>
  obtain ⟨k, Hk, rfl, hbad, Hwr⟩ := hrel
  obtain rfl := Hwr.out
  clear Hwr
  have Hbad := qh hbad; clear hbad
  by_cases hk : k < n
  ·obtain ⟨b, o, A', n', c', rfl, hb, hcell, hc, hnc, hcm⟩ := (Hr.out.below (Hw.out (.cells #[.int .i64 vars, .slice A n cap] 33)) hS).at_ hk
   unfold maxLen at hcm
   have hcall := checkClause_any A' n' c' _ vars _ _ hc (by unfold maxLen; omega) hv hv'
   generalize hcc : cs.getD k [] = c at hcall
   have Hcc := qh hcc; clear hcc hc
   generalize hx : ckClause c vars = x at hcall
   have Hx := qh hx; clear hx
   have Hcall := qh hcall; clear hcall
   by_cases hx0 : (x != 0) = true
   ·go_wp2_with fail
    refine Hcall.out.mono ?_
    rintro e w' ⟨rfl, rfl⟩
    go_wp2_with fail
    go_ret
    exact ⟨ret_int (by rw [H5.out, ckClauses_bad Hbad.out (by rw [Hlen.out]; exact hk) Hcc.out (by rw [Hx.out]; exact hx0), Hx.out]), Hw.out _⟩
   ·have hx1 : (x != 0) = false := by simpa using hx0
    clear hx0
    go_wp2_with fail
    refine Hcall.out.mono ?_
    rintro e w' ⟨rfl, rfl⟩
    go_wp2_with fail
    go_roundg (gk - 1)
    case measure => have := Hk.out; omega
    case rel => exact ⟨k + 1, by have := Hk.out; show _ = _; omega, by go_num, Hbad.out.next (by rw [Hlen.out]; exact hk) Hcc.out (by rw [Hx.out]; exact hx1), rfl⟩
  ·go_wp2_with fail
   go_ret
   exact ⟨ret_int (by rw [H5.out, ckClauses_good Hbad.out (by rw [Hlen.out]; have := Hk.out; omega)]), Hw.out _⟩
end Go.Proofs.YtedbhlgjcnnknaaGreatDoor

namespace Go.Proofs.YtedbhlgjcnnknaaGreatDoor
open Go.RowKit
end Go.Proofs.YtedbhlgjcnnknaaGreatDoor

namespace Go.Proofs.YtedbhlgjcnnknaaGreatDoor
open Go.RowKit
end Go.Proofs.YtedbhlgjcnnknaaGreatDoor

namespace Go.Proofs.YtedbhlgjcnnknaaGreatDoor
open Go.RowKit
end Go.Proofs.YtedbhlgjcnnknaaGreatDoor

namespace Go.Proofs.YtedbhlgjcnnknaaGreatDoor
open Go.RowKit
end Go.Proofs.YtedbhlgjcnnknaaGreatDoor

namespace Qm
def litHolds (m : List Bool) (n : Int) : Bool := m.getD (n.natAbs - 1) false == decide (0 < n)
def holdsF (m : List Bool) (cs : List (List Int)) : Bool := cs.all fun c => c.any (litHolds m)
theorem litHolds_neg (m : List Bool) {n : Int} (h : n ≠ 0) : litHolds m (-n) = !litHolds m n := by
 unfold litHolds
 rw [Int.natAbs_neg]
 have : decide (0 < -n) = !decide (0 < n) := by
  rw [Bool.eq_iff_iff]; simp; omega
 rw [this]
 cases m.getD (n.natAbs - 1) false <;> cases decide (0 < n) <;> rfl
def Agrees (N : Nat) (m : List Bool) (v : List Int) : Prop := ∀ n, IsLit N n → vof v n = 1 → litHolds m n = true
theorem Agrees.zero (N : Nat) (m : List Bool) : Agrees N m (zeroVals N) := by
 intro n _ h
 have hz : ∀ k, (zeroVals N).getD k 0 = 0 := by
  intro k; rw [List.getD_eq_getElem?_getD, zeroVals, List.getElem?_replicate]; split <;> rfl
 unfold vof at h
 rw [hz, hz] at h
 split at h <;> omega
theorem Agrees.set {N : Nat} {m : List Bool} {v : List Int} (hf : Fine N v) (h : Agrees N m v) {n : Int} (hn : IsLit N n) (hm : litHolds m n = true) : Agrees N m (vset v n) := by
 intro k hk h1
 rw [vof_vset hf hn k hk.1] at h1
 split at h1
 ·rename_i e; rw [e]; exact hm
 ·split at h1
  ·omega
  ·exact h k hk h1
end Qm

namespace Go.Proofs.YtedbhlgjcnnknaaGreatDoor
open Go.RowKit
end Go.Proofs.YtedbhlgjcnnknaaGreatDoor

namespace Go.Proofs.YtedbhlgjcnnknaaGreatDoor
open Go.RowKit
def IntSet (P : Program) (w : World) (b : Nat) (K : Int → Bool) (m : Nat) : Prop :=
 ∃ D : DataW Unit, w.ownsMap P 3 (plainElem P 4) b m D ∧ Maps.size D = m ∧ ∀ x : Int, (Lit.int .i64 x).wf = true → Maps.has D (.int .i64 x) = K x ∧ D.atKey (.int .i64 x) (.lit (.bool false)) = .lit (.bool (K x))
section
variable {P : Program} {w w' : World} {b m : Nat} {K : Int → Bool}
theorem wf_of {x : Int} (h1 : -9223372036854775808 ≤ x) (h2 : x ≤ 9223372036854775807) : (Lit.int .i64 x).wf = true := WalkArith.wf_i64 (by omega)
theorem IntSet.made (P : Program) (w : World) : IntSet P (w.alloc (.map #[] 0)) w.heap.size (fun _ => false) 0 :=
 ⟨.map [], World.ownsMap_made w P 3 _, rfl, fun x _ => ⟨rfl, rfl⟩⟩
theorem IntSet.lt (h : IntSet P w b K m) : b < w.heap.size := by obtain ⟨D, h1, _⟩ := h; exact h1.lt
theorem IntSet.look (h : IntSet P w b K m) (hk : P.underlying 3 = some (.int .i64)) (he : P.underlying 4 = some .bool) (hz : (zeroValue 4).run P w = .ok (.bool false) w) {t : TypeId} (ht : P.underlying t = some (.map 3 4)) {x : Int} (hx : (Lit.int .i64 x).wf = true) :
  (Instr.lookup t (.map (some b)) (.int .i64 x) false).run P w = .ok (.bool (K x)) w := by
 obtain ⟨D, h1, _, h3⟩ := h
 obtain ⟨v, ps, hrun, hv⟩ := h1.lookup (Maps.int_keyed hk) ht hz (plainElem_bool he false) (Maps.keyOf_int_mk hk hx)
 rw [(h3 x hx).2] at hv
 have : v = .bool (K x) := by
  unfold plainElem at hv
  rw [he] at hv
  cases v <;> simp at hv
  rw [hv.1]
 rw [hrun, this]
theorem IntSet.put (h : IntSet P w b K m) (hk : P.underlying 3 = some (.int .i64)) (he : P.underlying 4 = some .bool) {t : TypeId} (ht : P.underlying t = some (.map 3 4)) {x : Int} (hx : (Lit.int .i64 x).wf = true) (hm : m < maxLen) :
  ∃ w', (Instr.mapUpdate t (.map (some b)) (.int .i64 x) (.bool true)).run P w = .ok () w' ∧ IntSet P w' b (fun y => y == x || K y) (if K x then m else m + 1) ∧ w.grownBy w' (some b) ∧ w'.heap.size = w.heap.size := by
 obtain ⟨D, h1, h2, h3⟩ := h
 have Kd := Maps.int_keyed (P := P) hk
 have hkey := Maps.keyOf_int_mk (P := P) hk hx
 have hkl : WideAt.IsKeyLit (.int .i64 x) := Kd.key hkey
 obtain ⟨w', hrun, h4, h5⟩ := h1.store Kd ht hm hkey (plainElem_bool he true)
 have htd := h1.tidy Kd
 have hsz : Maps.size (D.put (.int .i64 x) (.lit (.bool true))) = if K x then m else m + 1 := by
  rw [Maps.size_put htd, (h3 x hx).1, h2]
 refine ⟨w', hrun, ⟨_, ?_, hsz, fun y hy => ?_⟩, h5.grown, ?_⟩
 ·have e : Maps.size (D.put (.int .i64 x) (.lit (.bool true))) ≤ if K x then m else m + 1 := by rw [hsz]; exact qr _
  obtain ⟨es, clock, hb, F, hs, hD⟩ := h4
  refine ⟨es, clock, hb, F, ?_, hD⟩
  rw [hD] at e
  simpa [Maps.size, length_sorted] using e
 ·by_cases hyx : y = x
  ·subst hyx
   rw [Maps.has_put_same htd.isMap hkl, Maps.atKey_put_same htd.isMap hkl]
   simp
  ·have hne : (Lit.int .i64 y) ≠ .int .i64 x := by intro e; injection e with _ e; exact hyx e
   rw [Maps.has_put_other hne, Maps.atKey_put_other hne]
   have : (y == x) = false := by simpa using hyx
   show _ = (y == x || K y) ∧ _ = DataW.lit (.bool (y == x || K y))
   rw [this, Bool.false_or]
   exact h3 y hy
 ·obtain ⟨es, clock, es', clock', _, rfl⟩ := h5
  simp [ChangeMaps.setBlock]
end
end Go.Proofs.YtedbhlgjcnnknaaGreatDoor

namespace Go.Proofs.YtedbhlgjcnnknaaGreatDoor
open Go.RowKit
def RelK (N : Nat) (v : List Int) (K : Int → Bool) (m : Nat) : Prop := (∀ x, Qm.IsLit N x → K x = (Qm.vof v x == 1)) ∧ m + Qm.zeros v = N
end Go.Proofs.YtedbhlgjcnnknaaGreatDoor

namespace Go.Proofs.YtedbhlgjcnnknaaGreatDoor
open Go.RowKit
theorem vset_same {N : Nat} {v : List Int} (hv : Qm.Fine N v) {n : Int} (hn : Qm.IsLit N n) (h : Qm.vof v n = 1) : Qm.vset v n = v := by
 have hl := hv.1
 have key : ∀ (k : Nat) (x : Int), k < v.length → v.getD k 0 = x → v.set k x = v := by
  intro k x hk hx
  rw [qgd, qge hk, Option.getD_some] at hx
  subst hx; exact List.set_getElem_self hk
 unfold Qm.vof at h
 unfold Qm.vset
 have := hn.1; have := hn.2
 by_cases h0 : n < 0
 ·rw [if_pos h0] at h ⊢; exact key _ _ (by omega) (by omega)
 ·rw [if_neg h0] at h ⊢; exact key _ _ (by omega) h
theorem RelK.set {N : Nat} {v : List Int} {K : Int → Bool} {m : Nat} (h : RelK N v K m) (hf : Qm.Fine N v) {n : Int} (hn : Qm.IsLit N n) (hc : Qm.vof v n ≠ -1) : RelK N (Qm.vset v n) (fun y => y == n || K y) (if K n then m else m + 1) := by
 have hkn := h.1 n hn
 rcases Qm.vof_range hf n with h0 | h0 | h0
 ·refine ⟨fun y hy => ?_, ?_⟩
  ·show (y == n || K y) = _
   rw [Qm.vof_vset hf hn y hy.1, h.1 y hy]
   by_cases h1 : y = n
   ·subst h1; simp
   ·by_cases h2 : y = -n
    ·subst h2; rw [Qm.vof_neg v n hn.1, h0]; simp [h1]
    ·simp [h1, h2]
  ·have := Qm.zeros_vset hf hn h0
   have := h.2
   have hk : K n = false := by rw [hkn, h0]; rfl
   rw [hk]; simp; omega
 ·rw [vset_same hf hn h0]
  have hk : K n = true := by rw [hkn, h0]; rfl
  rw [hk]
  refine ⟨fun y hy => ?_, by simpa using h.2⟩
  show (y == n || K y) = _
  rw [h.1 y hy]
  by_cases h1 : y = n
  ·subst h1; rw [h0]; simp
  ·simp [h1]
 ·exact absurd h0 hc
end Go.Proofs.YtedbhlgjcnnknaaGreatDoor

namespace Go.Proofs.YtedbhlgjcnnknaaGreatDoor
open Go.RowKit
def ckLits (c : List Int) (vars : Int) : Int := if c.any (badLit vars) then 5 else 0
end Go.Proofs.YtedbhlgjcnnknaaGreatDoor

namespace Qm
def litsTo (v : List Int) : Nat → List Int
 | 0 => []
 | k + 1 => litsTo v k ++ if v.getD (k + 1) 0 = 0 then [] else [((k + 1 : Nat) : Int) * v.getD (k + 1) 0]
def followsV (N : Nat) (cs : List (List Int)) (az : List Int) : Option (List Int) := match assume az (zeroVals N) with | none => none | some v => spread cs v
end Qm

namespace Go.Proofs.YtedbhlgjcnnknaaGreatDoor
open Go.RowKit
theorem own_form {w : World} {base : Nat} {e : TypeId} {v : Value} {n : Nat} {vs : List Value} (h : w.ownsRow base e 1 v n vs) : ∃ (A : Option Addr) (c : Nat), v = .slice A n c ∧ n ≤ c ∧ c ≤ maxLen ∧ Row w (fun k => base ≤ k ∧ k < w.heap.size) A n vs := by
 have h' := h
 rcases h'.2 with ⟨rfl, rfl⟩ | ⟨g, cap, cur, rfl, hb, hh, hc, hm, _⟩
 ·exact ⟨none, 0, rfl, qr _, Nat.zero_le _, by have := h.1; simpa using this, fun h => absurd h (by omega)⟩
 ·exact ⟨_, cap, rfl, hc, hm, row_of_own h (fun g' e => by simp [Value.ownBlock] at e; subst e; exact ⟨hb, lt_of_block hh⟩)⟩
theorem own_formK {w : World} {base : Nat} {e : TypeId} {size : Nat} {v : Value} {n : Nat} {vs : List Value} (h : w.ownsRow base e size v n vs) : ∃ (A : Option Addr) (c : Nat), v = .slice A n c ∧ n ≤ c ∧ c ≤ maxLen ∧ Row w (fun k => v.ownBlock = some k) A (n * size) vs := by
 rcases h.2 with ⟨rfl, rfl⟩ | ⟨g, cap, cur, rfl, hb, hh, hc, hm, hs, ht⟩
 ·exact ⟨none, 0, rfl, qr _, Nat.zero_le _, by have := h.1; simpa using this, fun h => absurd h (by omega)⟩
 ·refine ⟨_, cap, rfl, hc, hm, h.1, fun hn => ⟨g, 0, rfl, rfl, fun j hj => ?_⟩⟩
  have hj' : j < cur.size := by rw [hs]; exact ql hj (Nat.mul_le_mul_right _ hc)
  rw [cell_of_row w g _ _ _ (0, 0) hh, Nat.zero_add, ← ht, List.getElem?_take_of_lt hj]
  simp
theorem Row.some_lit {w : World} {S : Nat → Prop} {A : Option Addr} {n : Nat} {vs : List Value} (h : Row w S A n vs) (hn : 0 < n) : ∃ b o, A = some ⟨b, o, none⟩ ∧ S b := by
 obtain ⟨b, o, e, hS, _⟩ := h.at_ hn
 exact ⟨b, o, e, hS⟩
end Go.Proofs.YtedbhlgjcnnknaaGreatDoor

namespace Go.Proofs.YtedbhlgjcnnknaaGreatDoor
open Go.RowKit
def folErr (vars : Int) (cs : List (List Int)) (asm : List Int) : Int := if ckFormula vars cs ≠ 0 then ckFormula vars cs else if 400 < asm.length then 2 else ckLits asm vars
def folV (vars : Int) (cs : List (List Int)) (asm : List Int) : Option (List Int) := if folErr vars cs asm ≠ 0 then none else Qm.followsV vars.toNat cs asm
def folOk (vars : Int) (cs : List (List Int)) (asm : List Int) : Bool := (folV vars cs asm).isSome
def folL (vars : Int) (cs : List (List Int)) (asm : List Int) : List Int := match folV vars cs asm with | none => [] | some v => Qm.litsTo v vars.toNat
def FolPost (vars : Int) (cs : List (List Int)) (asm : List Int) (w : World) (e : Ending) (w' : World) : Prop :=
 ∃ (A : Option Addr) (n c : Nat), e = .returned (.tuple #[.slice A n c, .bool (folOk vars cs asm), .int .i64 (folErr vars cs asm)]) ∧ RInts w' (fun k => w.heap.size ≤ k ∧ k < w'.heap.size) A n (folL vars cs asm) ∧ n ≤ c ∧ c ≤ maxLen ∧ Below w.heap.size w w'
theorem FolPost.no {vars : Int} {cs : List (List Int)} {asm : List Int} {w w' : World} {E : Int} (h : folV vars cs asm = none) (he : folErr vars cs asm = E) (hb : Below w.heap.size w w') :
  FolPost vars cs asm w (.returned (.tuple #[.slice none 0 0, .bool false, .int .i64 E])) w' := by
 refine ⟨none, 0, 0, ?_, ?_, qr _, Nat.zero_le _, hb⟩
 ·unfold folOk; rw [h, he]; rfl
 ·unfold folL; rw [h]; exact RInts.nil_
end Go.Proofs.YtedbhlgjcnnknaaGreatDoor

namespace Go.Proofs.YtedbhlgjcnnknaaGreatDoor
open Go.RowKit
def ffL (N : Nat) (cs : List (List Int)) (asm : List Int) : List Int := match Qm.followsV N cs asm with | none => [] | some v => Qm.litsTo v N
def FfPost (N : Nat) (cs : List (List Int)) (asm : List Int) (w : World) (e : Ending) (w' : World) : Prop :=
 ∃ (A : Option Addr) (n c : Nat), e = .returned (.tuple #[.slice A n c, .bool (Qm.followsV N cs asm).isSome]) ∧ RInts w' (fun k => w.heap.size ≤ k ∧ k < w'.heap.size) A n (ffL N cs asm) ∧ n ≤ c ∧ c ≤ maxLen ∧ Below w.heap.size w w'
theorem FfPost.no {N : Nat} {cs : List (List Int)} {asm : List Int} {w w' : World} (h : Qm.followsV N cs asm = none) (hb : Below w.heap.size w w') : FfPost N cs asm w (.returned (.tuple #[.slice none 0 0, .bool false])) w' := by
 refine ⟨none, 0, 0, by rw [h]; rfl, by unfold ffL; rw [h]; exact RInts.nil_, qr _, Nat.zero_le _, hb⟩
end Go.Proofs.YtedbhlgjcnnknaaGreatDoor

namespace Qm
open Go
structure At where
 nm : List UInt8
 op : Int
 ver : Int
 slot : Int
 fl : List UInt8
 on : Bool
deriving DecidableEq
def At.zero : At := ⟨[], 0, 0, 0, [], false⟩
def lowB (c : UInt8) : Bool := decide (97 ≤ c.toNat ∧ c.toNat ≤ 122)
def digB (c : UInt8) : Bool := decide (48 ≤ c.toNat ∧ c.toNat ≤ 57)
def okAt (i : Nat) (c : UInt8) : Bool := lowB c || (decide (0 < i) && digB c)
def okFrom : Nat → List UInt8 → Bool
 | _, [] => true
 | i, c :: r => okAt i c && okFrom (i + 1) r
def isName (l : List UInt8) : Bool := decide (1 ≤ l.length ∧ l.length ≤ 8) && okFrom 0 l
def ckAtom (a : At) : Int :=
 if isName a.nm = false ∨ a.fl ≠ [] ∧ isName a.fl = false then 1
 else if a.op < 0 ∨ 3 < a.op ∨ a.slot < 0 ∨ 9 < a.slot then 3
 else if a.op = 0 ∧ a.ver ≠ 0 ∨ a.op ≠ 0 ∧ (a.ver < 1 ∨ 99 < a.ver) then 3
 else if a.fl = [] ∧ a.on = true then 4 else 0
def opText (o : Int) : List UInt8 := if o = 1 then [61] else if o = 2 then [62, 61] else if o = 3 then [60] else []
def textOf (a : At) : List UInt8 :=
 a.nm ++ (if a.op ≠ 0 then opText a.op ++ Lib.itoa a.ver else []) ++ (if 0 < a.slot then 58 :: Lib.itoa a.slot else []) ++
  (if a.fl ≠ [] then (if a.on then 43 else 45) :: a.fl else [])
def number (l : List UInt8) : Option Int :=
 match Lib.atoiAll l with
 | .ok v => if Lib.itoa v = l then some v else none
 | _ => none
def cutAt (p : UInt8 → Bool) : List UInt8 → Option (List UInt8 × UInt8 × List UInt8)
 | [] => none
 | c :: r => if p c then some ([], c, r) else match cutAt p r with
  | some (a, b, d) => some (c :: a, b, d)
  | none => none
def signB (c : UInt8) : Bool := c == 43 || c == 45
def opB (c : UInt8) : Bool := c == 61 || c == 60 || c == 62
def fin (a : At) : At × Int := if ckAtom a = 0 then (a, 0) else (At.zero, ckAtom a)
def badAt : At × Int := (At.zero, 1)
def opNum (c : UInt8) (d : List UInt8) : Option (Int × Int) :=
 if c = 61 then (number d).map fun v => (1, v)
 else if c = 60 then (number d).map fun v => (3, v)
 else match d with
  | [] => none
  | e :: r => if e = 61 then (number r).map fun v => (2, v) else none
def parseOp (l fl : List UInt8) (on : Bool) (slot : Int) : At × Int :=
 match cutAt opB l with
 | none => fin ⟨l, 0, 0, slot, fl, on⟩
 | some (a, c, d) => match opNum c d with
  | some (o, v) => fin ⟨a, o, v, slot, fl, on⟩
  | none => badAt
def parseSlot (l fl : List UInt8) (on : Bool) : At × Int :=
 match cutAt (· == 58) l with
 | none => parseOp l fl on 0
 | some (a, _, d) => match number d with
  | some n => if n = 0 then badAt else parseOp a fl on n
  | none => badAt
def parseFew (l : List UInt8) : At × Int :=
 match cutAt signB l with
 | none => parseSlot l [] false
 | some (a, c, d) => if d = [] then badAt else parseSlot a d (c == 43)
def parseAt (l : List UInt8) : At × Int := if 20000 < l.length then (At.zero, 2) else parseFew l
theorem of_cutAt_some {p : UInt8 → Bool} : ∀ {l a : List UInt8} {c : UInt8} {d : List UInt8}, cutAt p l = some (a, c, d) → l = a ++ c :: d ∧ p c = true ∧ ∀ x ∈ a, p x = false
 | [], _, _, _, h => by simp [cutAt] at h
 | x :: r, a, c, d, h => by
  unfold cutAt at h
  by_cases hx : p x = true
  ·simp only [hx, if_true, Option.some.injEq, Prod.mk.injEq] at h
   obtain ⟨rfl, rfl, rfl⟩ := h
   exact ⟨rfl, hx, by simp⟩
  ·simp only [hx, Bool.false_eq_true, if_false] at h
   cases hr : cutAt p r with
   | none => rw [hr] at h; cases h
   | some t =>
    obtain ⟨a', c', d'⟩ := t
    rw [hr] at h
    simp only [Option.some.injEq, Prod.mk.injEq] at h
    obtain ⟨rfl, rfl, rfl⟩ := h
    obtain ⟨h1, h2, h3⟩ := of_cutAt_some hr
    refine ⟨by rw [h1]; rfl, h2, ?_⟩
    intro y hy
    rcases List.mem_cons.1 hy with rfl | hy
    ·simpa using hx
    ·exact h3 y hy
theorem of_cutAt_none {p : UInt8 → Bool} : ∀ {l : List UInt8}, cutAt p l = none → ∀ x ∈ l, p x = false
 | [], _, x, hx => by cases hx
 | y :: r, h, x, hx => by
  unfold cutAt at h
  by_cases hy : p y = true
  ·simp [hy] at h
  ·simp only [hy, Bool.false_eq_true, if_false] at h
   have hr : cutAt p r = none := by
    cases hr : cutAt p r with
    | none => rfl
    | some t => rw [hr] at h; cases h
   rcases List.mem_cons.1 hx with rfl | hx
   ·simpa using hy
   ·exact of_cutAt_none hr x hx
theorem cutAt_indexAny (cs : List UInt8) : ∀ (l : List UInt8), Lib.indexAny l cs = match cutAt (fun c => cs.contains c) l with | none => -1 | some (a, _, _) => (a.length : Int)
 | [] => rfl
 | c :: r => by
  have ih := cutAt_indexAny cs r
  by_cases hc : cs.contains c = true
  ·simp only [Lib.indexAny, cutAt, hc, if_true]
   rfl
  ·simp only [Lib.indexAny, cutAt, hc, Bool.false_eq_true, if_false]
   cases hr : cutAt (fun c => cs.contains c) r with
   | none => rw [hr] at ih; simp [ih]
   | some t =>
    obtain ⟨a, b, d⟩ := t
    rw [hr] at ih
    simp only [] at ih
    simp only [List.length_cons]
    rw [ih]
    have : ((a.length : Int) == -1) = false := by simp
    rw [this]
    simp
theorem okFrom_mem : ∀ {i : Nat} {l : List UInt8}, okFrom i l = true → ∀ c ∈ l, lowB c = true ∨ digB c = true
 | _, [], _, c, hc => by cases hc
 | i, x :: r, h, c, hc => by
  simp only [okFrom, Bool.and_eq_true] at h
  rcases List.mem_cons.1 hc with rfl | hc
  ·have := h.1
   simp only [okAt, Bool.or_eq_true, Bool.and_eq_true] at this
   rcases this with h1 | h1
   ·exact .inl h1
   ·exact .inr h1.2
  ·exact okFrom_mem h.2 c hc
theorem isName_mem {l : List UInt8} (h : isName l = true) : ∀ c ∈ l, lowB c = true ∨ digB c = true := by
 simp only [isName, Bool.and_eq_true] at h
 exact okFrom_mem h.2
theorem isName_len {l : List UInt8} (h : isName l = true) : 1 ≤ l.length ∧ l.length ≤ 8 := by
 simp only [isName, Bool.and_eq_true, decide_eq_true_eq] at h
 exact h.1
theorem decDigits_mem (u : Nat) : ∀ c ∈ Lib.decDigits u, digB c = true := by
 induction u using Nat.strongRecOn with
 | _ u ih =>
  intro c hc
  rw [Lib.decDigits] at hc
  split at hc
  ·rename_i h
   simp only [List.mem_singleton] at hc
   subst hc
   simp only [digB, decide_eq_true_eq, UInt8.toNat_ofNat']
   omega
  ·rename_i h
   rcases List.mem_append.1 hc with hc | hc
   ·exact ih (u / 10) (by omega) c hc
   ·simp only [List.mem_singleton] at hc
    subst hc
    simp only [digB, decide_eq_true_eq, UInt8.toNat_ofNat']
    omega
theorem itoa_mem {n : Int} (h : 0 ≤ n) : ∀ c ∈ Lib.itoa n, digB c = true := by
 unfold Lib.itoa
 rw [if_neg (by omega)]
 exact decDigits_mem _
theorem of_number {l : List UInt8} {v : Int} (h : number l = some v) : Lib.itoa v = l := by
 unfold number at h
 split at h
 ·split at h
  ·cases h; assumption
  ·cases h
 ·cases h
end Qm

namespace Qm
open Go
structure AtOk (a : At) : Prop where
 nm : isName a.nm = true
 fl : a.fl ≠ [] → isName a.fl = true
 op : 0 ≤ a.op ∧ a.op ≤ 3
 slot : 0 ≤ a.slot ∧ a.slot ≤ 9
 none : a.op = 0 → a.ver = 0
 some : a.op ≠ 0 → 1 ≤ a.ver ∧ a.ver ≤ 99
 on : a.fl = [] → a.on = false
theorem atOk {a : At} (h : ckAtom a = 0) : AtOk a := by
 unfold ckAtom at h
 split at h
 ·simp at h
 rename_i h1
 split at h
 ·simp at h
 rename_i h2
 split at h
 ·simp at h
 rename_i h3
 split at h
 ·simp at h
 rename_i h4
 refine ⟨?_, ?_, by omega, by omega, by omega, by omega, ?_⟩
 ·cases e : isName a.nm
  ·exact absurd (.inl e) h1
  ·rfl
 ·intro e
  cases e' : isName a.fl
  ·exact absurd (.inr ⟨e, e'⟩) h1
  ·rfl
 ·intro e
  cases e' : a.on
  ·rfl
  ·exact absurd ⟨e, e'⟩ h4
def opPart (a : At) : List UInt8 := if a.op ≠ 0 then opText a.op ++ Lib.itoa a.ver else []
def slotPart (a : At) : List UInt8 := if 0 < a.slot then 58 :: Lib.itoa a.slot else []
theorem of_fin {a x : At} (h : fin a = (x, 0)) : x = a ∧ ckAtom a = 0 := by
 unfold fin at h
 split at h
 ·rename_i hk
  exact ⟨(Prod.mk.inj h).1.symm, hk⟩
 ·rename_i hk
  exact absurd (Prod.mk.inj h).2 hk
theorem not_bad {x : At} : ¬ badAt = (x, 0) := by
 intro h
 have := (Prod.mk.inj h).2
 simp at this
theorem of_parseOp {l fl : List UInt8} {on : Bool} {slot : Int} {x : At} (h : parseOp l fl on slot = (x, 0)) :
  ckAtom x = 0 ∧ x.slot = slot ∧ x.fl = fl ∧ x.on = on ∧ x.nm ++ opPart x = l := by
 unfold parseOp at h
 split at h
 ·obtain ⟨rfl, hk⟩ := of_fin h
  exact ⟨hk, rfl, rfl, rfl, by simp [opPart]⟩
 ·rename_i a c d hc
  obtain ⟨e, hp, _⟩ := of_cutAt_some hc
  split at h
  ·rename_i o v ho
   obtain ⟨rfl, hk⟩ := of_fin h
   refine ⟨hk, rfl, rfl, rfl, ?_⟩
   rw [e]
   congr 1
   unfold opNum at ho
   split at ho
   ·rename_i hc1
    cases hn : number d with
    | none => rw [hn] at ho; cases ho
    | some w =>
     rw [hn] at ho
     simp only [Option.map_some, Option.some.injEq, Prod.mk.injEq] at ho
     obtain ⟨rfl, rfl⟩ := ho
     have := of_number hn
     simp [opPart, opText, this, hc1]
   ·split at ho
    ·rename_i hc1
     cases hn : number d with
     | none => rw [hn] at ho; cases ho
     | some w =>
      rw [hn] at ho
      simp only [Option.map_some, Option.some.injEq, Prod.mk.injEq] at ho
      obtain ⟨rfl, rfl⟩ := ho
      have := of_number hn
      simp [opPart, opText, this, hc1]
    ·rename_i hc1 hc2
     have hc3 : c = 62 := by
      have : (c == 61) = false := by simpa using hc1
      have : (c == 60) = false := by simpa using hc2
      simpa [opB, *] using hp
     cases d with
     | nil => cases ho
     | cons y r =>
      simp only [] at ho
      split at ho
      ·rename_i hy
       cases hn : number r with
       | none => rw [hn] at ho; cases ho
       | some w =>
        rw [hn] at ho
        simp only [Option.map_some, Option.some.injEq, Prod.mk.injEq] at ho
        obtain ⟨rfl, rfl⟩ := ho
        have := of_number hn
        simp [opPart, opText, this, hc3, hy]
      ·cases ho
  ·exact absurd h not_bad
theorem of_parseSlot {l fl : List UInt8} {on : Bool} {x : At} (h : parseSlot l fl on = (x, 0)) :
  ckAtom x = 0 ∧ x.fl = fl ∧ x.on = on ∧ x.nm ++ opPart x ++ slotPart x = l := by
 unfold parseSlot at h
 split at h
 ·obtain ⟨h1, h2, h3, h4, h5⟩ := of_parseOp h
  refine ⟨h1, h3, h4, ?_⟩
  rw [h5]
  simp [slotPart, h2]
 ·rename_i a c d hc
  obtain ⟨e, hp, _⟩ := of_cutAt_some hc
  split at h
  ·rename_i n hn
   split at h
   ·exact absurd h not_bad
   ·rename_i hn0
    obtain ⟨h1, h2, h3, h4, h5⟩ := of_parseOp h
    refine ⟨h1, h3, h4, ?_⟩
    have hs := (atOk h1).slot
    have hp' : c = 58 := by simpa using hp
    rw [h5, e]
    unfold slotPart
    rw [if_pos (by omega), h2, of_number hn, hp']
  ·exact absurd h not_bad
theorem parse_back {l : List UInt8} {x : At} (h : parseAt l = (x, 0)) : ckAtom x = 0 ∧ textOf x = l := by
 unfold parseAt at h
 split at h
 ·have := (Prod.mk.inj h).2
  simp at this
 ·unfold parseFew at h
  split at h
  ·obtain ⟨h1, h2, h3, h4⟩ := of_parseSlot h
   refine ⟨h1, ?_⟩
   show x.nm ++ opPart x ++ slotPart x ++ _ = l
   rw [h4, h2]
   simp
  ·rename_i a c d hc
   obtain ⟨e, hp, _⟩ := of_cutAt_some hc
   split at h
   ·exact absurd h not_bad
   ·rename_i hd
    obtain ⟨h1, h2, h3, h4⟩ := of_parseSlot h
    refine ⟨h1, ?_⟩
    show x.nm ++ opPart x ++ slotPart x ++ _ = l
    rw [h4, h2, h3, e, if_pos hd]
    congr 2
    have hp' : c = 43 ∨ c = 45 := by simpa [signB] using hp
    rcases hp' with rfl | rfl <;> rfl
end Qm
