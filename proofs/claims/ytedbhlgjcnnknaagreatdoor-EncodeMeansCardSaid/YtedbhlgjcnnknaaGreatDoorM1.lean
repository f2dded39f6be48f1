/- Parts of the proof: walks and plain laws, side by side. -/
import Derived.WalkKit
import Derived.Below
import Derived.Laws.OwnMore
import Derived.Deep.Draws
import Derived.Lib.Hide
import Derived.Test.YtedbhlgjcnnknaaGreatDoorProg
set_option linter.unusedVariables false
set_option linter.unusedSimpArgs false
set_option linter.unusedSectionVars false
/-
 Words for memory of these proofs: a slice that reads as a list of values, of ints, of bools, of lists of ints; a block that is known whole; what a world keeps.
-/
namespace Go.Proofs.YtedbhlgjcnnknaaGreatDoor
open Go.RowKit

/-! a slice's header (address, length) reads as these values, all below block B -/
def Row (w : World) (S : Nat → Prop) (A : Option Addr) (n : Nat) (vs : List Value) : Prop :=
 vs.length = n ∧ (0 < n → ∃ b o, A = some ⟨b, o, none⟩ ∧ S b ∧ ∀ j, j < n → w.cell? ⟨b, o + j, none⟩ = vs[j]?)

section
variable {w w' : World} {S S' : Nat → Prop} {B n : Nat} {A : Option Addr} {vs : List Value}
theorem Row.len (h : Row w S A n vs) : vs.length = n := h.1
theorem Row.nil_ : Row w S A 0 [] := ⟨rfl, fun h => absurd h (by omega)⟩
theorem Row.at_ {k : Nat} (h : Row w S A n vs) (hk : k < n) : ∃ b o, A = some ⟨b, o, none⟩ ∧ S b ∧ w.cell? ⟨b, o + k, none⟩ = vs[k]? := by
 obtain ⟨b, o, e, hb, hc⟩ := h.2 (by omega)
 exact ⟨b, o, e, hb, hc k hk⟩
theorem Row.keep (h : Row w S A n vs) (hk : ∀ p : Addr, S p.block → w'.cell? p = w.cell? p) : Row w' S A n vs :=
 ⟨h.1, fun hn => by
  obtain ⟨b, o, e, hb, hc⟩ := h.2 hn
  exact ⟨b, o, e, hb, fun j hj => (hk _ hb).trans (hc j hj)⟩⟩
theorem Row.more (h : Row w S A n vs) (hS : ∀ k, S k → S' k) : Row w S' A n vs :=
 ⟨h.1, fun hn => by
  obtain ⟨b, o, e, hb, hc⟩ := h.2 hn
  exact ⟨b, o, e, hS _ hb, hc⟩⟩
theorem Row.below (h : Row w S A n vs) (hb : Below B w w') (hS : ∀ k, S k → k < B) : Row w' S A n vs := h.keep fun _ hp => hb.cell (hS _ hp)
theorem Row.drop (h : Row w S A n vs) {k cap : Nat} (hk : k ≤ n) (hc : n ≤ cap) : Row w S (if cap = k then A else A.map (·.add k)) (n - k) (vs.drop k) := by
 refine ⟨by rw [List.length_drop, h.1], fun hn => ?_⟩
 obtain ⟨b, o, e, hb, hcell⟩ := h.2 (by omega)
 subst e
 rw [if_neg (by omega)]
 have he : (⟨b, o, none⟩ : Addr).add k = ⟨b, o + k, none⟩ := by
  unfold Addr.add
  by_cases h0 : k = 0 <;> simp [h0]
 refine ⟨b, o + k, by rw [Option.map_some, he], hb, fun j hj => ?_⟩
 rw [List.getElem?_drop, ← hcell (k + j) (by omega), Nat.add_assoc]
theorem Row.take (h : Row w S A n vs) {k : Nat} (hk : k ≤ n) : Row w S A k (vs.take k) := by
 refine ⟨by rw [List.length_take, h.1]; omega, fun hn => ?_⟩
 obtain ⟨b, o, e, hb, hcell⟩ := h.2 (by omega)
 exact ⟨b, o, e, hb, fun j hj => by rw [hcell j (by omega), List.getElem?_take_of_lt hj]⟩

/-! ints, bools -/
def RInts (w : World) (S : Nat → Prop) (A : Option Addr) (n : Nat) (xs : List Int) : Prop := Row w S A n (xs.map (Value.int .i64))
theorem RInts.len {xs : List Int} (h : RInts w S A n xs) : xs.length = n := by have := h.1; simpa using this
theorem RInts.at_ {xs : List Int} {k : Nat} (h : RInts w S A n xs) (hk : k < n) : ∃ b o, A = some ⟨b, o, none⟩ ∧ S b ∧ w.cell? ⟨b, o + k, none⟩ = some (.int .i64 (xs.getD k 0)) := by
 obtain ⟨b, o, hA, hb, hc⟩ := Row.at_ h hk
 have hl := h.len
 refine ⟨b, o, hA, hb, ?_⟩
 rw [hc, List.getElem?_map, List.getElem?_eq_getElem (by omega), List.getD_eq_getElem?_getD, List.getElem?_eq_getElem (by omega)]; rfl
def RBools (w : World) (S : Nat → Prop) (A : Option Addr) (n : Nat) (xs : List Bool) : Prop := Row w S A n (xs.map Value.bool)
theorem RBools.len {xs : List Bool} (h : RBools w S A n xs) : xs.length = n := by have := h.1; simpa using this
theorem RBools.at_ {xs : List Bool} {k : Nat} (h : RBools w S A n xs) (hk : k < n) : ∃ b o, A = some ⟨b, o, none⟩ ∧ S b ∧ w.cell? ⟨b, o + k, none⟩ = some (.bool (xs.getD k false)) := by
 obtain ⟨b, o, hA, hb, hc⟩ := Row.at_ h hk
 have hl := h.len
 refine ⟨b, o, hA, hb, ?_⟩
 rw [hc, List.getElem?_map, List.getElem?_eq_getElem (by omega), List.getD_eq_getElem?_getD, List.getElem?_eq_getElem (by omega)]; rfl

/-! lists of ints: each cell is a slice's header -/
def RClauses (w : World) (S : Nat → Prop) (A : Option Addr) (n : Nat) (cs : List (List Int)) : Prop :=
 ∃ hs : List (Option Addr × Nat × Nat), Row w S A n (hs.map fun h => Value.slice h.1 h.2.1 h.2.2) ∧ cs.length = n ∧
  ∀ (j : Nat) (h : Option Addr × Nat × Nat) (c : List Int), hs[j]? = some h → cs[j]? = some c → RInts w S h.1 h.2.1 c ∧ h.2.1 ≤ h.2.2 ∧ h.2.2 ≤ maxLen
theorem RClauses.len {cs : List (List Int)} (h : RClauses w S A n cs) : cs.length = n := by obtain ⟨_, _, h, _⟩ := h; exact h
theorem RClauses.at_ {cs : List (List Int)} {k : Nat} (h : RClauses w S A n cs) (hk : k < n) : ∃ b o A' n' c', A = some ⟨b, o, none⟩ ∧ S b ∧ w.cell? ⟨b, o + k, none⟩ = some (.slice A' n' c') ∧
  RInts w S A' n' (cs.getD k []) ∧ n' ≤ c' ∧ c' ≤ maxLen := by
 obtain ⟨hs, hr, hl, hi⟩ := h
 obtain ⟨b, o, hA, hb, hc⟩ := hr.at_ hk
 have hsl : hs.length = n := by simpa using hr.len
 have e1 : hs[k]? = some (hs[k]'(by omega)) := List.getElem?_eq_getElem (by omega)
 have e2 : cs[k]? = some (cs[k]'(by omega)) := List.getElem?_eq_getElem (by omega)
 have e3 : cs.getD k [] = cs[k]'(by omega) := by rw [List.getD_eq_getElem?_getD, e2]; rfl
 refine ⟨b, o, (hs[k]'(by omega)).1, (hs[k]'(by omega)).2.1, (hs[k]'(by omega)).2.2, hA, hb, ?_, ?_⟩
 ·rw [hc, List.getElem?_map, e1]; rfl
 ·rw [e3]; exact hi k _ _ e1 e2
theorem RInts.keep {xs : List Int} (h : RInts w S A n xs) (hk : ∀ p : Addr, S p.block → w'.cell? p = w.cell? p) : RInts w' S A n xs := Row.keep h hk
theorem RInts.below {xs : List Int} (h : RInts w S A n xs) (hb : Below B w w') (hS : ∀ k, S k → k < B) : RInts w' S A n xs := Row.below h hb hS
theorem RInts.more {xs : List Int} (h : RInts w S A n xs) (hS : ∀ k, S k → S' k) : RInts w S' A n xs := Row.more h hS
theorem RInts.nil_ : RInts w S A 0 [] := Row.nil_
theorem RInts.take {xs : List Int} (h : RInts w S A n xs) {k : Nat} (hk : k ≤ n) : RInts w S A k (xs.take k) := by
 have := Row.take h hk; rwa [← List.map_take] at this
theorem RBools.below {xs : List Bool} (h : RBools w S A n xs) (hb : Below B w w') (hS : ∀ k, S k → k < B) : RBools w' S A n xs := Row.below h hb hS
theorem RClauses.keep {cs : List (List Int)} (h : RClauses w S A n cs) (hk : ∀ p : Addr, S p.block → w'.cell? p = w.cell? p) : RClauses w' S A n cs := by
 obtain ⟨hs, hr, hl, hi⟩ := h
 exact ⟨hs, hr.keep hk, hl, fun j h c h1 h2 => ⟨(hi j h c h1 h2).1.keep hk, (hi j h c h1 h2).2⟩⟩
theorem RClauses.below {cs : List (List Int)} (h : RClauses w S A n cs) (hb : Below B w w') (hS : ∀ k, S k → k < B) : RClauses w' S A n cs := h.keep fun _ hp => hb.cell (hS _ hp)
theorem RClauses.more {cs : List (List Int)} (h : RClauses w S A n cs) (hS : ∀ k, S k → S' k) : RClauses w S' A n cs := by
 obtain ⟨hs, hr, hl, hi⟩ := h
 exact ⟨hs, hr.more hS, hl, fun j h c h1 h2 => ⟨(hi j h c h1 h2).1.more hS, (hi j h c h1 h2).2⟩⟩
theorem RClauses.nil_ : RClauses w S A 0 [] := ⟨[], Row.nil_, rfl, fun j h c h1 _ => by simp at h1⟩
theorem RClauses.take {cs : List (List Int)} (h : RClauses w S A n cs) {k : Nat} (hk : k ≤ n) : RClauses w S A k (cs.take k) := by
 obtain ⟨hs, hr, hl, hi⟩ := h
 refine ⟨hs.take k, by have := Row.take hr hk; rwa [← List.map_take] at this, by rw [List.length_take]; omega, fun j h c h1 h2 => ?_⟩
 rw [List.getElem?_take] at h1 h2
 split at h1
 ·rename_i hjk; rw [if_pos hjk] at h2; exact hi j h c h1 h2
 ·cases h1

/-! slices of lists of ints -/
def RLists (w : World) (S : Nat → Prop) (A : Option Addr) (n : Nat) (ls : List (List (List Int))) : Prop :=
 ∃ hs : List (Option Addr × Nat × Nat), Row w S A n (hs.map fun h => Value.slice h.1 h.2.1 h.2.2) ∧ ls.length = n ∧
  ∀ (j : Nat) (h : Option Addr × Nat × Nat) (c : List (List Int)), hs[j]? = some h → ls[j]? = some c → RClauses w S h.1 h.2.1 c ∧ h.2.1 ≤ h.2.2 ∧ h.2.2 ≤ maxLen
theorem RLists.len {ls : List (List (List Int))} (h : RLists w S A n ls) : ls.length = n := by obtain ⟨_, _, h, _⟩ := h; exact h
theorem RLists.at_ {ls : List (List (List Int))} {k : Nat} (h : RLists w S A n ls) (hk : k < n) : ∃ b o A' n' c', A = some ⟨b, o, none⟩ ∧ S b ∧ w.cell? ⟨b, o + k, none⟩ = some (.slice A' n' c') ∧
  RClauses w S A' n' (ls.getD k []) ∧ n' ≤ c' ∧ c' ≤ maxLen := by
 obtain ⟨hs, hr, hl, hi⟩ := h
 obtain ⟨b, o, hA, hb, hc⟩ := hr.at_ hk
 have hsl : hs.length = n := by simpa using hr.len
 have e1 : hs[k]? = some (hs[k]'(by omega)) := List.getElem?_eq_getElem (by omega)
 have e2 : ls[k]? = some (ls[k]'(by omega)) := List.getElem?_eq_getElem (by omega)
 have e3 : ls.getD k [] = ls[k]'(by omega) := by rw [List.getD_eq_getElem?_getD, e2]; rfl
 refine ⟨b, o, (hs[k]'(by omega)).1, (hs[k]'(by omega)).2.1, (hs[k]'(by omega)).2.2, hA, hb, ?_, ?_⟩
 ·rw [hc, List.getElem?_map, e1]; rfl
 ·rw [e3]; exact hi k _ _ e1 e2
theorem RLists.keep {ls : List (List (List Int))} (h : RLists w S A n ls) (hk : ∀ p : Addr, S p.block → w'.cell? p = w.cell? p) : RLists w' S A n ls := by
 obtain ⟨hs, hr, hl, hi⟩ := h
 exact ⟨hs, hr.keep hk, hl, fun j h c h1 h2 => ⟨(hi j h c h1 h2).1.keep hk, (hi j h c h1 h2).2⟩⟩
theorem RLists.below {ls : List (List (List Int))} (h : RLists w S A n ls) (hb : Below B w w') (hS : ∀ k, S k → k < B) : RLists w' S A n ls := h.keep fun _ hp => hb.cell (hS _ hp)

/-! a block that is known whole, nothing of it frozen -/
def Whole (w : World) (b : Nat) (t : TypeId) (vs : List Value) : Prop := w.heap[b]? = some (.cells vs.toArray t (0, 0))
variable {b : Nat} {t : TypeId}
theorem Whole.lt (h : Whole w b t vs) : b < w.heap.size := lt_of_block h
theorem Whole.cell (h : Whole w b t vs) (i : Nat) : w.cell? ⟨b, i, none⟩ = vs[i]? := by rw [cell_of_row w b i _ t (0, 0) h]; simp
theorem Whole.free (h : Whole w b t vs) (i : Nat) : w.frozen? ⟨b, i, none⟩ = false := frozen_of_row w b i _ t h
theorem Whole.new (w : World) (b : Nat) (t : TypeId) (vs : List Value) (h : b = w.heap.size) : Whole (w.alloc (.cells vs.toArray t)) b t vs := by subst h; exact heap_alloc_new w _
theorem Whole.alloc (h : Whole w b t vs) (o : Obj) : Whole (w.alloc o) b t vs := (Below.heap_alloc w o b h.lt).trans h
theorem Whole.drew (h : Whole w b t vs) : Whole w.drew b t vs := h
theorem Whole.drewN (h : Whole w b t vs) (k : Nat) : Whole (w.drewN k) b t vs := h
theorem Whole.set_ (h : Whole w b t vs) (i : Nat) (u : Value) : Whole (w.setCell ⟨b, i, none⟩ u) b t (vs.set i u) := by
 unfold Whole at h ⊢
 rw [heap_setCell_same w b i _ t u h]; simp
theorem Whole.far (h : Whole w b t vs) {p : Addr} (hp : b ≠ p.block) (u : Value) : Whole (w.setCell p u) b t vs := (heap_setCell_other w p b u hp).trans h
theorem Whole.below {B : Nat} (h : Whole w b t vs) (hb : Below B w w') (hg : b < B) : Whole w' b t vs := (hb.block b hg).trans h
theorem Whole.grown {row : Option Nat} (h : Whole w b t vs) (hg : w.grownBy w' row) (hr : some b ≠ row) : Whole w' b t vs := (hg.block b h.lt hr).trans h
theorem Whole.row (h : Whole w b t vs) {S : Nat → Prop} (hB : S b) {n : Nat} (hn : vs.length = n) : Row w S (some ⟨b, 0, none⟩) n vs :=
 ⟨hn, fun _ => ⟨b, 0, rfl, hB, fun j _ => by rw [Nat.zero_add]; exact h.cell j⟩⟩
theorem Whole.ints {xs : List Int} (h : Whole w b t (xs.map (Value.int .i64))) {S : Nat → Prop} (hB : S b) {n : Nat} (hn : xs.length = n) : RInts w S (some ⟨b, 0, none⟩) n xs :=
 Whole.row h hB (by simpa using hn)
theorem Whole.bools {xs : List Bool} (h : Whole w b t (xs.map Value.bool)) {S : Nat → Prop} (hB : S b) {n : Nat} (hn : xs.length = n) : RBools w S (some ⟨b, 0, none⟩) n xs :=
 Whole.row h hB (by simpa using hn)

/-! what a row that the call owns reads as -/
theorem row_of_own {base : Nat} {e : TypeId} {c : Nat} (h : w.ownsRow base e 1 (.slice A n c) n vs) {S : Nat → Prop} (hS : ∀ g, (.slice A n c : Value).ownBlock = some g → S g) : Row w S A n vs := by
 refine ⟨by simpa using h.1, fun hn => ?_⟩
 rcases h.2 with ⟨_, h0⟩ | ⟨g, cap, cur, hv, hb, hh, hc, hm, hs, ht⟩
 ·omega
 ·injection hv with h1 h2 h3
  subst h1 h3
  refine ⟨g, 0, rfl, hS g rfl, fun j hj => ?_⟩
  rw [Nat.zero_add]; exact h.cellAt j (by omega)

/-! frames -/
theorem below_drewN {B : Nat} {a w : World} (h : Below B a w) (n : Nat) : Below B a (w.drewN n) := ⟨h.os, h.tape, h.output, h.size, h.block⟩
theorem below_of_grown {B : Nat} {w w' : World} {row : Option Nat} (hg : w.grownBy w' row) (hB : B ≤ w.heap.size) (hr : ∀ k, row = some k → B ≤ k) : Below B w w' := (Below.refl B w).grown hg hB hr
theorem grown_trans {a b c : World} {row : Option Nat} (h : a.grownBy b row) (k : b.grownBy c row) : a.grownBy c row :=
 ⟨k.os.trans h.os, k.tape.trans h.tape, k.output.trans h.output, Nat.le_trans h.size k.size, fun i hi hn => (k.block i (Nat.lt_of_lt_of_le hi h.size) hn).trans (h.block i hi hn)⟩
theorem grown_set {a w : World} {g : Nat} (h : a.grownBy w (some g)) (i : Nat) (u : Value) : a.grownBy (w.setCell ⟨g, i, none⟩ u) (some g) :=
 ⟨h.os, h.tape, h.output, by simpa [World.setCell] using h.size, fun k hk hn => (heap_setCell_other w _ k u (fun e => hn (by rw [e]))).trans (h.block k hk hn)⟩
theorem grown_of_below {a w : World} (h : Below a.heap.size a w) (row : Option Nat) : a.grownBy w row := ⟨h.os, h.tape, h.output, h.size, fun i hi _ => h.block i hi⟩
end

/-! endings -/
theorem ret_int {k : IntKind} {a b : Int} (h : a = b) : Ending.returned (.int k a) = .returned (.int k b) := by rw [h]
theorem ret_bool {a b : Bool} (h : a = b) : Ending.returned (.bool a) = .returned (.bool b) := by rw [h]
theorem ret2_bi {k : IntKind} {a b : Bool} {c d : Int} (h : a = b) (h' : c = d) : Ending.returned (.tuple #[.bool a, .int k c]) = .returned (.tuple #[.bool b, .int k d]) := by rw [h, h']
theorem qh {p : Prop} (h : p) : Go.RowKit.Hid p := h
theorem qr (n : Nat) : n ≤ n := Nat.le_refl n
theorem ql {a b c : Nat} (h : a < b) (g : b ≤ c) : a < c := Nat.lt_of_lt_of_le h g
theorem qgz {α : Type} {a : α} {l : List α} : (a :: l)[0]? = some a := List.getElem?_cons_zero
theorem qgs {α : Type} {a : α} {l : List α} {i : Nat} : (a :: l)[i + 1]? = l[i]? := List.getElem?_cons_succ
theorem qsa {α : Type} {l : List α} {i : Nat} {a : α} : l.toArray.setIfInBounds i a = (l.set i a).toArray := List.setIfInBounds_toArray _ _ _
theorem qsz {α : Type} {x : α} {l : List α} {a : α} : (x :: l).set 0 a = a :: l := List.set_cons_zero
theorem qss {α : Type} {x : α} {l : List α} {i : Nat} {a : α} : (x :: l).set (i + 1) a = x :: l.set i a := List.set_cons_succ
end Go.Proofs.YtedbhlgjcnnknaaGreatDoor

/-
  Plain: values of variables, a scan of a clause, one pass over clauses, passes till nothing is new. No program in sight.
-/
namespace Qm

def vof (v : List Int) (n : Int) : Int := if n < 0 then - v.getD (-n).toNat 0 else v.getD n.toNat 0
def vset (v : List Int) (n : Int) : List Int := if n < 0 then v.set (-n).toNat (-1) else v.set n.toNat 1

def scanStep (v : List Int) (st : Int × Int) (n : Int) : Int × Int :=
  if st.2 < 0 then st
  else if vof v n = 1 then (st.1, -1)
  else if vof v n = 0 ∧ (st.2 = 0 ∨ st.2 = 1 ∧ st.1 ≠ n) then (n, st.2 + 1)
  else st
def scan (v : List Int) (c : List Int) : Int × Int := c.foldl (scanStep v) (0, 0)

def passOne (s : Option (List Int × Bool)) (c : List Int) : Option (List Int × Bool) :=
  match s with
  | none => none
  | some (v, m) => if (scan v c).2 = 0 then none else if (scan v c).2 = 1 then some (vset v (scan v c).1, true) else some (v, m)
def pass (cs : List (List Int)) (v : List Int) : Option (List Int × Bool) := cs.foldl passOne (some (v, false))

def spreadN (cs : List (List Int)) : Nat → List Int → Option (List Int)
  | 0, v => some v
  | k + 1, v => match pass cs v with
    | none => none
    | some (v', m) => if m then spreadN cs k v' else some v'
def zeros (v : List Int) : Nat := (v.drop 1).count 0
def spread (cs : List (List Int)) (v : List Int) : Option (List Int) := spreadN cs (zeros v + 1) v

def IsLit (N : Nat) (n : Int) : Prop := n ≠ 0 ∧ n.natAbs ≤ N
def IsCl (N : Nat) (c : List Int) : Prop := ∀ n ∈ c, IsLit N n
def Fine (N : Nat) (v : List Int) : Prop := v.length = N + 1 ∧ ∀ x ∈ v, x = 0 ∨ x = 1 ∨ x = -1

theorem vof_neg (v : List Int) (n : Int) (h : n ≠ 0) : vof v (-n) = - vof v n := by
  unfold vof
  by_cases h1 : n < 0
  · rw [if_pos h1, if_neg (by omega)]; simp
  · rw [if_neg h1, if_pos (by omega)]; simp

theorem vof_range {N : Nat} {v : List Int} (hv : Fine N v) (n : Int) : vof v n = 0 ∨ vof v n = 1 ∨ vof v n = -1 := by
  have key : ∀ k, v.getD k 0 = 0 ∨ v.getD k 0 = 1 ∨ v.getD k 0 = -1 := by
    intro k
    by_cases hk : k < v.length
    · have := hv.2 v[k] (List.getElem_mem hk)
      simpa [List.getD, hk] using this
    · left; simp [List.getD, List.getElem?_eq_none (by omega : v.length ≤ k)]
  unfold vof
  split
  · have := key (-n).toNat; omega
  · exact key n.toNat

theorem vset_len (v : List Int) (n : Int) : (vset v n).length = v.length := by
  unfold vset; split <;> simp

theorem vset_fine {N : Nat} {v : List Int} (hv : Fine N v) (n : Int) : Fine N (vset v n) := by
  refine ⟨by rw [vset_len]; exact hv.1, fun x hx => ?_⟩
  unfold vset at hx
  split at hx
  all_goals
    rcases List.mem_or_eq_of_mem_set hx with h | h
    · exact hv.2 x h
    · subst h; simp

theorem vof_vset {N : Nat} {v : List Int} (hv : Fine N v) {n : Int} (hn : IsLit N n) (m : Int) (hm : m ≠ 0) :
    vof (vset v n) m = if m = n then 1 else if m = -n then -1 else vof v m := by
  have hl := hv.1
  obtain ⟨h0, h1⟩ := hn
  have hg : ∀ (k j : Nat) (x : Int), k < v.length → (v.set k x).getD j 0 = if j = k then x else v.getD j 0 := by
    intro k j x hk
    by_cases hjk : j = k
    · subst hjk; simp [List.getD, hk]
    · simp only [List.getD]; rw [List.getElem?_set_ne (by omega)]; simp [hjk]
  unfold vof vset
  by_cases hn0 : n < 0
  · rw [if_pos hn0]
    by_cases hm0 : m < 0
    · rw [if_pos hm0, if_pos hm0, hg _ _ _ (by omega)]
      by_cases e : m = n
      · subst e; simp
      · rw [if_neg (by omega), if_neg e, if_neg (by omega)]
    · rw [if_neg hm0, if_neg hm0, hg _ _ _ (by omega)]
      by_cases e : m = -n
      · subst e; rw [if_pos rfl, if_neg (by omega), if_pos rfl]
      · rw [if_neg (by omega), if_neg (by omega), if_neg e]
  · rw [if_neg hn0]
    by_cases hm0 : m < 0
    · rw [if_pos hm0, if_pos hm0, hg _ _ _ (by omega)]
      by_cases e : m = -n
      · subst e; rw [if_pos (by omega), if_neg (by omega), if_pos rfl]
      · rw [if_neg (by omega), if_neg (by omega), if_neg e]
    · rw [if_neg hm0, if_neg hm0, hg _ _ _ (by omega)]
      by_cases e : m = n
      · subst e; simp
      · rw [if_neg (by omega), if_neg e, if_neg (by omega)]

/-! what a scan says -/
theorem scan_stuck (v : List Int) (c : List Int) (st : Int × Int) (h : st.2 < 0) : c.foldl (scanStep v) st = st := by
  induction c with
  | nil => rfl
  | cons n c ih => rw [List.foldl_cons]; have : scanStep v st n = st := by simp [scanStep, h]
                   rw [this]; exact ih

def ScanSays (v : List Int) (d : List Int) (st : Int × Int) : Prop :=
  (st.2 = -1 ∧ ∃ x ∈ d, vof v x = 1) ∨
  (st.2 = 0 ∧ ∀ x ∈ d, vof v x ≠ 1 ∧ vof v x ≠ 0) ∨
  (st.2 = 1 ∧ st.1 ∈ d ∧ vof v st.1 = 0 ∧ (∀ x ∈ d, vof v x ≠ 1 ∧ (vof v x = 0 → x = st.1))) ∨
  (2 ≤ st.2 ∧ (∀ x ∈ d, vof v x ≠ 1) ∧ ∃ x ∈ d, ∃ y ∈ d, x ≠ y ∧ vof v x = 0 ∧ vof v y = 0)

theorem scan_inv (v : List Int) (c d : List Int) (st : Int × Int) (h : ScanSays v d st) : ScanSays v (d ++ c) (c.foldl (scanStep v) st) := by
  induction c generalizing d st with
  | nil => simpa using h
  | cons n c ih =>
    have he : d ++ n :: c = (d ++ [n]) ++ c := by simp
    rw [he, List.foldl_cons]
    apply ih
    rcases h with ⟨h1, x, hx, hx1⟩ | ⟨h1, h2⟩ | ⟨h1, h2, h3, h4⟩ | ⟨h1, h2, x, hx, y, hy, hxy, hx0, hy0⟩
    · have : scanStep v st n = st := by simp [scanStep, h1]
      rw [this]
      exact .inl ⟨h1, x, by simp [hx], hx1⟩
    · by_cases a : vof v n = 1
      · have : scanStep v st n = (st.1, -1) := by simp [scanStep, h1, a]
        rw [this]; exact .inl ⟨rfl, n, by simp, a⟩
      · by_cases b : vof v n = 0
        · have : scanStep v st n = (n, 1) := by simp [scanStep, h1, b]
          rw [this]
          refine .inr (.inr (.inl ⟨rfl, by simp, b, fun x hx => ?_⟩))
          rcases List.mem_append.1 hx with hx | hx
          · exact ⟨(h2 x hx).1, fun h => absurd h (h2 x hx).2⟩
          · simp at hx; subst hx; exact ⟨a, fun _ => rfl⟩
        · have : scanStep v st n = st := by simp [scanStep, a, b]
          rw [this]
          refine .inr (.inl ⟨h1, fun x hx => ?_⟩)
          rcases List.mem_append.1 hx with hx | hx
          · exact h2 x hx
          · simp at hx; subst hx; exact ⟨a, b⟩
    · by_cases a : vof v n = 1
      · have : scanStep v st n = (st.1, -1) := by simp [scanStep, h1, a]
        rw [this]; exact .inl ⟨rfl, n, by simp, a⟩
      · by_cases b : vof v n = 0
        · by_cases e1 : st.1 = n
          · have : scanStep v st n = st := by simp [scanStep, h1, b, e1]
            rw [this]
            refine .inr (.inr (.inl ⟨h1, by simp [h2], h3, fun x hx => ?_⟩))
            rcases List.mem_append.1 hx with hx | hx
            · exact h4 x hx
            · simp at hx; subst hx; exact ⟨a, fun _ => e1.symm⟩
          · have : scanStep v st n = (n, 2) := by simp [scanStep, h1, b, e1]
            rw [this]
            refine .inr (.inr (.inr ⟨by simp, fun x hx => ?_, st.1, by simp [h2], n, by simp, e1, h3, b⟩))
            rcases List.mem_append.1 hx with hx | hx
            · exact (h4 x hx).1
            · simp at hx; subst hx; exact a
        · have : scanStep v st n = st := by simp [scanStep, a, b]
          rw [this]
          refine .inr (.inr (.inl ⟨h1, by simp [h2], h3, fun x hx => ?_⟩))
          rcases List.mem_append.1 hx with hx | hx
          · exact h4 x hx
          · simp at hx; subst hx; exact ⟨a, fun h => absurd h b⟩
    · by_cases a : vof v n = 1
      · have : scanStep v st n = (st.1, -1) := by
          have : ¬ st.2 < 0 := by omega
          simp [scanStep, this, a]
        rw [this]; exact .inl ⟨rfl, n, by simp, a⟩
      · have : scanStep v st n = st := by
          have h3 : ¬ st.2 < 0 := by omega
          have h4 : ¬ (st.2 = 0 ∨ st.2 = 1 ∧ st.1 ≠ n) := by omega
          simp only [scanStep, h3, a, h4, if_false, and_false]
        rw [this]
        refine .inr (.inr (.inr ⟨h1, fun z hz => ?_, x, by simp [hx], y, by simp [hy], hxy, hx0, hy0⟩))
        rcases List.mem_append.1 hz with hz | hz
        · exact h2 z hz
        · simp at hz; subst hz; exact a

theorem scan_cases (v : List Int) (c : List Int) :
    ((scan v c).2 = -1 ∧ ∃ x ∈ c, vof v x = 1) ∨
    ((scan v c).2 = 0 ∧ ∀ x ∈ c, vof v x ≠ 1 ∧ vof v x ≠ 0) ∨
    ((scan v c).2 = 1 ∧ (scan v c).1 ∈ c ∧ vof v (scan v c).1 = 0 ∧ (∀ x ∈ c, vof v x ≠ 1 ∧ (vof v x = 0 → x = (scan v c).1))) ∨
    (2 ≤ (scan v c).2 ∧ (∀ x ∈ c, vof v x ≠ 1) ∧ ∃ x ∈ c, ∃ y ∈ c, x ≠ y ∧ vof v x = 0 ∧ vof v y = 0) := by
  have := scan_inv v c [] (0, 0) (.inr (.inl ⟨rfl, by simp⟩))
  simpa [scan, ScanSays] using this


theorem scan_unit_mem {v c : List Int} (h : (scan v c).2 = 1) : (scan v c).1 ∈ c := by
  rcases scan_cases v c with ⟨e, _⟩ | ⟨e, _⟩ | ⟨_, hm, _⟩ | ⟨e, _⟩
  · omega
  · omega
  · exact hm
  · omega

/-! passes -/
theorem passOne_none (cs : List (List Int)) : cs.foldl passOne none = none := by
  induction cs with
  | nil => rfl
  | cons c cs ih => rw [List.foldl_cons]; exact ih

theorem foldl_take_succ {α β : Type} (f : β → α → β) (s : β) (l : List α) (k : Nat) (d : α) (h : k < l.length) : (l.take (k+1)).foldl f s = f ((l.take k).foldl f s) (l.getD k d) := by
  rw [List.take_succ_eq_append_getElem h, List.foldl_append, List.getD_eq_getElem?_getD, List.getElem?_eq_getElem h]; rfl
theorem foldl_take_drop {α β : Type} (f : β → α → β) (s : β) (l : List α) (k : Nat) : l.foldl f s = (l.drop k).foldl f ((l.take k).foldl f s) := by
  rw [← List.foldl_append, List.take_append_drop]
theorem flatten_take_succ {α : Type} (ls : List (List α)) (k : Nat) (h : k < ls.length) : (ls.take (k+1)).flatten = (ls.take k).flatten ++ ls.getD k [] := by
  rw [List.take_succ_eq_append_getElem h, List.flatten_append, List.getD_eq_getElem?_getD, List.getElem?_eq_getElem h]; simp

theorem scan_break {v : List Int} {c : List Int} {k : Nat} {st : Int × Int} (h : (c.take k).foldl (scanStep v) (0, 0) = st) (hn : st.2 < 0) : scan v c = st := by
  unfold scan
  rw [foldl_take_drop _ _ _ k, h]; exact scan_stuck v _ st hn

theorem passOne_fails {v1 : List Int} {m : Bool} {c : List Int} (h0 : (scan v1 c).2 = 0) : passOne (some (v1, m)) c = none := by simp only [passOne]; rw [if_pos h0]
theorem passOne_unit {v1 : List Int} {m : Bool} {c : List Int} (h0 : (scan v1 c).2 = 1) : passOne (some (v1, m)) c = some (vset v1 (scan v1 c).1, true) := by
  simp only [passOne]; rw [if_neg (by omega), if_pos h0]
theorem passOne_other {v1 : List Int} {m : Bool} {c : List Int} (h0 : (scan v1 c).2 ≠ 0) (h1 : (scan v1 c).2 ≠ 1) : passOne (some (v1, m)) c = some (v1, m) := by
  simp only [passOne]; rw [if_neg h0, if_neg h1]

theorem count_set_zero (l : List Int) (k : Nat) (x : Int) (hk : k < l.length) (h0 : l[k] = 0) (hx : x ≠ 0) : (l.set k x).count 0 + 1 = l.count 0 := by
  induction l generalizing k with
  | nil => simp at hk
  | cons a l ih =>
    cases k with
    | zero =>
      simp at h0; subst h0
      simp [List.set, List.count_cons, hx]
    | succ k =>
      have := ih k (by simpa using hk) (by simpa using h0)
      simp only [List.set, List.count_cons]; omega

theorem zeros_vset {N : Nat} {v : List Int} (hv : Fine N v) {n : Int} (hn : IsLit N n) (h : vof v n = 0) : zeros (vset v n) + 1 = zeros v := by
  have hl := hv.1
  obtain ⟨h0, h1⟩ := hn
  have key : ∀ (k : Nat) (x : Int), 1 ≤ k → k < v.length → v.getD k 0 = 0 → x ≠ 0 → zeros (v.set k x) + 1 = zeros v := by
    intro k x hk1 hk hz hx
    unfold zeros
    obtain ⟨j, rfl⟩ : ∃ j, k = j + 1 := ⟨k - 1, by omega⟩
    have : (v.set (j+1) x).drop 1 = (v.drop 1).set j x := by
      cases v with
      | nil => rfl
      | cons a v => rfl
    rw [this]
    refine count_set_zero _ _ _ (by simp; omega) ?_ hx
    rw [List.getD_eq_getElem?_getD, List.getElem?_eq_getElem hk] at hz
    simpa using hz
  unfold vset
  unfold vof at h
  by_cases hn0 : n < 0
  · rw [if_pos hn0] at h ⊢
    exact key _ _ (by omega) (by omega) (by omega) (by omega)
  · rw [if_neg hn0] at h ⊢
    exact key _ _ (by omega) (by omega) h (by omega)

theorem passOne_ok {N : Nat} {v v' : List Int} {m m' : Bool} {c : List Int} (hv : Fine N v) (hc : IsCl N c) (h : passOne (some (v, m)) c = some (v', m')) :
    Fine N v' ∧ ((v' = v ∧ m' = m) ∨ (zeros v' + 1 = zeros v ∧ m' = true)) := by
  simp only [passOne] at h
  split at h
  · cases h
  · split at h
    · rename_i h0 h1
      injection h with h; injection h with ha hb
      subst ha hb
      rcases scan_cases v c with ⟨e, _⟩ | ⟨e, _⟩ | ⟨_, hm, hz, _⟩ | ⟨e, _⟩
      · omega
      · omega
      · exact ⟨vset_fine hv _, .inr ⟨zeros_vset hv (hc _ hm) hz, rfl⟩⟩
      · omega
    · injection h with h; injection h with ha hb
      subst ha hb
      exact ⟨hv, .inl ⟨rfl, rfl⟩⟩

theorem pass_ok {N : Nat} {cs : List (List Int)} (hcs : ∀ c ∈ cs, IsCl N c) : ∀ {v v' : List Int} {m m' : Bool}, Fine N v → cs.foldl passOne (some (v, m)) = some (v', m') →
    Fine N v' ∧ ((v' = v ∧ m' = m) ∨ (zeros v' < zeros v ∧ m' = true)) := by
  induction cs with
  | nil => intro v v' m m' hv h; simp at h; obtain ⟨rfl, rfl⟩ := h; exact ⟨hv, .inl ⟨rfl, rfl⟩⟩
  | cons c cs ih =>
    intro v v' m m' hv h
    rw [List.foldl_cons] at h
    cases hp : passOne (some (v, m)) c with
    | none => rw [hp, passOne_none] at h; cases h
    | some x =>
      obtain ⟨v1, m1⟩ := x
      rw [hp] at h
      obtain ⟨hf, h1⟩ := passOne_ok hv (hcs c (by simp)) hp
      obtain ⟨hf', h2⟩ := ih (fun d hd => hcs d (by simp [hd])) hf h
      refine ⟨hf', ?_⟩
      rcases h1 with ⟨rfl, rfl⟩ | ⟨ha, rfl⟩
      · exact h2
      · rcases h2 with ⟨rfl, rfl⟩ | ⟨hb, rfl⟩
        · exact .inr ⟨by omega, rfl⟩
        · exact .inr ⟨by omega, rfl⟩

theorem spreadN_fuel {N : Nat} {cs : List (List Int)} (hcs : ∀ c ∈ cs, IsCl N c) : ∀ (k j : Nat) (v : List Int), Fine N v → zeros v < k → zeros v < j → spreadN cs k v = spreadN cs j v := by
  intro k
  induction k with
  | zero => intro j v _ h; omega
  | succ k ih =>
    intro j v hv hk hj
    obtain ⟨j, rfl⟩ : ∃ i, j = i + 1 := ⟨j - 1, by omega⟩
    simp only [spreadN]
    cases hp : pass cs v with
    | none => rfl
    | some x =>
      obtain ⟨v', m⟩ := x
      simp only
      cases m with
      | false => rfl
      | true =>
        obtain ⟨hf, h⟩ := pass_ok hcs hv hp
        rcases h with ⟨_, h⟩ | ⟨h, _⟩
        · cases h
        · exact ih j v' hf (by omega) (by omega)

theorem spread_step {N : Nat} {cs : List (List Int)} (hcs : ∀ c ∈ cs, IsCl N c) {v : List Int} (hv : Fine N v) :
    spread cs v = match pass cs v with | none => none | some (v', m) => if m then spread cs v' else some v' := by
  show spreadN cs (zeros v + 1) v = _
  simp only [spreadN]
  cases hp : pass cs v with
  | none => rfl
  | some x =>
    obtain ⟨v', m⟩ := x
    simp only
    cases m with
    | false => rfl
    | true =>
      obtain ⟨hf, h⟩ := pass_ok hcs hv hp
      rcases h with ⟨_, h⟩ | ⟨h, _⟩
      · cases h
      · exact spreadN_fuel hcs _ _ v' hf (by omega) (by omega)
theorem spread_none {N : Nat} {cs : List (List Int)} (hcs : ∀ c ∈ cs, IsCl N c) {v : List Int} (hv : Fine N v) (h : pass cs v = none) : spread cs v = none := by
  rw [spread_step hcs hv, h]
theorem spread_more {N : Nat} {cs : List (List Int)} (hcs : ∀ c ∈ cs, IsCl N c) {v v' : List Int} (hv : Fine N v) (h : pass cs v = some (v', true)) : spread cs v = spread cs v' := by
  rw [spread_step hcs hv, h]; rfl
theorem spread_done {N : Nat} {cs : List (List Int)} (hcs : ∀ c ∈ cs, IsCl N c) {v v' : List Int} (hv : Fine N v) (h : pass cs v = some (v', false)) : spread cs v = some v' := by
  rw [spread_step hcs hv, h]; rfl

/-! the open literals of a clause, each once: the document's way to scan -/
/-! literals that are assumed -/
def assume1 (s : Option (List Int)) (n : Int) : Option (List Int) := match s with | none => none | some v => if vof v n = -1 then none else some (vset v n)
def assume (ls : List Int) (v : List Int) : Option (List Int) := ls.foldl assume1 (some v)
theorem assume1_none (ls : List Int) : ls.foldl assume1 none = none := by
  induction ls with
  | nil => rfl
  | cons n ls ih => rw [List.foldl_cons]; exact ih
def zeroVals (N : Nat) : List Int := List.replicate (N + 1) 0
theorem zeroVals_fine (N : Nat) : Fine N (zeroVals N) := ⟨by simp [zeroVals], fun x hx => by simp [zeroVals] at hx; exact .inl hx⟩
def rupStep (N : Nat) (cs : List (List Int)) (c : List Int) : Bool := match assume (c.map Neg.neg) (zeroVals N) with | none => true | some v => (spread cs v).isNone
theorem assume_take {ls : List Int} {v vc : List Int} {k : Nat} {x : Int} (h : (ls.take k).foldl assume1 (some v) = some vc) (hk : k < ls.length) (hx : ls.getD k 0 = x) : (ls.take (k+1)).foldl assume1 (some v) = if vof vc x = -1 then none else some (vset vc x) := by
  rw [foldl_take_succ _ _ _ _ 0 hk, h, hx]; rfl
theorem assume_stop {ls : List Int} {v : List Int} {k : Nat} (h : (ls.take k).foldl assume1 (some v) = none) : assume ls v = none := by
  unfold assume
  rw [foldl_take_drop _ _ _ k, h, assume1_none]
theorem assume_all {ls : List Int} {v vc : List Int} {k : Nat} (h : (ls.take k).foldl assume1 (some v) = some vc) (hk : k = ls.length) : assume ls v = some vc := by
  unfold assume
  rwa [hk, List.take_length] at h
end Qm

/- Walks: Values.Of, Values.Set. -/
namespace Go.Proofs.YtedbhlgjcnnknaaGreatDoor
open Go.RowKit

theorem vof_bd {v : List Int} (hv : ∀ y ∈ v, -1 ≤ y ∧ y ≤ 1) (k : Nat) : -1 ≤ v.getD k 0 ∧ v.getD k 0 ≤ 1 := by
 rw [List.getD_eq_getElem?_getD]
 by_cases h : k < v.length
 ·rw [List.getElem?_eq_getElem h]; exact hv _ (List.getElem_mem h)
 ·rw [List.getElem?_eq_none (by omega)]; simp

set_option maxHeartbeats 400000 in
theorem of_any (A : Option Addr) (n cap : Nat) (v : List Int) (x : Int) (w : World) (S : Nat → Prop) (hr : RInts w S A n v) (hn : n ≤ 401) (hx : -(n : Int) < x ∧ x < n) (hv : ∀ y ∈ v, -1 ≤ y ∧ y ≤ 1) :
  Calls Tryz.prog 59 #[.slice A n cap, .int .i64 x] w fun e w' => e = .returned (.int .i64 (Qm.vof v x)) ∧ w = w' := by
 by_cases h0 : x < 0
 ·obtain ⟨k, rfl⟩ : ∃ k : Nat, x = -(k : Int) := ⟨(-x).toNat, by omega⟩
  have Hr : Hid (Qm.vof v (-(k : Int)) = - v.getD k 0) := by show _ = _; unfold Qm.vof; rw [if_pos h0]; congr 2; omega
  obtain ⟨b, o, rfl, hb, hc⟩ := hr.at_ (k := k) (by omega)
  have hbd := vof_bd hv k
  clear hv hr
  generalize v.getD k 0 = u at hc hbd Hr
  have hk : (k : Int) < n := by omega
  clear hx
  go_enter Tryz.func59, Tryz.ntmps59
  go_wp2
  go_ret
  exact ⟨ret_int Hr.out.symm, rfl⟩
 ·obtain ⟨k, rfl⟩ : ∃ k : Nat, x = (k : Int) := ⟨x.toNat, by omega⟩
  have Hr : Hid (Qm.vof v (k : Int) = v.getD k 0) := by show _ = _; unfold Qm.vof; rw [if_neg h0]; congr 1
  obtain ⟨b, o, rfl, hb, hc⟩ := hr.at_ (k := k) (by omega)
  have hbd := vof_bd hv k
  clear hv hr
  generalize v.getD k 0 = u at hc hbd Hr
  have hk : (k : Int) < n := by omega
  clear hx
  go_enter Tryz.func59, Tryz.ntmps59
  go_wp2
  go_ret
  exact ⟨ret_int Hr.out.symm, rfl⟩

theorem map_set_int (v : List Int) (k : Nat) (x : Int) : (v.map (Value.int .i64)).set k (.int .i64 x) = (v.set k x).map (Value.int .i64) := by rw [List.map_set]

set_option maxHeartbeats 400000 in
theorem set_any (b : Nat) (t : TypeId) (n cap : Nat) (v : List Int) (x : Int) (w : World) (hl : v.length = n) (hw : Whole w b t (v.map (Value.int .i64))) (hn : n ≤ 401) (hx : -(n : Int) < x ∧ x < n) :
  Calls Tryz.prog 60 #[.slice (some ⟨b, 0, none⟩) n cap, .int .i64 x] w fun e w' => e = .returned (.tuple #[]) ∧ Whole w' b t ((Qm.vset v x).map (Value.int .i64)) ∧ w.grownBy w' (some b) ∧ w'.heap.size = w.heap.size := by
 have Hl := qh hl; clear hl
 by_cases h0 : x < 0
 ·obtain ⟨k, rfl⟩ : ∃ k : Nat, x = -(k : Int) := ⟨(-x).toNat, by omega⟩
  have Hr : Hid (Qm.vset v (-(k : Int)) = v.set k (-1)) := by show _ = _; unfold Qm.vset; rw [if_pos h0]; congr 2; omega
  have hk : (k : Int) < n := by omega
  have hc := hw.cell k
  rw [List.getElem?_map, List.getElem?_eq_getElem (by rw [Hl.out]; omega), Option.map_some] at hc
  have hf := hw.free k
  generalize v[k]'(by rw [Hl.out]; omega) = u at hc
  clear hx
  go_enter Tryz.func60, Tryz.ntmps60
  go_wp2
  go_end0
  refine ⟨rfl, ?_, grown_set (World.grownBy.refl w _) _ _, by simp [World.setCell]⟩
  rw [Hr.out, ← map_set_int]
  exact hw.set_ k _
 ·obtain ⟨k, rfl⟩ : ∃ k : Nat, x = (k : Int) := ⟨x.toNat, by omega⟩
  have Hr : Hid (Qm.vset v (k : Int) = v.set k 1) := by show _ = _; unfold Qm.vset; rw [if_neg h0]; congr 1
  have hk : (k : Int) < n := by omega
  have hc := hw.cell k
  rw [List.getElem?_map, List.getElem?_eq_getElem (by rw [Hl.out]; omega), Option.map_some] at hc
  have hf := hw.free k
  generalize v[k]'(by rw [Hl.out]; omega) = u at hc
  clear hx
  go_enter Tryz.func60, Tryz.ntmps60
  go_wp2
  go_end0
  refine ⟨rfl, ?_, grown_set (World.grownBy.refl w _) _ _, by simp [World.setCell]⟩
  rw [Hr.out, ← map_set_int]
  exact hw.set_ k _
end Go.Proofs.YtedbhlgjcnnknaaGreatDoor
