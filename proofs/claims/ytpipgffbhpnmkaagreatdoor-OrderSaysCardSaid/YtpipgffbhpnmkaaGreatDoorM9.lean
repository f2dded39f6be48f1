/- Parts of the proof: walks and plain laws, side by side. -/
import Derived.Test.YtpipgffbhpnmkaaGreatDoorM1
import Derived.Test.YtpipgffbhpnmkaaGreatDoorM3
import Derived.Lib.SlicesCompact
import Derived.WalkLawsBesides
import Derived.Sort.Walk0
import Derived.Test.YtpipgffbhpnmkaaGreatDoorM8
import Derived.Test.YtpipgffbhpnmkaaGreatDoorShelf
set_option linter.unusedVariables false
set_option linter.unusedSimpArgs false
set_option linter.unusedSectionVars false
namespace Qm
open Go

/-! Trees, in plain words: no program in sight. -/

structure Pk where
 nm : W
 ver : Int
 slot : Int
 fs : List W
 nd : Nd

def badNext : Option W → W → Bool
 | none, _ => false
 | some p, f => decide (f ≤ p)
def ckFlags : Option W → List W → Int
 | _, [] => 0
 | prev, f :: r => if isName f = false then 1 else if badNext prev f = true then 6 else ckFlags (some f) r
def ckPk (p : Pk) : Int :=
 if isName p.nm = false then 1
 else if p.ver < 1 ∨ 99 < p.ver ∨ p.slot < 1 ∨ 9 < p.slot then 3
 else if 2 < p.fs.length then 2
 else if ckFlags none p.fs ≠ 0 then ckFlags none p.fs
 else if p.nd.kind ≠ 3 then 4
 else if ckNeed p.nd ≠ 0 then ckNeed p.nd
 else if (flagsN p.nd).all (fun f => p.fs.contains f) = true then 0 else 5
def beforeP (a b : Pk) : Bool := decide (a.nm < b.nm) || (decide (a.nm = b.nm) && decide (a.ver < b.ver))
def badPk : Option Pk → Pk → Bool
 | none, _ => false
 | some q, p => !beforeP q p
def ckT : Option Pk → Nat → List Pk → Int
 | _, _, [] => 0
 | prev, n, p :: r => if ckPk p ≠ 0 then ckPk p else if badPk prev p = true then 6 else if 14 < n + p.fs.length then 2 else ckT (some p) (n + p.fs.length) r
def ckTree (ps : List Pk) : Int := if 8 < ps.length then 2 else ckT none ps.length ps

/-! ### text -/
/-! ### reading -/
def cut4 (l : W) : Option (W × W × W × W × W) :=
 match cutAt (· == 32) l with
 | none => none
 | some (a, _, l1) => match cutAt (· == 32) l1 with
  | none => none
  | some (b, _, l2) => match cutAt (· == 32) l2 with
   | none => none
   | some (c, _, l3) => match cutAt (· == 32) l3 with
    | none => none
    | some (d, _, e) => some (a, b, c, d, e)
def fsOf (d : W) : List W := if d = [] then [] else splitB 44 d
def parseLine (l : W) : Except Int Pk :=
 match cut4 l with
 | none => .error 1
 | some (a, b, c, d, e) => match number b, number c with
  | some v, some k => if (parseNd e).2 = 1 then .error 1 else if (parseNd e).2 ≠ 0 then .error (parseNd e).2 else .ok ⟨a, v, k, fsOf d, (parseNd e).1⟩
  | _, _ => .error 1
def parseLines : Nat → Nat → W → Except (Nat × Int) (List Pk)
 | 0, _, _ => .ok []
 | f + 1, i, s => if s = [] then .ok [] else match cutAt (· == 10) s with
  | none => .error (i, 1)
  | some (l, _, rest) => match parseLine l with
   | .error e => .error (i, e)
   | .ok p => match parseLines f (i + 1) rest with
    | .error e => .error e
    | .ok ps => .ok (p :: ps)
def parseTree (s : W) : List Pk × Nat × Int :=
 if 20000 < s.length then ([], 0, 2) else match parseLines (s.length + 1) 0 s with
  | .error (i, e) => ([], i, e)
  | .ok ps => if ckTree ps = 0 then (ps, 0, 0) else ([], 0, ckTree ps)

/-! ### what a right tree is -/
theorem ckT_mem : ∀ {ps : List Pk} {prev : Option Pk} {n : Nat}, ckT prev n ps = 0 → ∀ p ∈ ps, ckPk p = 0
 | [], _, _, _, p, hp => by cases hp
 | q :: r, prev, n, h, p, hp => by
  simp only [ckT] at h
  by_cases h1 : ckPk q = 0
  ·rw [if_neg (by simpa using h1)] at h
   split at h
   ·cases h
   ·split at h
    ·cases h
    ·rcases List.mem_cons.1 hp with rfl | hp
     ·exact h1
     ·exact ckT_mem h p hp
  ·rw [if_pos h1] at h
   exact absurd h h1
theorem ckTree_mem {ps : List Pk} (h : ckTree ps = 0) : ∀ p ∈ ps, ckPk p = 0 := by
 unfold ckTree at h
 split at h
 ·cases h
 ·exact ckT_mem h
structure PkOk (p : Pk) : Prop where
 nm : isName p.nm = true
 ver : 1 ≤ p.ver ∧ p.ver ≤ 99
 slot : 1 ≤ p.slot ∧ p.slot ≤ 9
 len : p.fs.length ≤ 2
 fs : ckFlags none p.fs = 0
 kind : p.nd.kind = 3
 nd : ckNeed p.nd = 0
 sub : ∀ f ∈ flagsN p.nd, f ∈ p.fs
theorem pkOk {p : Pk} (h : ckPk p = 0) : PkOk p := by
 unfold ckPk at h
 split at h
 ·cases h
 split at h
 ·cases h
 split at h
 ·cases h
 split at h
 ·rename_i h4; exact absurd h h4
 split at h
 ·cases h
 split at h
 ·rename_i h6; exact absurd h h6
 split at h
 ·rename_i h1 h2 h3 h4 h5 h6 h7
  refine ⟨by simpa using h1, by omega, by omega, by omega, by simpa using h4, by simpa using h5, by simpa using h6, fun f hf => ?_⟩
  have := List.all_eq_true.1 h7 f hf
  simpa using this
 ·cases h
theorem ckFlags_names : ∀ {fs : List W} {prev : Option W}, ckFlags prev fs = 0 → ∀ f ∈ fs, isName f = true
 | [], _, _, f, hf => by cases hf
 | g :: r, prev, h, f, hf => by
  simp only [ckFlags] at h
  split at h
  ·cases h
  ·rename_i h1
   split at h
   ·cases h
   ·rcases List.mem_cons.1 hf with rfl | hf
    ·simpa using h1
    ·exact ckFlags_names h f hf

/-! ### what is printed is read -/
/-! ### and back -/
theorem cut4_back {l a b c d e : W} (h : cut4 l = some (a, b, c, d, e)) : l = a ++ (32 :: b ++ (32 :: c ++ (32 :: d ++ (32 :: e)))) := by
 unfold cut4 at h
 split at h
 ·cases h
 ·rename_i a' x1 l1 h1
  split at h
  ·cases h
  ·rename_i b' x2 l2 h2
   split at h
   ·cases h
   ·rename_i c' x3 l3 h3
    split at h
    ·cases h
    ·rename_i d' x4 l4 h4
     simp only [Option.some.injEq, Prod.mk.injEq] at h
     obtain ⟨rfl, rfl, rfl, rfl, rfl⟩ := h
     obtain ⟨e1, p1, _⟩ := of_cutAt_some h1
     obtain ⟨e2, p2, _⟩ := of_cutAt_some h2
     obtain ⟨e3, p3, _⟩ := of_cutAt_some h3
     obtain ⟨e4, p4, _⟩ := of_cutAt_some h4
     have p1' : x1 = 32 := by simpa using p1
     have p2' : x2 = 32 := by simpa using p2
     have p3' : x3 = 32 := by simpa using p3
     have p4' : x4 = 32 := by simpa using p4
     subst p1' p2' p3' p4'
     rw [e1, e2, e3, e4]
     simp
end Qm

/-
 Rows of structs in memory (whatever the structs read as); packages and trees in memory.
-/
namespace Go.Proofs.YtpipgffbhpnmkaaGreatDoor
open Go.RowKit Qm

theorem flatG {K : Nat} {cs : List (List Value)} (h : ∀ x ∈ cs, x.length = K) : ∀ {j : Nat} {x : List Value}, cs[j]? = some x → ∀ i, i < K → cs.flatten[j * K + i]? = x[i]? := by
 induction cs with
 | nil => intro j x hj; simp at hj
 | cons c r ih =>
  intro j x hj i hi
  have hc := h c (List.mem_cons_self ..)
  rw [List.flatten_cons]
  cases j with
  | zero =>
   simp only [List.getElem?_cons_zero, Option.some.injEq] at hj
   subst hj
   rw [List.getElem?_append_left (by omega)]; congr 1; omega
  | succ j =>
   rw [List.getElem?_cons_succ] at hj
   have he : (j + 1) * K = j * K + K := Nat.succ_mul j K
   rw [List.getElem?_append_right (by omega)]
   rw [← ih (fun y hy => h y (List.mem_cons_of_mem _ hy)) hj i hi]
   congr 1; omega

def RSeq {α : Type} (K : Nat) (R : List Value → α → Prop) (w : World) (S : Nat → Prop) (A : Option Addr) (n : Nat) (ys : List α) : Prop :=
 ∃ cs : List (List Value), ys.length = n ∧ cs.length = n ∧ Row w S A (n * K) cs.flatten ∧ (∀ x ∈ cs, x.length = K) ∧ ∀ (j : Nat) (x : List Value) (y : α), cs[j]? = some x → ys[j]? = some y → R x y
section
variable {α : Type} {K : Nat} {R R' : List Value → α → Prop} {w w' : World} {S S' : Nat → Prop} {A : Option Addr} {n : Nat} {ys : List α}
theorem RSeq.len (h : RSeq K R w S A n ys) : ys.length = n := by obtain ⟨_, h, _⟩ := h; exact h
theorem RSeq.nil_ : RSeq K R w S A 0 [] := ⟨[], rfl, rfl, by rw [Nat.zero_mul]; exact Row.nil_, fun x h => by simp at h, fun j x y h _ => by simp at h⟩
theorem RSeq.keep (h : RSeq K R w S A n ys) (hw : ∀ p : Addr, S p.block → w'.cell? p = w.cell? p) (hR : ∀ x y, R x y → R' x y) : RSeq K R' w' S A n ys := by
 obtain ⟨cs, hk, hcs, hrow, hK, hr⟩ := h
 exact ⟨cs, hk, hcs, hrow.keep hw, hK, fun j x y h1 h2 => hR x y (hr j x y h1 h2)⟩
theorem RSeq.more (hS : ∀ k, S k → S' k) (h : RSeq K R w S A n ys) (hR : ∀ x y, R x y → R' x y) : RSeq K R' w S' A n ys := by
 obtain ⟨cs, hk, hcs, hrow, hK, hr⟩ := h
 exact ⟨cs, hk, hcs, hrow.more hS, hK, fun j x y h1 h2 => hR x y (hr j x y h1 h2)⟩
theorem RSeq.at_ (h : RSeq K R w S A n ys) {j : Nat} (hj : j < n) (hK0 : 0 < K) :
  ∃ b o x y, A = some ⟨b, o, none⟩ ∧ S b ∧ ys[j]? = some y ∧ R x y ∧ x.length = K ∧ ∀ i, i < K → w.cell? ⟨b, o + j * K + i, none⟩ = x[i]? := by
 obtain ⟨cs, hk, hcs, hrow, hK, hr⟩ := h
 have hjK : j * K + K ≤ n * K := by rw [← Nat.succ_mul]; exact Nat.mul_le_mul_right K hj
 obtain ⟨b, o, hA, hb, hc⟩ := hrow.2 (by omega)
 have e1 : cs[j]? = some (cs[j]'(by omega)) := List.getElem?_eq_getElem (by omega)
 have e2 : ys[j]? = some (ys[j]'(by omega)) := List.getElem?_eq_getElem (by omega)
 refine ⟨b, o, _, _, hA, hb, e2, hr j _ _ e1 e2, hK _ (List.getElem_mem _), fun i hi => ?_⟩
 rw [Nat.add_assoc, hc (j * K + i) (by omega)]
 exact flatG hK e1 i hi
end

def pkRow (p : Pk) (A : Option Addr) (n c : Nat) (x : List Value) : List Value := .string ⟨p.nm.toArray⟩ :: .int .i64 p.ver :: .int .i64 p.slot :: .slice A n c :: x
structure RWords (w : World) (S : Nat → Prop) (A : Option Addr) (n : Nat) (fs : List Qm.W) : Prop where
 row : Row w S A n (strs fs)
 small : ∀ f ∈ fs, f.length ≤ maxLen
theorem RWords.len {w : World} {S : Nat → Prop} {A : Option Addr} {n : Nat} {fs : List Qm.W} (h : RWords w S A n fs) : fs.length = n := by have := h.row.len; simpa [strs] using this
theorem RWords.keep {w w' : World} {S : Nat → Prop} {A : Option Addr} {n : Nat} {fs : List Qm.W} (h : RWords w S A n fs) (hw : ∀ p : Addr, S p.block → w'.cell? p = w.cell? p) : RWords w' S A n fs := ⟨h.row.keep hw, h.small⟩
theorem RWords.more {w : World} {S S' : Nat → Prop} (hS : ∀ k, S k → S' k) {A : Option Addr} {n : Nat} {fs : List Qm.W} (h : RWords w S A n fs) : RWords w S' A n fs := ⟨h.row.more hS, h.small⟩
theorem RWords.under {w w' : World} {S : Nat → Prop} {B : Nat} {A : Option Addr} {n : Nat} {fs : List Qm.W} (h : RWords w S A n fs) (hb : Below B w w') (hS : ∀ k, S k → k < B) : RWords w' S A n fs := h.keep fun _ hp => hb.cell (hS _ hp)
theorem RWords.nil_ {w : World} {S : Nat → Prop} {A : Option Addr} : RWords w S A 0 [] := ⟨Row.nil_, fun _ h => by cases h⟩
theorem RWords.at_ {w : World} {S : Nat → Prop} {A : Option Addr} {n : Nat} {fs : List Qm.W} (h : RWords w S A n fs) {j : Nat} (hj : j < n) :
  ∃ b o f, A = some ⟨b, o, none⟩ ∧ S b ∧ fs[j]? = some f ∧ f.length ≤ maxLen ∧ w.cell? ⟨b, o + j, none⟩ = some (.string ⟨f.toArray⟩) := by
 have hl := h.len
 obtain ⟨b, o, hA, hb, hc⟩ := h.row.at_ hj
 have e : fs[j]? = some (fs[j]'(by omega)) := List.getElem?_eq_getElem (by omega)
 refine ⟨b, o, _, hA, hb, e, h.small _ (List.getElem_mem _), ?_⟩
 rw [hc]
 simp only [strs, List.getElem?_map, e, Option.map_some]

structure PkAt (w : World) (S : Nat → Prop) (p : Pk) (A : Option Addr) (n c : Nat) (x : List Value) : Prop where
 cap : n ≤ c
 max : c ≤ maxLen
 nm : p.nm.length ≤ maxLen
 fs : RWords w S A n p.fs
 nd : RNd w S x p.nd
def RPk (w : World) (S : Nat → Prop) (cs : List Value) (p : Pk) : Prop := ∃ A n c x, cs = pkRow p A n c x ∧ PkAt w S p A n c x
theorem PkAt.keep {w w' : World} {S : Nat → Prop} {p : Pk} {A : Option Addr} {n c : Nat} {x : List Value} (h : PkAt w S p A n c x) (hw : ∀ p : Addr, S p.block → w'.cell? p = w.cell? p) : PkAt w' S p A n c x :=
 ⟨h.cap, h.max, h.nm, h.fs.keep hw, h.nd.keep hw⟩
theorem PkAt.more {w : World} {S S' : Nat → Prop} (hS : ∀ k, S k → S' k) {p : Pk} {A : Option Addr} {n c : Nat} {x : List Value} (h : PkAt w S p A n c x) : PkAt w S' p A n c x :=
 ⟨h.cap, h.max, h.nm, h.fs.more hS, h.nd.more hS⟩
theorem PkAt.under {w w' : World} {S : Nat → Prop} {B : Nat} {p : Pk} {A : Option Addr} {n c : Nat} {x : List Value} (h : PkAt w S p A n c x) (hb : Below B w w') (hS : ∀ k, S k → k < B) : PkAt w' S p A n c x := h.keep fun _ hp => hb.cell (hS _ hp)
theorem RPk.keep {w w' : World} {S : Nat → Prop} {x : List Value} {p : Pk} (h : RPk w S x p) (hw : ∀ p : Addr, S p.block → w'.cell? p = w.cell? p) : RPk w' S x p := by
 obtain ⟨A, n, c, y, rfl, h⟩ := h; exact ⟨A, n, c, y, rfl, h.keep hw⟩
theorem RPk.more {w : World} {S S' : Nat → Prop} (hS : ∀ k, S k → S' k) {x : List Value} {p : Pk} (h : RPk w S x p) : RPk w S' x p := by
 obtain ⟨A, n, c, y, rfl, h⟩ := h; exact ⟨A, n, c, y, rfl, h.more hS⟩
theorem RPk.under {w w' : World} {S : Nat → Prop} {B : Nat} {x : List Value} {p : Pk} (h : RPk w S x p) (hb : Below B w w') (hS : ∀ k, S k → k < B) : RPk w' S x p := h.keep fun _ hp => hb.cell (hS _ hp)
theorem RPk.len {w : World} {S : Nat → Prop} {x : List Value} {p : Pk} (h : RPk w S x p) : x.length = 14 := by
 obtain ⟨A, n, c, y, rfl, h⟩ := h; simp [pkRow, h.nd.ten]

def RTree (w : World) (S : Nat → Prop) (A : Option Addr) (n : Nat) (ps : List Pk) : Prop := RSeq 14 (RPk w S) w S A n ps
section
variable {w w' : World} {S S' : Nat → Prop} {A : Option Addr} {n : Nat} {ps : List Pk}
theorem RTree.len (h : RTree w S A n ps) : ps.length = n := RSeq.len h
theorem RTree.nil_ : RTree w S A 0 [] := RSeq.nil_
theorem RTree.keep (h : RTree w S A n ps) (hw : ∀ p : Addr, S p.block → w'.cell? p = w.cell? p) : RTree w' S A n ps := RSeq.keep h hw fun _ _ h => h.keep hw
theorem RTree.more (hS : ∀ k, S k → S' k) (h : RTree w S A n ps) : RTree w S' A n ps := RSeq.more hS h fun _ _ h => h.more hS
theorem RTree.under {B : Nat} (h : RTree w S A n ps) (hb : Below B w w') (hS : ∀ k, S k → k < B) : RTree w' S A n ps := h.keep fun _ hp => hb.cell (hS _ hp)
theorem RTree.at_ (h : RTree w S A n ps) {j : Nat} (hj : j < n) :
  ∃ b o p B m c k a f no D q d, A = some ⟨b, o, none⟩ ∧ S b ∧ ps[j]? = some p ∧ PkAt w S p B m c (ndRow k a f no D q d) ∧ ∀ i, i < 14 → w.cell? ⟨b, o + j * 14 + i, none⟩ = (pkRow p B m c (ndRow k a f no D q d))[i]? := by
 obtain ⟨b, o, x, p, hA, hb, hp, ⟨B, m, c, y, rfl, hR⟩, _, hc⟩ := RSeq.at_ h hj (by decide)
 obtain ⟨k, a, f, no, ks⟩ : Nd := p.nd
 have := hR.nd
 rcases p with ⟨nm, ver, slot, fs, ⟨k, a, f, no, ks⟩⟩
 obtain ⟨D, q, d, rfl, -⟩ := this.open_
 exact ⟨b, o, _, B, m, c, k, a, f, no, D, q, d, hA, hb, hp, hR, hc⟩
end
end Go.Proofs.YtpipgffbhpnmkaaGreatDoor

namespace Qm
open Go

/-! Sorted, and each once: the same members. Flags, step by step. -/

section
variable {α : Type} [Inhabited α] [DecidableEq α]
theorem mem_compactUpTo {d : Array α} {x : α} : ∀ {m : Nat}, m ≤ d.size → (x ∈ Lib.compactUpTo d m ↔ ∃ j, j < m ∧ d[j]! = x)
 | 0, _ => by simp [Lib.compactUpTo]
 | m + 1, h => by
  have ih := mem_compactUpTo (d := d) (x := x) (m := m) (by omega)
  rw [Lib.compactUpTo_succ, List.mem_append, ih]
  by_cases hk : Lib.keeps d m = true
  ·rw [if_pos hk, List.mem_singleton]
   constructor
   ·rintro (⟨j, hj, rfl⟩ | rfl)
    ·exact ⟨j, by omega, rfl⟩
    ·exact ⟨m, by omega, rfl⟩
   ·rintro ⟨j, hj, rfl⟩
    by_cases hjm : j = m
    ·right; rw [hjm]
    ·left; exact ⟨j, by omega, rfl⟩
  ·rw [if_neg hk]
   have hk' : m ≠ 0 ∧ d[m]! = d[m - 1]! := by
    simp only [Lib.keeps, decide_eq_true_eq, not_or, Decidable.not_not] at hk
    exact hk
   constructor
   ·rintro (⟨j, hj, rfl⟩ | h)
    ·exact ⟨j, by omega, rfl⟩
    ·cases h
   ·rintro ⟨j, hj, rfl⟩
    left
    by_cases hjm : j = m
    ·exact ⟨m - 1, by omega, by rw [hjm, hk'.2]⟩
    ·exact ⟨j, by omega, rfl⟩
theorem mem_compact {l : List α} {x : α} : x ∈ Lib.compact l ↔ x ∈ l := by
 unfold Lib.compact
 rw [mem_compactUpTo (by simp), List.mem_iff_getElem]
 constructor
 ·rintro ⟨j, hj, h⟩
  refine ⟨j, hj, ?_⟩
  rw [← h]
  simp [hj]
 ·rintro ⟨j, hj, h⟩
  refine ⟨j, hj, ?_⟩
  rw [← h]
  simp [hj]
end
theorem all_mem {α : Type} {a b : List α} (p : α → Bool) (h : ∀ x, x ∈ a ↔ x ∈ b) : a.all p = b.all p := by
 rw [Bool.eq_iff_iff, List.all_eq_true, List.all_eq_true]
 exact ⟨fun k x hx => k x ((h x).2 hx), fun k x hx => k x ((h x).1 hx)⟩

def prevOf {α : Type} (l : List α) (j : Nat) : Option α := if j = 0 then none else l[j - 1]?
theorem prevOf_zero {α : Type} (l : List α) : prevOf l 0 = none := rfl
theorem prevOf_succ {α : Type} {l : List α} {j : Nat} {x : α} (h : l[j]? = some x) : prevOf l (j + 1) = some x := by unfold prevOf; rw [if_neg (by omega)]; exact h
theorem ckFlags_step {fs : List W} {j : Nat} {f : W} (h : fs[j]? = some f) :
  ckFlags (prevOf fs j) (fs.drop j) = if isName f = false then 1 else if badNext (prevOf fs j) f = true then 6 else ckFlags (prevOf fs (j + 1)) (fs.drop (j + 1)) := by
 rw [prevOf_succ h]
 obtain ⟨hj, rfl⟩ := List.getElem?_eq_some_iff.1 h
 rw [List.drop_eq_getElem_cons hj]
 rfl
theorem ckFlags_done {fs : List W} {j : Nat} (h : fs.length ≤ j) {p : Option W} : ckFlags p (fs.drop j) = 0 := by
 rw [List.drop_eq_nil_of_le h]; rfl
theorem ckT_step {ps : List Pk} {j n : Nat} {p : Pk} (h : ps[j]? = some p) :
  ckT (prevOf ps j) n (ps.drop j) = if ckPk p ≠ 0 then ckPk p else if badPk (prevOf ps j) p = true then 6 else if 14 < n + p.fs.length then 2 else ckT (prevOf ps (j + 1)) (n + p.fs.length) (ps.drop (j + 1)) := by
 rw [prevOf_succ h]
 obtain ⟨hj, rfl⟩ := List.getElem?_eq_some_iff.1 h
 rw [List.drop_eq_getElem_cons hj]
 rfl
theorem ckT_done {ps : List Pk} {j n : Nat} (h : ps.length ≤ j) {p : Option Pk} : ckT p n (ps.drop j) = 0 := by
 rw [List.drop_eq_nil_of_le h]; rfl
end Qm

/- tree.before, walked. -/
namespace Go.Proofs.YtpipgffbhpnmkaaGreatDoor
open Go.RowKit Qm

set_option maxHeartbeats 1600000 in
theorem before_any (p p' : Pk) (A A' : Option Addr) (n c n' c' : Nat) (k k' : Int) (a a' : At) (f f' : Qm.W) (no no' : Bool) (D D' : Option Addr) (q d q' d' : Nat) (w : World) :
  Calls Tryz.prog 86 #[.agg (pkRow p A n c (ndRow k a f no D q d)).toArray, .agg (pkRow p' A' n' c' (ndRow k' a' f' no' D' q' d')).toArray] w fun e w' =>
   e = .returned (.bool (beforeP p p')) ∧ Below w.heap.size w w' := by
 unfold pkRow ndRow
 have HR : Hid (beforeP p p' = (decide (p.nm < p'.nm) || (decide (p.nm = p'.nm) && decide (p.ver < p'.ver)))) := qh rfl
 generalize beforeP p p' = R at HR ⊢
 obtain ⟨nm, ver, slot, fs, nd⟩ := p
 obtain ⟨nm', ver', slot', fs', nd'⟩ := p'
 have hb := bytesLess_eq nm nm'
 dsimp only at HR hb ⊢
 by_cases h1 : nm < nm'
 ·rw [decide_eq_true h1] at hb
  have H1 := qh h1; clear h1
  go_enter Tryz.func86, Tryz.ntmps86
  go_wp2
  go_ret
  exact ⟨ret_bool (by rw [HR.out, decide_eq_true H1.out]; rfl), ((Below.refl _ w).alloc (qr _) _).alloc (by simp) _⟩
 ·rw [decide_eq_false h1] at hb
  have H1 := qh h1; clear h1
  by_cases h2 : nm = nm'
  ·subst h2
   by_cases h3 : ver < ver'
   ·go_enter Tryz.func86, Tryz.ntmps86
    go_wp2
    go_ret
    exact ⟨ret_bool (by rw [HR.out, decide_eq_false H1.out, decide_eq_true h3]; simp), ((Below.refl _ w).alloc (qr _) _).alloc (by simp) _⟩
   ·go_enter Tryz.func86, Tryz.ntmps86
    go_wp2
    go_ret
    exact ⟨ret_bool (by rw [HR.out, decide_eq_false H1.out, decide_eq_false (Int.not_lt.2 h3)]; simp), ((Below.refl _ w).alloc (qr _) _).alloc (by simp) _⟩
  ·have H2 := qh h2
   have h2' : (nm == nm') = false := by simpa using h2
   clear h2
   go_enter Tryz.func86, Tryz.ntmps86
   go_wp2
   go_ret
   exact ⟨ret_bool (by rw [HR.out, decide_eq_false H1.out, decide_eq_false H2.out]; rfl), ((Below.refl _ w).alloc (qr _) _).alloc (by simp) _⟩
end Go.Proofs.YtpipgffbhpnmkaaGreatDoor

/- slices.Contains of words. -/
namespace Go.Proofs.YtpipgffbhpnmkaaGreatDoor
open Go.RowKit Qm

theorem containsS_any (A : Option Addr) (n c : Nat) (fs : List Qm.W) (x : Qm.W) (w : World) (S : Nat → Prop) (h : Row w S A n (strs fs)) (hn : n ≤ maxLen) :
  Calls Tryz.prog 53 #[.slice A n c, .string ⟨x.toArray⟩] w fun e w' => e = .returned (.bool (fs.contains x)) ∧ w' = w := by
 have hl : fs.length = n := by have := h.len; simpa [strs] using this
 unfold maxLen at hn
 by_cases h0 : n = 0
 ·subst h0
  obtain rfl := List.eq_nil_of_length_eq_zero hl
  exact (Tryz.slices_Contains_string_empty A c ⟨x.toArray⟩ w).mono fun e w' ⟨he, hw⟩ => ⟨by simpa using he, hw⟩
 ·obtain ⟨b, o, rfl, _⟩ := h.some_lit (by omega)
  refine (Tryz.slices_Contains_string b o n c (bas fs) ⟨x.toArray⟩ w (by simp [bas, hl]) (by omega) (strs_cell (by rw [hl]; exact h))).mono fun e w' ⟨he, hw⟩ => ⟨?_, hw⟩
  rw [he, List.take_of_length_le (by simp [bas, hl])]
  congr 2
  rw [Bool.eq_iff_iff, Lib.containsS_iff, List.contains_iff_mem]
  unfold bas
  rw [List.mem_map]
  constructor
  ·rintro ⟨y, hy, e⟩
   have := congrArg (·.data.toList) e
   simp only at this
   rwa [← show y = x from this]
  ·intro hx; exact ⟨x, hx, rfl⟩
end Go.Proofs.YtpipgffbhpnmkaaGreatDoor

/- tree.check, walked. -/
namespace Go.Proofs.YtpipgffbhpnmkaaGreatDoor
open Go.RowKit Qm

structure Pb (w : World) (b : Nat) (vs : List Value) (wr : World) : Prop where
 below : Below w.heap.size w wr
 whole : Whole wr b 42 vs
theorem Pb.move {w : World} {b : Nat} {vs : List Value} {w1 w2 : World} (h : Pb w b vs w1) (hb : Below w1.heap.size w1 w2) : Pb w b vs w2 := ⟨h.below.trans (hb.mono h.below.size), h.whole.below hb h.whole.lt⟩
theorem Pb.new (w : World) (vs : List Value) : Pb w w.heap.size vs (w.alloc (.cells vs.toArray 42)) := ⟨(Below.refl _ w).alloc (qr _) _, Whole.new w _ _ vs rfl⟩
theorem flP_all {y : Nd} (h : ckNeed y = 0) (p : Qm.W → Bool) : (flP y).all p = (flagsN y).all p := by
 unfold flP
 rw [if_pos h]
 refine all_mem p fun x => ?_
 rw [mem_compact]
 unfold sortW
 exact (List.mergeSort_perm _ _).mem_iff
theorem all_step {l : List Qm.W} {p : Qm.W → Bool} {j : Nat} {x : Qm.W} (h : l[j]? = some x) : (l.drop j).all p = (p x && (l.drop (j + 1)).all p) := by
 obtain ⟨hj, rfl⟩ := List.getElem?_eq_some_iff.1 h
 rw [List.drop_eq_getElem_cons hj]; rfl
theorem all_done {l : List Qm.W} {p : Qm.W → Bool} {j : Nat} (h : l.length ≤ j) : (l.drop j).all p = true := by rw [List.drop_eq_nil_of_le h]; rfl

set_option maxRecDepth 100000 in
set_option maxHeartbeats 3200000 in
theorem tcheck_any (p : Pk) (S : Nat → Prop) (x : List Value) (w : World) (hR : RPk w S x p) (hS : ∀ k, S k → k < w.heap.size) :
  Calls Tryz.prog 85 #[.agg x.toArray] w fun e w' => e = .returned (.int .i64 (ckPk p)) ∧ Below w.heap.size w w' := by
 obtain ⟨A, n, c, y, rfl, hP⟩ := hR
 rcases p with ⟨nm, ver, slot, fs, ⟨k, a, f, no, ks⟩⟩
 obtain ⟨D, q, d, rfl, -⟩ := RNd.open_ hP.nd
 have HK : Hid (ckPk ⟨nm, ver, slot, fs, .mk k a f no ks⟩ = if isName nm = false then 1 else if ver < 1 ∨ 99 < ver ∨ slot < 1 ∨ 9 < slot then 3 else if 2 < fs.length then 2 else if ckFlags none fs ≠ 0 then ckFlags none fs
  else if k ≠ 3 then 4 else if ckNeed (.mk k a f no ks) ≠ 0 then ckNeed (.mk k a f no ks) else if (flagsN (.mk k a f no ks)).all (fun f => fs.contains f) = true then 0 else 5) := qh rfl
 generalize ckPk _ = R at HK ⊢
 have hfl := fun W h1 h2 => nflags_any (.mk k a f no ks) S (ndRow k a f no D q d) W h1 h2
 unfold FlagsPost at hfl
 have HA := qh (fun h p => flP_all (y := .mk k a f no ks) h p)
 have HND := qh hP.nd
 generalize flP (.mk k a f no ks) = fl at hfl HA
 generalize flagsN (.mk k a f no ks) = fn at HA HK
 generalize ckNeed (.mk k a f no ks) = z at hfl HK HA
 have hln : fs.length = n := hP.fs.len
 have P0 := qh (Pb.new w (pkRow ⟨nm, ver, slot, fs, .mk k a f no ks⟩ A n c (ndRow k a f no D q d)))
 have hna := fun wx => name_any ⟨nm.toArray⟩ wx (by rw [bsz]; exact hP.nm)
 have HFS := qh hP.fs
 have hcap := hP.cap
 have hmax := hP.max
 unfold maxLen at hmax
 have HS := qh hS; clear hP hS
 unfold pkRow at P0 ⊢
 unfold ndRow at P0 hfl HND ⊢
 dsimp only at P0 HFS HND ⊢
 have Hfl := qh hfl; clear hfl
 have Hna : Hid (∀ wx, Calls Tryz.prog 111 #[.string ⟨nm.toArray⟩] wx fun e w' => e = .returned (.bool (isName nm)) ∧ Below wx.heap.size wx w') := qh hna
 clear hna
 cases hn : isName nm
 ·rw [hn] at Hna
  go_enter Tryz.func85, Tryz.ntmps85
  go_wp2_with (first | (go_at_call 111; refine (Hna.out _).mono ?_; rintro e w1 ⟨rfl, hb1⟩; refine Hid.out ?_))
  refine qh ?_
  have P1 := qh (P0.out.move hb1)
  clear hb1
  have d0 := P1.out.whole.cell 0; have d1 := P1.out.whole.cell 1; have d2 := P1.out.whole.cell 2; have d3 := P1.out.whole.cell 3; have d4 := P1.out.whole.cell 4; have d5 := P1.out.whole.cell 5; have d6 := P1.out.whole.cell 6
  have d7 := P1.out.whole.cell 7; have d8 := P1.out.whole.cell 8; have d9 := P1.out.whole.cell 9; have d10 := P1.out.whole.cell 10; have d11 := P1.out.whole.cell 11; have d12 := P1.out.whole.cell 12; have d13 := P1.out.whole.cell 13
  simp only [qgz, qgs] at d0 d1 d2 d3 d4 d5 d6 d7 d8 d9 d10 d11 d12 d13
  have hlt := P1.out.whole.lt
  go_wp2
  go_ret
  exact ⟨ret_int (by rw [HK.out, if_pos hn]), P1.out.below⟩
 rw [hn] at Hna
 by_cases v1 : ver < 1
 ·
  go_enter Tryz.func85, Tryz.ntmps85
  go_wp2_with (first | (go_at_call 111; refine (Hna.out _).mono ?_; rintro e w1 ⟨rfl, hb1⟩; refine Hid.out ?_))
  refine qh ?_
  have P1 := qh (P0.out.move hb1)
  clear hb1
  have d0 := P1.out.whole.cell 0; have d1 := P1.out.whole.cell 1; have d2 := P1.out.whole.cell 2; have d3 := P1.out.whole.cell 3; have d4 := P1.out.whole.cell 4; have d5 := P1.out.whole.cell 5; have d6 := P1.out.whole.cell 6
  have d7 := P1.out.whole.cell 7; have d8 := P1.out.whole.cell 8; have d9 := P1.out.whole.cell 9; have d10 := P1.out.whole.cell 10; have d11 := P1.out.whole.cell 11; have d12 := P1.out.whole.cell 12; have d13 := P1.out.whole.cell 13
  simp only [qgz, qgs] at d0 d1 d2 d3 d4 d5 d6 d7 d8 d9 d10 d11 d12 d13
  have hlt := P1.out.whole.lt
  go_wp2
  go_ret
  exact ⟨ret_int (by rw [HK.out, if_neg (by simp [hn]), if_pos (by omega)]), P1.out.below⟩
 have v1' : decide (ver < 1) = false := by simpa using v1
 by_cases v2 : 99 < ver
 ·
  go_enter Tryz.func85, Tryz.ntmps85
  go_wp2_with (first | (go_at_call 111; refine (Hna.out _).mono ?_; rintro e w1 ⟨rfl, hb1⟩; refine Hid.out ?_))
  refine qh ?_
  have P1 := qh (P0.out.move hb1)
  clear hb1
  have d0 := P1.out.whole.cell 0; have d1 := P1.out.whole.cell 1; have d2 := P1.out.whole.cell 2; have d3 := P1.out.whole.cell 3; have d4 := P1.out.whole.cell 4; have d5 := P1.out.whole.cell 5; have d6 := P1.out.whole.cell 6
  have d7 := P1.out.whole.cell 7; have d8 := P1.out.whole.cell 8; have d9 := P1.out.whole.cell 9; have d10 := P1.out.whole.cell 10; have d11 := P1.out.whole.cell 11; have d12 := P1.out.whole.cell 12; have d13 := P1.out.whole.cell 13
  simp only [qgz, qgs] at d0 d1 d2 d3 d4 d5 d6 d7 d8 d9 d10 d11 d12 d13
  have hlt := P1.out.whole.lt
  go_wp2
  go_ret
  exact ⟨ret_int (by rw [HK.out, if_neg (by simp [hn]), if_pos (by omega)]), P1.out.below⟩
 have v2' : decide (99 < ver) = false := by simpa using v2
 by_cases s1 : slot < 1
 ·
  go_enter Tryz.func85, Tryz.ntmps85
  go_wp2_with (first | (go_at_call 111; refine (Hna.out _).mono ?_; rintro e w1 ⟨rfl, hb1⟩; refine Hid.out ?_))
  refine qh ?_
  have P1 := qh (P0.out.move hb1)
  clear hb1
  have d0 := P1.out.whole.cell 0; have d1 := P1.out.whole.cell 1; have d2 := P1.out.whole.cell 2; have d3 := P1.out.whole.cell 3; have d4 := P1.out.whole.cell 4; have d5 := P1.out.whole.cell 5; have d6 := P1.out.whole.cell 6
  have d7 := P1.out.whole.cell 7; have d8 := P1.out.whole.cell 8; have d9 := P1.out.whole.cell 9; have d10 := P1.out.whole.cell 10; have d11 := P1.out.whole.cell 11; have d12 := P1.out.whole.cell 12; have d13 := P1.out.whole.cell 13
  simp only [qgz, qgs] at d0 d1 d2 d3 d4 d5 d6 d7 d8 d9 d10 d11 d12 d13
  have hlt := P1.out.whole.lt
  go_wp2
  go_ret
  exact ⟨ret_int (by rw [HK.out, if_neg (by simp [hn]), if_pos (by omega)]), P1.out.below⟩
 have s1' : decide (slot < 1) = false := by simpa using s1
 by_cases s2 : 9 < slot
 ·
  go_enter Tryz.func85, Tryz.ntmps85
  go_wp2_with (first | (go_at_call 111; refine (Hna.out _).mono ?_; rintro e w1 ⟨rfl, hb1⟩; refine Hid.out ?_))
  refine qh ?_
  have P1 := qh (P0.out.move hb1)
  clear hb1
  have d0 := P1.out.whole.cell 0; have d1 := P1.out.whole.cell 1; have d2 := P1.out.whole.cell 2; have d3 := P1.out.whole.cell 3; have d4 := P1.out.whole.cell 4; have d5 := P1.out.whole.cell 5; have d6 := P1.out.whole.cell 6
  have d7 := P1.out.whole.cell 7; have d8 := P1.out.whole.cell 8; have d9 := P1.out.whole.cell 9; have d10 := P1.out.whole.cell 10; have d11 := P1.out.whole.cell 11; have d12 := P1.out.whole.cell 12; have d13 := P1.out.whole.cell 13
  simp only [qgz, qgs] at d0 d1 d2 d3 d4 d5 d6 d7 d8 d9 d10 d11 d12 d13
  have hlt := P1.out.whole.lt
  go_wp2
  go_ret
  exact ⟨ret_int (by rw [HK.out, if_neg (by simp [hn]), if_pos (by omega)]), P1.out.below⟩
 have s2' : decide (9 < slot) = false := by simpa using s2
 have HK1 : Hid (R = if 2 < fs.length then 2 else if ckFlags none fs ≠ 0 then ckFlags none fs
  else if k ≠ 3 then 4 else if z ≠ 0 then z else if fn.all (fun f => fs.contains f) = true then 0 else 5) := qh (by rw [HK.out, if_neg (by simp [hn]), if_neg (by omega)])
 clear HK
 by_cases n2 : (2 : Int) < n
 ·
  go_enter Tryz.func85, Tryz.ntmps85
  go_wp2_with (first | (go_at_call 111; refine (Hna.out _).mono ?_; rintro e w1 ⟨rfl, hb1⟩; refine Hid.out ?_))
  refine qh ?_
  have P1 := qh (P0.out.move hb1)
  clear hb1
  have d0 := P1.out.whole.cell 0; have d1 := P1.out.whole.cell 1; have d2 := P1.out.whole.cell 2; have d3 := P1.out.whole.cell 3; have d4 := P1.out.whole.cell 4; have d5 := P1.out.whole.cell 5; have d6 := P1.out.whole.cell 6
  have d7 := P1.out.whole.cell 7; have d8 := P1.out.whole.cell 8; have d9 := P1.out.whole.cell 9; have d10 := P1.out.whole.cell 10; have d11 := P1.out.whole.cell 11; have d12 := P1.out.whole.cell 12; have d13 := P1.out.whole.cell 13
  simp only [qgz, qgs] at d0 d1 d2 d3 d4 d5 d6 d7 d8 d9 d10 d11 d12 d13
  have hlt := P1.out.whole.lt
  go_wp2
  go_ret
  exact ⟨ret_int (by rw [HK1.out, if_pos (by omega)]), P1.out.below⟩
 have n2' : decide ((2 : Int) < n) = false := decide_eq_false n2
 have HK2 : Hid (R = if ckFlags none fs ≠ 0 then ckFlags none fs else if k ≠ 3 then 4 else if z ≠ 0 then z else if fn.all (fun f => fs.contains f) = true then 0 else 5) := qh (by rw [HK1.out, if_neg (by omega)])
 clear HK1
 go_enter Tryz.func85, Tryz.ntmps85
 go_wp2_with (first | (go_at_call 111; refine (Hna.out _).mono ?_; rintro e w1 ⟨rfl, hb1⟩; refine Hid.out ?_))
 refine qh ?_
 have P1 := qh (P0.out.move hb1)
 clear hb1
 have d0 := P1.out.whole.cell 0; have d1 := P1.out.whole.cell 1; have d2 := P1.out.whole.cell 2; have d3 := P1.out.whole.cell 3; have d4 := P1.out.whole.cell 4; have d5 := P1.out.whole.cell 5; have d6 := P1.out.whole.cell 6
 have d7 := P1.out.whole.cell 7; have d8 := P1.out.whole.cell 8; have d9 := P1.out.whole.cell 9; have d10 := P1.out.whole.cell 10; have d11 := P1.out.whole.cell 11; have d12 := P1.out.whole.cell 12; have d13 := P1.out.whole.cell 13
 simp only [qgz, qgs] at d0 d1 d2 d3 d4 d5 d6 d7 d8 d9 d10 d11 d12 d13
 have hlt := P1.out.whole.lt
 go_wp2
 clear d0 d1 d2 d3 d4 d5 d6 d7 d8 d9 d10 d11 d12 d13 hlt
 clear v1 v2 s1 s2 v1' v2' s1' s2' n2' hn Hna
 go_loopg [38] n (fun g iv wr => ∃ (j : Nat), Hid (j + g = n) ∧ iv = .int .i64 j ∧ Hid (ckFlags none fs = ckFlags (prevOf fs j) (fs.drop j)) ∧ Hid (Pb w w.heap.size [.string ⟨nm.toArray⟩, .int .i64 ver, .int .i64 slot, .slice A n c, .int .i64 k, .string ⟨a.nm.toArray⟩, .int .i64 a.op, .int .i64 a.ver, .int .i64 a.slot, .string ⟨a.fl.toArray⟩, .bool a.on, .string ⟨f.toArray⟩, .bool no, .slice D q d] wr))
 case atStart => exact ⟨0, qh (Nat.zero_add _), rfl, qh rfl, P1⟩
 case round =>
  obtain ⟨j, Hj, rfl, Hcl, PR⟩ := hrel
  clear P1
  by_cases hj : j < n
  ·obtain ⟨b, o, g, rfl, hbS, hg, hgl, hcell⟩ := (HFS.out.under PR.out.below HS.out).at_ hj
   have hlb : b < wr.heap.size := ql (HS.out _ hbS) PR.out.below.size
   have Hst := qh (ckFlags_step hg)
   have Hnm : Hid (∀ wx, Calls Tryz.prog 111 #[.string ⟨g.toArray⟩] wx fun e w' => e = .returned (.bool (isName g)) ∧ Below wx.heap.size wx w') := qh (fun wx => name_any ⟨g.toArray⟩ wx (by rw [bsz]; exact hgl))
   clear hgl
   cases hq : isName g
   ·rw [hq] at Hnm
    clear hg
    have d0 := PR.out.whole.cell 0; have d1 := PR.out.whole.cell 1; have d2 := PR.out.whole.cell 2; have d3 := PR.out.whole.cell 3; have d4 := PR.out.whole.cell 4; have d5 := PR.out.whole.cell 5; have d6 := PR.out.whole.cell 6
    have d7 := PR.out.whole.cell 7; have d8 := PR.out.whole.cell 8; have d9 := PR.out.whole.cell 9; have d10 := PR.out.whole.cell 10; have d11 := PR.out.whole.cell 11; have d12 := PR.out.whole.cell 12; have d13 := PR.out.whole.cell 13
    simp only [qgz, qgs] at d0 d1 d2 d3 d4 d5 d6 d7 d8 d9 d10 d11 d12 d13
    have hlt := PR.out.whole.lt
    go_wp2_with (first | (go_at_call 111; refine (Hnm.out _).mono ?_; rintro e w2 ⟨rfl, hb2⟩; refine Hid.out ?_))
    refine qh ?_
    clear d0 d1 d2 d3 d4 d5 d6 d7 d8 d9 d10 d11 d12 d13 hlt
    have P2 := qh (PR.out.move hb2)
    replace hcell := (hb2.cell (p := ⟨b, _, none⟩) hlb).trans hcell
    clear hb2
    have d0 := P2.out.whole.cell 0; have d1 := P2.out.whole.cell 1; have d2 := P2.out.whole.cell 2; have d3 := P2.out.whole.cell 3; have d4 := P2.out.whole.cell 4; have d5 := P2.out.whole.cell 5; have d6 := P2.out.whole.cell 6
    have d7 := P2.out.whole.cell 7; have d8 := P2.out.whole.cell 8; have d9 := P2.out.whole.cell 9; have d10 := P2.out.whole.cell 10; have d11 := P2.out.whole.cell 11; have d12 := P2.out.whole.cell 12; have d13 := P2.out.whole.cell 13
    simp only [qgz, qgs] at d0 d1 d2 d3 d4 d5 d6 d7 d8 d9 d10 d11 d12 d13
    have hlt := P2.out.whole.lt
    go_wp2
    go_ret
    exact ⟨ret_int (by rw [HK2.out, Hcl.out, Hst.out, if_pos hq]; rfl), P2.out.below⟩
   rw [hq] at Hnm
   rcases j with _ | i
   ·clear hg
    rw [Nat.add_zero] at hcell
    have d0 := PR.out.whole.cell 0; have d1 := PR.out.whole.cell 1; have d2 := PR.out.whole.cell 2; have d3 := PR.out.whole.cell 3; have d4 := PR.out.whole.cell 4; have d5 := PR.out.whole.cell 5; have d6 := PR.out.whole.cell 6
    have d7 := PR.out.whole.cell 7; have d8 := PR.out.whole.cell 8; have d9 := PR.out.whole.cell 9; have d10 := PR.out.whole.cell 10; have d11 := PR.out.whole.cell 11; have d12 := PR.out.whole.cell 12; have d13 := PR.out.whole.cell 13
    simp only [qgz, qgs] at d0 d1 d2 d3 d4 d5 d6 d7 d8 d9 d10 d11 d12 d13
    have hlt := PR.out.whole.lt
    go_wp2_with (first | (go_at_call 111; refine (Hnm.out _).mono ?_; rintro e w2 ⟨rfl, hb2⟩; refine Hid.out ?_))
    refine qh ?_
    clear d0 d1 d2 d3 d4 d5 d6 d7 d8 d9 d10 d11 d12 d13 hlt
    have P2 := qh (PR.out.move hb2)
    replace hcell := (hb2.cell (p := ⟨b, _, none⟩) hlb).trans hcell
    clear hb2
    have d0 := P2.out.whole.cell 0; have d1 := P2.out.whole.cell 1; have d2 := P2.out.whole.cell 2; have d3 := P2.out.whole.cell 3; have d4 := P2.out.whole.cell 4; have d5 := P2.out.whole.cell 5; have d6 := P2.out.whole.cell 6
    have d7 := P2.out.whole.cell 7; have d8 := P2.out.whole.cell 8; have d9 := P2.out.whole.cell 9; have d10 := P2.out.whole.cell 10; have d11 := P2.out.whole.cell 11; have d12 := P2.out.whole.cell 12; have d13 := P2.out.whole.cell 13
    simp only [qgz, qgs] at d0 d1 d2 d3 d4 d5 d6 d7 d8 d9 d10 d11 d12 d13
    have hlt := P2.out.whole.lt
    go_wp2
    go_roundg (gk - 1)
    case measure => have := Hj.out; omega
    case rel => exact ⟨1, qh (by have := Hj.out; omega), by go_num, qh (by rw [Hcl.out, Hst.out, if_neg (by simp [hq])]; rfl), P2⟩
   ·obtain ⟨b', o', u, eA, _, hu, _, hucell⟩ := (HFS.out.under PR.out.below HS.out).at_ (j := i) (by omega)
    injection eA with eA; injection eA with e1 e2; subst e1 e2
    have hpr : prevOf fs (i + 1) = some u := prevOf_succ hu
    have Hpr := qh hpr
    have hbl := bytesLess_eq u g
    clear hg hu hpr
    by_cases hug : u < g
    ·rw [decide_eq_true hug] at hbl
     have Hug : Hid (badNext (some u) g = false) := qh (decide_eq_false (List.not_le.2 hug))
     clear hug
     have d0 := PR.out.whole.cell 0; have d1 := PR.out.whole.cell 1; have d2 := PR.out.whole.cell 2; have d3 := PR.out.whole.cell 3; have d4 := PR.out.whole.cell 4; have d5 := PR.out.whole.cell 5; have d6 := PR.out.whole.cell 6
     have d7 := PR.out.whole.cell 7; have d8 := PR.out.whole.cell 8; have d9 := PR.out.whole.cell 9; have d10 := PR.out.whole.cell 10; have d11 := PR.out.whole.cell 11; have d12 := PR.out.whole.cell 12; have d13 := PR.out.whole.cell 13
     simp only [qgz, qgs] at d0 d1 d2 d3 d4 d5 d6 d7 d8 d9 d10 d11 d12 d13
     have hlt := PR.out.whole.lt
     go_wp2_with (first | (go_at_call 111; refine (Hnm.out _).mono ?_; rintro e w2 ⟨rfl, hb2⟩; refine Hid.out ?_))
     refine qh ?_
     clear d0 d1 d2 d3 d4 d5 d6 d7 d8 d9 d10 d11 d12 d13 hlt
     have P2 := qh (PR.out.move hb2)
     replace hcell := (hb2.cell (p := ⟨b, _, none⟩) hlb).trans hcell
     replace hucell := (hb2.cell (p := ⟨b, _, none⟩) hlb).trans hucell
     clear hb2
     have d0 := P2.out.whole.cell 0; have d1 := P2.out.whole.cell 1; have d2 := P2.out.whole.cell 2; have d3 := P2.out.whole.cell 3; have d4 := P2.out.whole.cell 4; have d5 := P2.out.whole.cell 5; have d6 := P2.out.whole.cell 6
     have d7 := P2.out.whole.cell 7; have d8 := P2.out.whole.cell 8; have d9 := P2.out.whole.cell 9; have d10 := P2.out.whole.cell 10; have d11 := P2.out.whole.cell 11; have d12 := P2.out.whole.cell 12; have d13 := P2.out.whole.cell 13
     simp only [qgz, qgs] at d0 d1 d2 d3 d4 d5 d6 d7 d8 d9 d10 d11 d12 d13
     have hlt := P2.out.whole.lt
     go_wp2
     go_roundg (gk - 1)
     case measure => have := Hj.out; omega
     case rel => exact ⟨i + 1 + 1, qh (by have := Hj.out; omega), by go_num, qh (by rw [Hcl.out, Hst.out, if_neg (by simp [hq]), Hpr.out, if_neg (by rw [Hug.out]; simp)]), P2⟩
    ·rw [decide_eq_false hug] at hbl
     have Hug : Hid (badNext (some u) g = true) := qh (decide_eq_true (List.not_lt.1 hug))
     clear hug
     have d0 := PR.out.whole.cell 0; have d1 := PR.out.whole.cell 1; have d2 := PR.out.whole.cell 2; have d3 := PR.out.whole.cell 3; have d4 := PR.out.whole.cell 4; have d5 := PR.out.whole.cell 5; have d6 := PR.out.whole.cell 6
     have d7 := PR.out.whole.cell 7; have d8 := PR.out.whole.cell 8; have d9 := PR.out.whole.cell 9; have d10 := PR.out.whole.cell 10; have d11 := PR.out.whole.cell 11; have d12 := PR.out.whole.cell 12; have d13 := PR.out.whole.cell 13
     simp only [qgz, qgs] at d0 d1 d2 d3 d4 d5 d6 d7 d8 d9 d10 d11 d12 d13
     have hlt := PR.out.whole.lt
     go_wp2_with (first | (go_at_call 111; refine (Hnm.out _).mono ?_; rintro e w2 ⟨rfl, hb2⟩; refine Hid.out ?_))
     refine qh ?_
     clear d0 d1 d2 d3 d4 d5 d6 d7 d8 d9 d10 d11 d12 d13 hlt
     have P2 := qh (PR.out.move hb2)
     replace hcell := (hb2.cell (p := ⟨b, _, none⟩) hlb).trans hcell
     replace hucell := (hb2.cell (p := ⟨b, _, none⟩) hlb).trans hucell
     clear hb2
     have d0 := P2.out.whole.cell 0; have d1 := P2.out.whole.cell 1; have d2 := P2.out.whole.cell 2; have d3 := P2.out.whole.cell 3; have d4 := P2.out.whole.cell 4; have d5 := P2.out.whole.cell 5; have d6 := P2.out.whole.cell 6
     have d7 := P2.out.whole.cell 7; have d8 := P2.out.whole.cell 8; have d9 := P2.out.whole.cell 9; have d10 := P2.out.whole.cell 10; have d11 := P2.out.whole.cell 11; have d12 := P2.out.whole.cell 12; have d13 := P2.out.whole.cell 13
     simp only [qgz, qgs] at d0 d1 d2 d3 d4 d5 d6 d7 d8 d9 d10 d11 d12 d13
     have hlt := P2.out.whole.lt
     go_wp2
     go_ret
     have e6 : ckFlags none fs = 6 := by rw [Hcl.out, Hst.out, if_neg (by simp [hq]), Hpr.out, if_pos Hug.out]
     exact ⟨ret_int (by rw [HK2.out, e6]; rfl), P2.out.below⟩
  ·obtain rfl : n = j := by have := Hj.out; omega
   have HK3 : Hid (R = if k ≠ 3 then 4 else if z ≠ 0 then z else if fn.all (fun f => fs.contains f) = true then 0 else 5) := qh (by rw [HK2.out, if_neg (by rw [Hcl.out, ckFlags_done (by omega)]; simp)])
   clear HK2 Hcl
   have d0 := PR.out.whole.cell 0; have d1 := PR.out.whole.cell 1; have d2 := PR.out.whole.cell 2; have d3 := PR.out.whole.cell 3; have d4 := PR.out.whole.cell 4; have d5 := PR.out.whole.cell 5; have d6 := PR.out.whole.cell 6
   have d7 := PR.out.whole.cell 7; have d8 := PR.out.whole.cell 8; have d9 := PR.out.whole.cell 9; have d10 := PR.out.whole.cell 10; have d11 := PR.out.whole.cell 11; have d12 := PR.out.whole.cell 12; have d13 := PR.out.whole.cell 13
   simp only [qgz, qgs] at d0 d1 d2 d3 d4 d5 d6 d7 d8 d9 d10 d11 d12 d13
   have hlt := PR.out.whole.lt
   by_cases k3 : k = 3
   ·subst k3
    have HK4 : Hid (R = if z ≠ 0 then z else if fn.all (fun f => fs.contains f) = true then 0 else 5) := qh (by rw [HK3.out, if_neg (by simp)])
    clear HK3
    go_wp2_with (first | (go_at_call 112; refine (Hfl.out _ (HND.out.under PR.out.below HS.out) (fun k hk => ql (HS.out k hk) PR.out.below.size)).mono ?_; rintro e w3 ⟨Af, cf, rfl, hrf, hf1, hf2, hb3⟩; refine Hid.out ?_))
    refine qh ?_
    clear d0 d1 d2 d3 d4 d5 d6 d7 d8 d9 d10 d11 d12 d13 hlt
    have P3 := qh (PR.out.move hb3)
    clear hb3 PR Hfl
    by_cases z0 : z = 0
    ·subst z0
     have HK5 : Hid (R = if fl.all (fun f => fs.contains f) = true then 0 else 5) := qh (by rw [HK4.out, if_neg (by simp), HA.out rfl])
     clear HK4 HA
     have HRF := qh hrf; clear hrf
     have hfll : fl.length ≤ maxLen := Nat.le_trans hf1 hf2
     unfold maxLen at hfll
     go_wp2
     go_loopg [74] fl.length (fun g iv wr => ∃ (j : Nat), Hid (j + g = fl.length) ∧ iv = .int .i64 j ∧ Hid (fl.all (fun f => fs.contains f) = (fl.drop j).all (fun f => fs.contains f)) ∧ Hid (Below w3.heap.size w3 wr))
     case atStart => exact ⟨0, qh (Nat.zero_add _), rfl, qh rfl, qh (Below.refl _ _)⟩
     case round =>
      obtain ⟨j, Hj, rfl, Hcl, HBr⟩ := hrel
      have P4 := qh (P3.out.move HBr.out)
      clear P3
      by_cases hj : j < fl.length
      ·obtain ⟨b, o, rfl, hbS, hcell⟩ := (HRF.out.below HBr.out fun q hq => hq.2).at_ hj
       have hlb : b < wr.heap.size := ql hbS.2 HBr.out.size
       have hgj : fl[j]? = some (fl[j]'hj) := List.getElem?_eq_getElem hj
       generalize fl[j]'hj = g at hgj
       rw [strs, List.getElem?_map, hgj] at hcell
       dsimp only [Option.map_some] at hcell
       have Hst := qh (all_step (p := fun f => fs.contains f) hgj)
       have Hco := qh (fun wx h => containsS_any A n c fs g wx S h (by unfold maxLen; omega))
       have HRW := qh (HFS.out.under P4.out.below HS.out).row
       clear hgj
       cases hq : fs.contains g
       ·rw [hq] at Hco
        have d0 := P4.out.whole.cell 0; have d1 := P4.out.whole.cell 1; have d2 := P4.out.whole.cell 2; have d3 := P4.out.whole.cell 3; have d4 := P4.out.whole.cell 4; have d5 := P4.out.whole.cell 5; have d6 := P4.out.whole.cell 6
        have d7 := P4.out.whole.cell 7; have d8 := P4.out.whole.cell 8; have d9 := P4.out.whole.cell 9; have d10 := P4.out.whole.cell 10; have d11 := P4.out.whole.cell 11; have d12 := P4.out.whole.cell 12; have d13 := P4.out.whole.cell 13
        simp only [qgz, qgs] at d0 d1 d2 d3 d4 d5 d6 d7 d8 d9 d10 d11 d12 d13
        have hlt := P4.out.whole.lt
        go_wp2_with (first | (go_at_call 53; refine (Hco.out _ HRW.out).mono ?_; rintro e w5 ⟨rfl, rfl⟩; refine Hid.out ?_))
        refine qh ?_
        go_wp2
        go_ret
        exact ⟨ret_int (by rw [HK5.out, if_neg (by rw [Hcl.out, Hst.out]; simp only [hq, Bool.false_and]; decide)]), P4.out.below⟩
       ·rw [hq] at Hco
        have d0 := P4.out.whole.cell 0; have d1 := P4.out.whole.cell 1; have d2 := P4.out.whole.cell 2; have d3 := P4.out.whole.cell 3; have d4 := P4.out.whole.cell 4; have d5 := P4.out.whole.cell 5; have d6 := P4.out.whole.cell 6
        have d7 := P4.out.whole.cell 7; have d8 := P4.out.whole.cell 8; have d9 := P4.out.whole.cell 9; have d10 := P4.out.whole.cell 10; have d11 := P4.out.whole.cell 11; have d12 := P4.out.whole.cell 12; have d13 := P4.out.whole.cell 13
        simp only [qgz, qgs] at d0 d1 d2 d3 d4 d5 d6 d7 d8 d9 d10 d11 d12 d13
        have hlt := P4.out.whole.lt
        go_wp2_with (first | (go_at_call 53; refine (Hco.out _ HRW.out).mono ?_; rintro e w5 ⟨rfl, rfl⟩; refine Hid.out ?_))
        refine qh ?_
        go_wp2
        go_roundg (gk - 1)
        case measure => have := Hj.out; omega
        case rel => exact ⟨j + 1, qh (by have := Hj.out; omega), by go_num, qh (by rw [Hcl.out, Hst.out]; simp only [hq, Bool.true_and]), HBr⟩
      ·obtain rfl : j = fl.length := by have := Hj.out; omega
       have d0 := P4.out.whole.cell 0; have d1 := P4.out.whole.cell 1; have d2 := P4.out.whole.cell 2; have d3 := P4.out.whole.cell 3; have d4 := P4.out.whole.cell 4; have d5 := P4.out.whole.cell 5; have d6 := P4.out.whole.cell 6
       have d7 := P4.out.whole.cell 7; have d8 := P4.out.whole.cell 8; have d9 := P4.out.whole.cell 9; have d10 := P4.out.whole.cell 10; have d11 := P4.out.whole.cell 11; have d12 := P4.out.whole.cell 12; have d13 := P4.out.whole.cell 13
       simp only [qgz, qgs] at d0 d1 d2 d3 d4 d5 d6 d7 d8 d9 d10 d11 d12 d13
       have hlt := P4.out.whole.lt
       go_wp2
       go_ret
       exact ⟨ret_int (by rw [HK5.out, if_pos (by rw [Hcl.out, all_done (qr _)])]), P4.out.below⟩
    ·have z1 : (z != 0) = true := by simpa using z0
     go_wp2
     go_ret
     exact ⟨ret_int (by rw [HK4.out, if_pos z0]), P3.out.below⟩
   ·have k1 : (k != 3) = true := by simpa using k3
    go_wp2
    go_ret
    exact ⟨ret_int (by rw [HK3.out, if_pos k3]), PR.out.below⟩
end Go.Proofs.YtpipgffbhpnmkaaGreatDoor
