/- Parts of the proof: walks and plain laws, side by side. -/
import Derived.Test.YtedbhlgjcnnknaaGreatDoorM1
import Derived.Lib.SlicesCompact
import Derived.WalkKit
set_option linter.unusedVariables false
set_option linter.unusedSimpArgs false
set_option linter.unusedSectionVars false
namespace Qm
open Go

/-! Trees, in plain words: no program in sight. -/

structure Pk where
 nm : W
 ver : Int
 slot : Int
 fs : List W
 nd : Nd

def badNext : Option W → W → Bool
 | none, _ => false
 | some p, f => decide (f ≤ p)
def ckFlags : Option W → List W → Int
 | _, [] => 0
 | prev, f :: r => if isName f = false then 1 else if badNext prev f = true then 6 else ckFlags (some f) r
def ckPk (p : Pk) : Int :=
 if isName p.nm = false then 1
 else if p.ver < 1 ∨ 99 < p.ver ∨ p.slot < 1 ∨ 9 < p.slot then 3
 else if 2 < p.fs.length then 2
 else if ckFlags none p.fs ≠ 0 then ckFlags none p.fs
 else if p.nd.kind ≠ 3 then 4
 else if ckNeed p.nd ≠ 0 then ckNeed p.nd
 else if (flagsN p.nd).all (fun f => p.fs.contains f) = true then 0 else 5
def beforeP (a b : Pk) : Bool := decide (a.nm < b.nm) || (decide (a.nm = b.nm) && decide (a.ver < b.ver))
def badPk : Option Pk → Pk → Bool
 | none, _ => false
 | some q, p => !beforeP q p
def ckT : Option Pk → Nat → List Pk → Int
 | _, _, [] => 0
 | prev, n, p :: r => if ckPk p ≠ 0 then ckPk p else if badPk prev p = true then 6 else if 14 < n + p.fs.length then 2 else ckT (some p) (n + p.fs.length) r
def ckTree (ps : List Pk) : Int := if 8 < ps.length then 2 else ckT none ps.length ps

/-! ### text -/
/-! ### reading -/
def cut4 (l : W) : Option (W × W × W × W × W) :=
 match cutAt (· == 32) l with
 | none => none
 | some (a, _, l1) => match cutAt (· == 32) l1 with
  | none => none
  | some (b, _, l2) => match cutAt (· == 32) l2 with
   | none => none
   | some (c, _, l3) => match cutAt (· == 32) l3 with
    | none => none
    | some (d, _, e) => some (a, b, c, d, e)
def fsOf (d : W) : List W := if d = [] then [] else splitB 44 d
def parseLine (l : W) : Except Int Pk :=
 match cut4 l with
 | none => .error 1
 | some (a, b, c, d, e) => match number b, number c with
  | some v, some k => if (parseNd e).2 = 1 then .error 1 else if (parseNd e).2 ≠ 0 then .error (parseNd e).2 else .ok ⟨a, v, k, fsOf d, (parseNd e).1⟩
  | _, _ => .error 1
def parseLines : Nat → Nat → W → Except (Nat × Int) (List Pk)
 | 0, _, _ => .ok []
 | f + 1, i, s => if s = [] then .ok [] else match cutAt (· == 10) s with
  | none => .error (i, 1)
  | some (l, _, rest) => match parseLine l with
   | .error e => .error (i, e)
   | .ok p => match parseLines f (i + 1) rest with
    | .error e => .error e
    | .ok ps => .ok (p :: ps)
def parseTree (s : W) : List Pk × Nat × Int :=
 if 20000 < s.length then ([], 0, 2) else match parseLines (s.length + 1) 0 s with
  | .error (i, e) => ([], i, e)
  | .ok ps => if ckTree ps = 0 then (ps, 0, 0) else ([], 0, ckTree ps)

/-! ### what a right tree is -/
theorem ckT_mem : ∀ {ps : List Pk} {prev : Option Pk} {n : Nat}, ckT prev n ps = 0 → ∀ p ∈ ps, ckPk p = 0
 | [], _, _, _, p, hp => by cases hp
 | q :: r, prev, n, h, p, hp => by
  simp only [ckT] at h
  by_cases h1 : ckPk q = 0
  ·rw [if_neg (by simpa using h1)] at h
   split at h
   ·cases h
   ·split at h
    ·cases h
    ·rcases List.mem_cons.1 hp with rfl | hp
     ·exact h1
     ·exact ckT_mem h p hp
  ·rw [if_pos h1] at h
   exact absurd h h1
theorem ckTree_mem {ps : List Pk} (h : ckTree ps = 0) : ∀ p ∈ ps, ckPk p = 0 := by
 unfold ckTree at h
 split at h
 ·cases h
 ·exact ckT_mem h
structure PkOk (p : Pk) : Prop where
 nm : isName p.nm = true
 ver : 1 ≤ p.ver ∧ p.ver ≤ 99
 slot : 1 ≤ p.slot ∧ p.slot ≤ 9
 len : p.fs.length ≤ 2
 fs : ckFlags none p.fs = 0
 kind : p.nd.kind = 3
 nd : ckNeed p.nd = 0
 sub : ∀ f ∈ flagsN p.nd, f ∈ p.fs
theorem pkOk {p : Pk} (h : ckPk p = 0) : PkOk p := by
 unfold ckPk at h
 split at h
 ·cases h
 split at h
 ·cases h
 split at h
 ·cases h
 split at h
 ·rename_i h4; exact absurd h h4
 split at h
 ·cases h
 split at h
 ·rename_i h6; exact absurd h h6
 split at h
 ·rename_i h1 h2 h3 h4 h5 h6 h7
  refine ⟨by simpa using h1, by omega, by omega, by omega, by simpa using h4, by simpa using h5, by simpa using h6, fun f hf => ?_⟩
  have := List.all_eq_true.1 h7 f hf
  simpa using this
 ·cases h
/-! ### what is printed is read -/
/-! ### and back -/
theorem cut4_back {l a b c d e : W} (h : cut4 l = some (a, b, c, d, e)) : l = a ++ (32 :: b ++ (32 :: c ++ (32 :: d ++ (32 :: e)))) := by
 unfold cut4 at h
 split at h
 ·cases h
 ·rename_i a' x1 l1 h1
  split at h
  ·cases h
  ·rename_i b' x2 l2 h2
   split at h
   ·cases h
   ·rename_i c' x3 l3 h3
    split at h
    ·cases h
    ·rename_i d' x4 l4 h4
     simp only [Option.some.injEq, Prod.mk.injEq] at h
     obtain ⟨rfl, rfl, rfl, rfl, rfl⟩ := h
     obtain ⟨e1, p1, _⟩ := of_cutAt_some h1
     obtain ⟨e2, p2, _⟩ := of_cutAt_some h2
     obtain ⟨e3, p3, _⟩ := of_cutAt_some h3
     obtain ⟨e4, p4, _⟩ := of_cutAt_some h4
     have p1' : x1 = 32 := by simpa using p1
     have p2' : x2 = 32 := by simpa using p2
     have p3' : x3 = 32 := by simpa using p3
     have p4' : x4 = 32 := by simpa using p4
     subst p1' p2' p3' p4'
     rw [e1, e2, e3, e4]
     simp
end Qm

namespace Qm
open Go

/-! Sorted, and each once: the same members. Flags, step by step. -/

section
variable {α : Type} [Inhabited α] [DecidableEq α]
theorem mem_compactUpTo {d : Array α} {x : α} : ∀ {m : Nat}, m ≤ d.size → (x ∈ Lib.compactUpTo d m ↔ ∃ j, j < m ∧ d[j]! = x)
 | 0, _ => by simp [Lib.compactUpTo]
 | m + 1, h => by
  have ih := mem_compactUpTo (d := d) (x := x) (m := m) (by omega)
  rw [Lib.compactUpTo_succ, List.mem_append, ih]
  by_cases hk : Lib.keeps d m = true
  ·rw [if_pos hk, List.mem_singleton]
   constructor
   ·rintro (⟨j, hj, rfl⟩ | rfl)
    ·exact ⟨j, by omega, rfl⟩
    ·exact ⟨m, by omega, rfl⟩
   ·rintro ⟨j, hj, rfl⟩
    by_cases hjm : j = m
    ·right; rw [hjm]
    ·left; exact ⟨j, by omega, rfl⟩
  ·rw [if_neg hk]
   have hk' : m ≠ 0 ∧ d[m]! = d[m - 1]! := by
    simp only [Lib.keeps, decide_eq_true_eq, not_or, Decidable.not_not] at hk
    exact hk
   constructor
   ·rintro (⟨j, hj, rfl⟩ | h)
    ·exact ⟨j, by omega, rfl⟩
    ·cases h
   ·rintro ⟨j, hj, rfl⟩
    left
    by_cases hjm : j = m
    ·exact ⟨m - 1, by omega, by rw [hjm, hk'.2]⟩
    ·exact ⟨j, by omega, rfl⟩
theorem mem_compact {l : List α} {x : α} : x ∈ Lib.compact l ↔ x ∈ l := by
 unfold Lib.compact
 rw [mem_compactUpTo (by simp), List.mem_iff_getElem]
 constructor
 ·rintro ⟨j, hj, h⟩
  refine ⟨j, hj, ?_⟩
  rw [← h]
  simp [hj]
 ·rintro ⟨j, hj, h⟩
  refine ⟨j, hj, ?_⟩
  rw [← h]
  simp [hj]
end
theorem all_mem {α : Type} {a b : List α} (p : α → Bool) (h : ∀ x, x ∈ a ↔ x ∈ b) : a.all p = b.all p := by
 rw [Bool.eq_iff_iff, List.all_eq_true, List.all_eq_true]
 exact ⟨fun k x hx => k x ((h x).2 hx), fun k x hx => k x ((h x).1 hx)⟩

def prevOf {α : Type} (l : List α) (j : Nat) : Option α := if j = 0 then none else l[j - 1]?
theorem prevOf_zero {α : Type} (l : List α) : prevOf l 0 = none := rfl
theorem prevOf_succ {α : Type} {l : List α} {j : Nat} {x : α} (h : l[j]? = some x) : prevOf l (j + 1) = some x := by unfold prevOf; rw [if_neg (by omega)]; exact h
theorem ckFlags_step {fs : List W} {j : Nat} {f : W} (h : fs[j]? = some f) :
  ckFlags (prevOf fs j) (fs.drop j) = if isName f = false then 1 else if badNext (prevOf fs j) f = true then 6 else ckFlags (prevOf fs (j + 1)) (fs.drop (j + 1)) := by
 rw [prevOf_succ h]
 obtain ⟨hj, rfl⟩ := List.getElem?_eq_some_iff.1 h
 rw [List.drop_eq_getElem_cons hj]
 rfl
theorem ckFlags_done {fs : List W} {j : Nat} (h : fs.length ≤ j) {p : Option W} : ckFlags p (fs.drop j) = 0 := by
 rw [List.drop_eq_nil_of_le h]; rfl
theorem ckT_step {ps : List Pk} {j n : Nat} {p : Pk} (h : ps[j]? = some p) :
  ckT (prevOf ps j) n (ps.drop j) = if ckPk p ≠ 0 then ckPk p else if badPk (prevOf ps j) p = true then 6 else if 14 < n + p.fs.length then 2 else ckT (prevOf ps (j + 1)) (n + p.fs.length) (ps.drop (j + 1)) := by
 rw [prevOf_succ h]
 obtain ⟨hj, rfl⟩ := List.getElem?_eq_some_iff.1 h
 rw [List.drop_eq_getElem_cons hj]
 rfl
theorem ckT_done {ps : List Pk} {j n : Nat} (h : ps.length ≤ j) {p : Option Pk} : ckT p n (ps.drop j) = 0 := by
 rw [List.drop_eq_nil_of_le h]; rfl
end Qm

/- What an atom asks of a version and a slot, in plain words. -/
namespace Go.Proofs.YtedbhlgjcnnknaaGreatDoor
open Go.RowKit Qm
def fitsP (a : At) (v sl : Int) : Bool :=
 if a.slot ≠ 0 ∧ a.slot ≠ sl then false
 else if a.op = 1 then decide (v = a.ver) else if a.op = 2 then decide (a.ver ≤ v) else if a.op = 3 then decide (v < a.ver) else true
end Go.Proofs.YtedbhlgjcnnknaaGreatDoor

/- Sets of members, and what may be: in plain words (no program in sight). -/
namespace Go.Proofs.YtedbhlgjcnnknaaGreatDoor
open Go.RowKit Qm

structure Mem where
 pl : Int
 on : List Bool
deriving DecidableEq

def pkOf (ps : List Pk) (i : Int) : Pk := ps.getD i.toNat ⟨[], 0, 0, [], Nd.zero⟩
def badPl : Option Int → Int → Bool
 | none, _ => false
 | some q, p => decide (p ≤ q)
def ckMs (ps : List Pk) : Option Int → List Mem → Int
 | _, [] => 0
 | prev, m :: r => if m.pl < 0 ∨ (ps.length : Int) ≤ m.pl then 5 else if badPl prev m.pl = true then 6 else if m.on.length ≠ (pkOf ps m.pl).fs.length then 4 else ckMs ps (some m.pl) r
def ckSet (ps : List Pk) (l : List Mem) : Int := if ckTree ps ≠ 0 then ckTree ps else ckMs ps none l

theorem ckMs_step {ps : List Pk} {l : List Mem} {j : Nat} {m : Mem} (h : l[j]? = some m) :
  ckMs ps (prevOf (l.map Mem.pl) j) (l.drop j) = if m.pl < 0 ∨ (ps.length : Int) ≤ m.pl then 5 else if badPl (prevOf (l.map Mem.pl) j) m.pl = true then 6 else if m.on.length ≠ (pkOf ps m.pl).fs.length then 4 else ckMs ps (prevOf (l.map Mem.pl) (j + 1)) (l.drop (j + 1)) := by
 rw [prevOf_succ (l := l.map Mem.pl) (x := m.pl) (by rw [List.getElem?_map, h]; rfl)]
 obtain ⟨hj, rfl⟩ := List.getElem?_eq_some_iff.1 h
 rw [List.drop_eq_getElem_cons hj]
 rfl
theorem ckMs_done {ps : List Pk} {l : List Mem} {j : Nat} (h : l.length ≤ j) {p : Option Int} : ckMs ps p (l.drop j) = 0 := by
 rw [List.drop_eq_nil_of_le h]; rfl
def MemOk (ps : List Pk) (m : Mem) : Prop := 0 ≤ m.pl ∧ m.pl < ps.length ∧ m.on.length = (pkOf ps m.pl).fs.length
theorem ckMs_mem {ps : List Pk} : ∀ {l : List Mem} {prev : Option Int}, ckMs ps prev l = 0 → ∀ m ∈ l, MemOk ps m
 | [], _, _, m, hm => by cases hm
 | x :: r, prev, h, m, hm => by
  simp only [ckMs] at h
  split at h
  ·cases h
  ·rename_i h1
   split at h
   ·cases h
   ·split at h
    ·cases h
    ·rename_i h3
     rcases List.mem_cons.1 hm with rfl | hm
     ·exact ⟨by omega, by omega, by simpa using h3⟩
     ·exact ckMs_mem h m hm
theorem ckMs_rises {ps : List Pk} : ∀ {l : List Mem} {prev : Option Int}, ckMs ps prev l = 0 → (∀ q, prev = some q → ∀ m ∈ l, q < m.pl) ∧ (l.map Mem.pl).Pairwise (· < ·)
 | [], _, _ => ⟨fun _ _ m hm => (by cases hm), List.Pairwise.nil⟩
 | x :: r, prev, h => by
  simp only [ckMs] at h
  split at h
  ·cases h
  ·split at h
   ·cases h
   ·rename_i h2
    split at h
    ·cases h
    ·obtain ⟨i1, i2⟩ := ckMs_rises h
     have hx : ∀ q, prev = some q → q < x.pl := fun q hq => by
      subst hq
      simp only [badPl, decide_eq_true_eq] at h2
      omega
     refine ⟨fun q hq m hm => ?_, ?_⟩
     ·rcases List.mem_cons.1 hm with rfl | hm
      ·exact hx q hq
      ·exact Int.lt_trans (hx q hq) (i1 _ rfl m hm)
     ·rw [List.map_cons, List.pairwise_cons]
      refine ⟨fun b hb => ?_, i2⟩
      obtain ⟨m, hm, rfl⟩ := List.mem_map.1 hb
      exact i1 _ rfl m hm
/-! ### what an atom asks of a member -/
def ixOf (f : Qm.W) : List Qm.W → Option Nat
 | [] => none
 | g :: r => if g = f then some 0 else (ixOf f r).map (· + 1)
def onOf (on : List Bool) (k : Nat) : Bool := on.getD k false
def flagIs (p : Pk) (m : Mem) (a : At) : Bool := match ixOf a.fl p.fs with
 | some k => onOf m.on k == a.on
 | none => false
def isA (ps : List Pk) (m : Mem) (a : At) : Bool :=
 decide ((pkOf ps m.pl).nm = a.nm) && (fitsP a (pkOf ps m.pl).ver (pkOf ps m.pl).slot && (decide (a.fl = []) || flagIs (pkOf ps m.pl) m a))
theorem ixOf_lt {f : Qm.W} : ∀ {l : List Qm.W} {k : Nat}, ixOf f l = some k → k < l.length
 | [], k, h => by cases h
 | g :: r, k, h => by
  simp only [ixOf] at h
  split at h
  ·simp only [Option.some.injEq] at h; subst h; simp
  ·cases hr : ixOf f r with
   | none => rw [hr] at h; cases h
   | some j =>
    rw [hr] at h
    simp only [Option.map_some, Option.some.injEq] at h
    have := ixOf_lt hr
    simp only [List.length_cons]; omega
theorem ixOf_none {f : Qm.W} : ∀ {l : List Qm.W}, ixOf f l = none ↔ f ∉ l
 | [] => by simp [ixOf]
 | g :: r => by
  simp only [ixOf]
  by_cases hg : g = f
  ·rw [if_pos hg]; simp [hg]
  ·rw [if_neg hg]
   have := ixOf_none (f := f) (l := r)
   simp only [Option.map_eq_none_iff, List.mem_cons, not_or, this]
   exact ⟨fun h => ⟨fun e => hg e.symm, h⟩, fun h => h.2⟩

/-! ### whether a need holds -/
def blockB (q : Mem → Bool) (k : Nat) : Nat → List Mem → Bool
 | _, [] => true
 | i, m :: r => if i ≠ k ∧ q m = true then false else blockB q k (i + 1) r
def ifOff (ps : List Pk) (m : Mem) (f : Qm.W) (no : Bool) : Bool := match ixOf f (pkOf ps m.pl).fs with
 | some j => onOf m.on j == no
 | none => false
mutual
def holdsN (ps : List Pk) (l : List Mem) (k : Nat) (me : Mem) : Nd → Bool
 | .mk kd a f no ks =>
  if kd = 1 then l.any (fun m => isA ps m a)
  else if kd = 2 then blockB (fun m => isA ps m a) k 0 l
  else if kd = 4 then someN ps l k me ks
  else if kd = 5 ∧ ifOff ps me f no = true then true
  else allN ps l k me ks
def someN (ps : List Pk) (l : List Mem) (k : Nat) (me : Mem) : List Nd → Bool
 | [] => false
 | x :: r => holdsN ps l k me x || someN ps l k me r
def allN (ps : List Pk) (l : List Mem) (k : Nat) (me : Mem) : List Nd → Bool
 | [] => true
 | x :: r => holdsN ps l k me x && allN ps l k me r
end
def memAt (l : List Mem) (k : Nat) : Mem := l.getD k ⟨0, []⟩
def holdsAt (ps : List Pk) (l : List Mem) (k : Nat) : Bool := holdsN ps l k (memAt l k) (pkOf ps (memAt l k).pl).nd
def loneB (ps : List Pk) (p : Pk) : List Mem → Bool
 | [] => true
 | o :: r => if (pkOf ps o.pl).nm = p.nm ∧ (pkOf ps o.pl).slot = p.slot then false else loneB ps p r
def oneOk (ps : List Pk) (masked : List Int) (l : List Mem) (i : Nat) : Bool :=
 !masked.contains (memAt l i).pl && (holdsAt ps l i && loneB ps (pkOf ps (memAt l i).pl) (l.take i))
def allOk (ps : List Pk) (masked : List Int) (l : List Mem) : Nat → Bool
 | 0 => true
 | i + 1 => allOk ps masked l i && oneOk ps masked l i
def validP (ps : List Pk) (ts : List At) (masked : List Int) (l : List Mem) : Bool :=
 ts.all (fun a => l.any (fun m => isA ps m a)) && allOk ps masked l l.length

/-! ### wishes -/
structure Ws where
 ts : List At
 ins : List Mem
 ms : List Int
 on : List (Int × Int)
def ckAts : List At → Int
 | [] => 0
 | a :: r => if ckAtom a ≠ 0 then ckAtom a else ckAts r
def ckMask (ps : List Pk) : Option Int → List Int → Int
 | _, [] => 0
 | prev, k :: r => if k < 0 ∨ (ps.length : Int) ≤ k then 5 else if badPl prev k = true then 6 else ckMask ps (some k) r
def badOn : Option (Int × Int) → Int × Int → Bool
 | none, _ => false
 | some q, x => !(decide (q.1 < x.1) || (decide (q.1 = x.1) && decide (q.2 < x.2)))
def ckOn (ps : List Pk) : Option (Int × Int) → List (Int × Int) → Int
 | _, [] => 0
 | prev, x :: r => if x.1 < 0 ∨ (ps.length : Int) ≤ x.1 ∨ x.2 < 0 ∨ ((pkOf ps x.1).fs.length : Int) ≤ x.2 then 5 else if badOn prev x = true then 6 else ckOn ps (some x) r
def ckWishR (ps : List Pk) (w : Ws) : Int :=
 if 6 < w.ts.length then 2 else if ckAts w.ts ≠ 0 then ckAts w.ts else if ckMask ps none w.ms ≠ 0 then ckMask ps none w.ms else ckOn ps none w.on
def ckWish (ps : List Pk) (w : Ws) : Int := if ckSet ps w.ins ≠ 0 then ckSet ps w.ins else ckWishR ps w

/-! ### less is asked -/
end Go.Proofs.YtedbhlgjcnnknaaGreatDoor

/-
  Plain: values of variables, a scan of a clause, one pass over clauses, passes till nothing is new. No program in sight.
-/
namespace Qm

def vof (v : List Int) (n : Int) : Int := if n < 0 then - v.getD (-n).toNat 0 else v.getD n.toNat 0
def vset (v : List Int) (n : Int) : List Int := if n < 0 then v.set (-n).toNat (-1) else v.set n.toNat 1

def scanStep (v : List Int) (st : Int × Int) (n : Int) : Int × Int :=
  if st.2 < 0 then st
  else if vof v n = 1 then (st.1, -1)
  else if vof v n = 0 ∧ (st.2 = 0 ∨ st.2 = 1 ∧ st.1 ≠ n) then (n, st.2 + 1)
  else st
def scan (v : List Int) (c : List Int) : Int × Int := c.foldl (scanStep v) (0, 0)

def passOne (s : Option (List Int × Bool)) (c : List Int) : Option (List Int × Bool) :=
  match s with
  | none => none
  | some (v, m) => if (scan v c).2 = 0 then none else if (scan v c).2 = 1 then some (vset v (scan v c).1, true) else some (v, m)
def pass (cs : List (List Int)) (v : List Int) : Option (List Int × Bool) := cs.foldl passOne (some (v, false))

def spreadN (cs : List (List Int)) : Nat → List Int → Option (List Int)
  | 0, v => some v
  | k + 1, v => match pass cs v with
    | none => none
    | some (v', m) => if m then spreadN cs k v' else some v'
def zeros (v : List Int) : Nat := (v.drop 1).count 0
def spread (cs : List (List Int)) (v : List Int) : Option (List Int) := spreadN cs (zeros v + 1) v

def IsLit (N : Nat) (n : Int) : Prop := n ≠ 0 ∧ n.natAbs ≤ N
def IsCl (N : Nat) (c : List Int) : Prop := ∀ n ∈ c, IsLit N n
def Fine (N : Nat) (v : List Int) : Prop := v.length = N + 1 ∧ ∀ x ∈ v, x = 0 ∨ x = 1 ∨ x = -1

theorem vof_neg (v : List Int) (n : Int) (h : n ≠ 0) : vof v (-n) = - vof v n := by
  unfold vof
  by_cases h1 : n < 0
  · rw [if_pos h1, if_neg (by omega)]; simp
  · rw [if_neg h1, if_pos (by omega)]; simp

theorem vof_range {N : Nat} {v : List Int} (hv : Fine N v) (n : Int) : vof v n = 0 ∨ vof v n = 1 ∨ vof v n = -1 := by
  have key : ∀ k, v.getD k 0 = 0 ∨ v.getD k 0 = 1 ∨ v.getD k 0 = -1 := by
    intro k
    by_cases hk : k < v.length
    · have := hv.2 v[k] (List.getElem_mem hk)
      simpa [List.getD, hk] using this
    · left; simp [List.getD, List.getElem?_eq_none (by omega : v.length ≤ k)]
  unfold vof
  split
  · have := key (-n).toNat; omega
  · exact key n.toNat

theorem vset_len (v : List Int) (n : Int) : (vset v n).length = v.length := by
  unfold vset; split <;> simp

theorem vset_fine {N : Nat} {v : List Int} (hv : Fine N v) (n : Int) : Fine N (vset v n) := by
  refine ⟨by rw [vset_len]; exact hv.1, fun x hx => ?_⟩
  unfold vset at hx
  split at hx
  all_goals
    rcases List.mem_or_eq_of_mem_set hx with h | h
    · exact hv.2 x h
    · subst h; simp

theorem vof_vset {N : Nat} {v : List Int} (hv : Fine N v) {n : Int} (hn : IsLit N n) (m : Int) (hm : m ≠ 0) :
    vof (vset v n) m = if m = n then 1 else if m = -n then -1 else vof v m := by
  have hl := hv.1
  obtain ⟨h0, h1⟩ := hn
  have hg : ∀ (k j : Nat) (x : Int), k < v.length → (v.set k x).getD j 0 = if j = k then x else v.getD j 0 := by
    intro k j x hk
    by_cases hjk : j = k
    · subst hjk; simp [List.getD, hk]
    · simp only [List.getD]; rw [List.getElem?_set_ne (by omega)]; simp [hjk]
  unfold vof vset
  by_cases hn0 : n < 0
  · rw [if_pos hn0]
    by_cases hm0 : m < 0
    · rw [if_pos hm0, if_pos hm0, hg _ _ _ (by omega)]
      by_cases e : m = n
      · subst e; simp
      · rw [if_neg (by omega), if_neg e, if_neg (by omega)]
    · rw [if_neg hm0, if_neg hm0, hg _ _ _ (by omega)]
      by_cases e : m = -n
      · subst e; rw [if_pos rfl, if_neg (by omega), if_pos rfl]
      · rw [if_neg (by omega), if_neg (by omega), if_neg e]
  · rw [if_neg hn0]
    by_cases hm0 : m < 0
    · rw [if_pos hm0, if_pos hm0, hg _ _ _ (by omega)]
      by_cases e : m = -n
      · subst e; rw [if_pos (by omega), if_neg (by omega), if_pos rfl]
      · rw [if_neg (by omega), if_neg (by omega), if_neg e]
    · rw [if_neg hm0, if_neg hm0, hg _ _ _ (by omega)]
      by_cases e : m = n
      · subst e; simp
      · rw [if_neg (by omega), if_neg e, if_neg (by omega)]

/-! what a scan says -/
theorem scan_stuck (v : List Int) (c : List Int) (st : Int × Int) (h : st.2 < 0) : c.foldl (scanStep v) st = st := by
  induction c with
  | nil => rfl
  | cons n c ih => rw [List.foldl_cons]; have : scanStep v st n = st := by simp [scanStep, h]
                   rw [this]; exact ih

def ScanSays (v : List Int) (d : List Int) (st : Int × Int) : Prop :=
  (st.2 = -1 ∧ ∃ x ∈ d, vof v x = 1) ∨
  (st.2 = 0 ∧ ∀ x ∈ d, vof v x ≠ 1 ∧ vof v x ≠ 0) ∨
  (st.2 = 1 ∧ st.1 ∈ d ∧ vof v st.1 = 0 ∧ (∀ x ∈ d, vof v x ≠ 1 ∧ (vof v x = 0 → x = st.1))) ∨
  (2 ≤ st.2 ∧ (∀ x ∈ d, vof v x ≠ 1) ∧ ∃ x ∈ d, ∃ y ∈ d, x ≠ y ∧ vof v x = 0 ∧ vof v y = 0)

theorem scan_inv (v : List Int) (c d : List Int) (st : Int × Int) (h : ScanSays v d st) : ScanSays v (d ++ c) (c.foldl (scanStep v) st) := by
  induction c generalizing d st with
  | nil => simpa using h
  | cons n c ih =>
    have he : d ++ n :: c = (d ++ [n]) ++ c := by simp
    rw [he, List.foldl_cons]
    apply ih
    rcases h with ⟨h1, x, hx, hx1⟩ | ⟨h1, h2⟩ | ⟨h1, h2, h3, h4⟩ | ⟨h1, h2, x, hx, y, hy, hxy, hx0, hy0⟩
    · have : scanStep v st n = st := by simp [scanStep, h1]
      rw [this]
      exact .inl ⟨h1, x, by simp [hx], hx1⟩
    · by_cases a : vof v n = 1
      · have : scanStep v st n = (st.1, -1) := by simp [scanStep, h1, a]
        rw [this]; exact .inl ⟨rfl, n, by simp, a⟩
      · by_cases b : vof v n = 0
        · have : scanStep v st n = (n, 1) := by simp [scanStep, h1, b]
          rw [this]
          refine .inr (.inr (.inl ⟨rfl, by simp, b, fun x hx => ?_⟩))
          rcases List.mem_append.1 hx with hx | hx
          · exact ⟨(h2 x hx).1, fun h => absurd h (h2 x hx).2⟩
          · simp at hx; subst hx; exact ⟨a, fun _ => rfl⟩
        · have : scanStep v st n = st := by simp [scanStep, a, b]
          rw [this]
          refine .inr (.inl ⟨h1, fun x hx => ?_⟩)
          rcases List.mem_append.1 hx with hx | hx
          · exact h2 x hx
          · simp at hx; subst hx; exact ⟨a, b⟩
    · by_cases a : vof v n = 1
      · have : scanStep v st n = (st.1, -1) := by simp [scanStep, h1, a]
        rw [this]; exact .inl ⟨rfl, n, by simp, a⟩
      · by_cases b : vof v n = 0
        · by_cases e1 : st.1 = n
          · have : scanStep v st n = st := by simp [scanStep, h1, b, e1]
            rw [this]
            refine .inr (.inr (.inl ⟨h1, by simp [h2], h3, fun x hx => ?_⟩))
            rcases List.mem_append.1 hx with hx | hx
            · exact h4 x hx
            · simp at hx; subst hx; exact ⟨a, fun _ => e1.symm⟩
          · have : scanStep v st n = (n, 2) := by simp [scanStep, h1, b, e1]
            rw [this]
            refine .inr (.inr (.inr ⟨by simp, fun x hx => ?_, st.1, by simp [h2], n, by simp, e1, h3, b⟩))
            rcases List.mem_append.1 hx with hx | hx
            · exact (h4 x hx).1
            · simp at hx; subst hx; exact a
        · have : scanStep v st n = st := by simp [scanStep, a, b]
          rw [this]
          refine .inr (.inr (.inl ⟨h1, by simp [h2], h3, fun x hx => ?_⟩))
          rcases List.mem_append.1 hx with hx | hx
          · exact h4 x hx
          · simp at hx; subst hx; exact ⟨a, fun h => absurd h b⟩
    · by_cases a : vof v n = 1
      · have : scanStep v st n = (st.1, -1) := by
          have : ¬ st.2 < 0 := by omega
          simp [scanStep, this, a]
        rw [this]; exact .inl ⟨rfl, n, by simp, a⟩
      · have : scanStep v st n = st := by
          have h3 : ¬ st.2 < 0 := by omega
          have h4 : ¬ (st.2 = 0 ∨ st.2 = 1 ∧ st.1 ≠ n) := by omega
          simp only [scanStep, h3, a, h4, if_false, and_false]
        rw [this]
        refine .inr (.inr (.inr ⟨h1, fun z hz => ?_, x, by simp [hx], y, by simp [hy], hxy, hx0, hy0⟩))
        rcases List.mem_append.1 hz with hz | hz
        · exact h2 z hz
        · simp at hz; subst hz; exact a

theorem scan_cases (v : List Int) (c : List Int) :
    ((scan v c).2 = -1 ∧ ∃ x ∈ c, vof v x = 1) ∨
    ((scan v c).2 = 0 ∧ ∀ x ∈ c, vof v x ≠ 1 ∧ vof v x ≠ 0) ∨
    ((scan v c).2 = 1 ∧ (scan v c).1 ∈ c ∧ vof v (scan v c).1 = 0 ∧ (∀ x ∈ c, vof v x ≠ 1 ∧ (vof v x = 0 → x = (scan v c).1))) ∨
    (2 ≤ (scan v c).2 ∧ (∀ x ∈ c, vof v x ≠ 1) ∧ ∃ x ∈ c, ∃ y ∈ c, x ≠ y ∧ vof v x = 0 ∧ vof v y = 0) := by
  have := scan_inv v c [] (0, 0) (.inr (.inl ⟨rfl, by simp⟩))
  simpa [scan, ScanSays] using this


theorem scan_unit_mem {v c : List Int} (h : (scan v c).2 = 1) : (scan v c).1 ∈ c := by
  rcases scan_cases v c with ⟨e, _⟩ | ⟨e, _⟩ | ⟨_, hm, _⟩ | ⟨e, _⟩
  · omega
  · omega
  · exact hm
  · omega

/-! passes -/
theorem passOne_none (cs : List (List Int)) : cs.foldl passOne none = none := by
  induction cs with
  | nil => rfl
  | cons c cs ih => rw [List.foldl_cons]; exact ih

theorem foldl_take_succ {α β : Type} (f : β → α → β) (s : β) (l : List α) (k : Nat) (d : α) (h : k < l.length) : (l.take (k+1)).foldl f s = f ((l.take k).foldl f s) (l.getD k d) := by
  rw [List.take_succ_eq_append_getElem h, List.foldl_append, List.getD_eq_getElem?_getD, List.getElem?_eq_getElem h]; rfl
theorem foldl_take_drop {α β : Type} (f : β → α → β) (s : β) (l : List α) (k : Nat) : l.foldl f s = (l.drop k).foldl f ((l.take k).foldl f s) := by
  rw [← List.foldl_append, List.take_append_drop]
theorem flatten_take_succ {α : Type} (ls : List (List α)) (k : Nat) (h : k < ls.length) : (ls.take (k+1)).flatten = (ls.take k).flatten ++ ls.getD k [] := by
  rw [List.take_succ_eq_append_getElem h, List.flatten_append, List.getD_eq_getElem?_getD, List.getElem?_eq_getElem h]; simp

theorem scan_break {v : List Int} {c : List Int} {k : Nat} {st : Int × Int} (h : (c.take k).foldl (scanStep v) (0, 0) = st) (hn : st.2 < 0) : scan v c = st := by
  unfold scan
  rw [foldl_take_drop _ _ _ k, h]; exact scan_stuck v _ st hn

theorem passOne_fails {v1 : List Int} {m : Bool} {c : List Int} (h0 : (scan v1 c).2 = 0) : passOne (some (v1, m)) c = none := by simp only [passOne]; rw [if_pos h0]
theorem passOne_unit {v1 : List Int} {m : Bool} {c : List Int} (h0 : (scan v1 c).2 = 1) : passOne (some (v1, m)) c = some (vset v1 (scan v1 c).1, true) := by
  simp only [passOne]; rw [if_neg (by omega), if_pos h0]
theorem passOne_other {v1 : List Int} {m : Bool} {c : List Int} (h0 : (scan v1 c).2 ≠ 0) (h1 : (scan v1 c).2 ≠ 1) : passOne (some (v1, m)) c = some (v1, m) := by
  simp only [passOne]; rw [if_neg h0, if_neg h1]

theorem count_set_zero (l : List Int) (k : Nat) (x : Int) (hk : k < l.length) (h0 : l[k] = 0) (hx : x ≠ 0) : (l.set k x).count 0 + 1 = l.count 0 := by
  induction l generalizing k with
  | nil => simp at hk
  | cons a l ih =>
    cases k with
    | zero =>
      simp at h0; subst h0
      simp [List.set, List.count_cons, hx]
    | succ k =>
      have := ih k (by simpa using hk) (by simpa using h0)
      simp only [List.set, List.count_cons]; omega

theorem zeros_vset {N : Nat} {v : List Int} (hv : Fine N v) {n : Int} (hn : IsLit N n) (h : vof v n = 0) : zeros (vset v n) + 1 = zeros v := by
  have hl := hv.1
  obtain ⟨h0, h1⟩ := hn
  have key : ∀ (k : Nat) (x : Int), 1 ≤ k → k < v.length → v.getD k 0 = 0 → x ≠ 0 → zeros (v.set k x) + 1 = zeros v := by
    intro k x hk1 hk hz hx
    unfold zeros
    obtain ⟨j, rfl⟩ : ∃ j, k = j + 1 := ⟨k - 1, by omega⟩
    have : (v.set (j+1) x).drop 1 = (v.drop 1).set j x := by
      cases v with
      | nil => rfl
      | cons a v => rfl
    rw [this]
    refine count_set_zero _ _ _ (by simp; omega) ?_ hx
    rw [List.getD_eq_getElem?_getD, List.getElem?_eq_getElem hk] at hz
    simpa using hz
  unfold vset
  unfold vof at h
  by_cases hn0 : n < 0
  · rw [if_pos hn0] at h ⊢
    exact key _ _ (by omega) (by omega) (by omega) (by omega)
  · rw [if_neg hn0] at h ⊢
    exact key _ _ (by omega) (by omega) h (by omega)

theorem passOne_ok {N : Nat} {v v' : List Int} {m m' : Bool} {c : List Int} (hv : Fine N v) (hc : IsCl N c) (h : passOne (some (v, m)) c = some (v', m')) :
    Fine N v' ∧ ((v' = v ∧ m' = m) ∨ (zeros v' + 1 = zeros v ∧ m' = true)) := by
  simp only [passOne] at h
  split at h
  · cases h
  · split at h
    · rename_i h0 h1
      injection h with h; injection h with ha hb
      subst ha hb
      rcases scan_cases v c with ⟨e, _⟩ | ⟨e, _⟩ | ⟨_, hm, hz, _⟩ | ⟨e, _⟩
      · omega
      · omega
      · exact ⟨vset_fine hv _, .inr ⟨zeros_vset hv (hc _ hm) hz, rfl⟩⟩
      · omega
    · injection h with h; injection h with ha hb
      subst ha hb
      exact ⟨hv, .inl ⟨rfl, rfl⟩⟩

theorem pass_ok {N : Nat} {cs : List (List Int)} (hcs : ∀ c ∈ cs, IsCl N c) : ∀ {v v' : List Int} {m m' : Bool}, Fine N v → cs.foldl passOne (some (v, m)) = some (v', m') →
    Fine N v' ∧ ((v' = v ∧ m' = m) ∨ (zeros v' < zeros v ∧ m' = true)) := by
  induction cs with
  | nil => intro v v' m m' hv h; simp at h; obtain ⟨rfl, rfl⟩ := h; exact ⟨hv, .inl ⟨rfl, rfl⟩⟩
  | cons c cs ih =>
    intro v v' m m' hv h
    rw [List.foldl_cons] at h
    cases hp : passOne (some (v, m)) c with
    | none => rw [hp, passOne_none] at h; cases h
    | some x =>
      obtain ⟨v1, m1⟩ := x
      rw [hp] at h
      obtain ⟨hf, h1⟩ := passOne_ok hv (hcs c (by simp)) hp
      obtain ⟨hf', h2⟩ := ih (fun d hd => hcs d (by simp [hd])) hf h
      refine ⟨hf', ?_⟩
      rcases h1 with ⟨rfl, rfl⟩ | ⟨ha, rfl⟩
      · exact h2
      · rcases h2 with ⟨rfl, rfl⟩ | ⟨hb, rfl⟩
        · exact .inr ⟨by omega, rfl⟩
        · exact .inr ⟨by omega, rfl⟩

theorem spreadN_fuel {N : Nat} {cs : List (List Int)} (hcs : ∀ c ∈ cs, IsCl N c) : ∀ (k j : Nat) (v : List Int), Fine N v → zeros v < k → zeros v < j → spreadN cs k v = spreadN cs j v := by
  intro k
  induction k with
  | zero => intro j v _ h; omega
  | succ k ih =>
    intro j v hv hk hj
    obtain ⟨j, rfl⟩ : ∃ i, j = i + 1 := ⟨j - 1, by omega⟩
    simp only [spreadN]
    cases hp : pass cs v with
    | none => rfl
    | some x =>
      obtain ⟨v', m⟩ := x
      simp only
      cases m with
      | false => rfl
      | true =>
        obtain ⟨hf, h⟩ := pass_ok hcs hv hp
        rcases h with ⟨_, h⟩ | ⟨h, _⟩
        · cases h
        · exact ih j v' hf (by omega) (by omega)

theorem spread_step {N : Nat} {cs : List (List Int)} (hcs : ∀ c ∈ cs, IsCl N c) {v : List Int} (hv : Fine N v) :
    spread cs v = match pass cs v with | none => none | some (v', m) => if m then spread cs v' else some v' := by
  show spreadN cs (zeros v + 1) v = _
  simp only [spreadN]
  cases hp : pass cs v with
  | none => rfl
  | some x =>
    obtain ⟨v', m⟩ := x
    simp only
    cases m with
    | false => rfl
    | true =>
      obtain ⟨hf, h⟩ := pass_ok hcs hv hp
      rcases h with ⟨_, h⟩ | ⟨h, _⟩
      · cases h
      · exact spreadN_fuel hcs _ _ v' hf (by omega) (by omega)
theorem spread_none {N : Nat} {cs : List (List Int)} (hcs : ∀ c ∈ cs, IsCl N c) {v : List Int} (hv : Fine N v) (h : pass cs v = none) : spread cs v = none := by
  rw [spread_step hcs hv, h]
theorem spread_more {N : Nat} {cs : List (List Int)} (hcs : ∀ c ∈ cs, IsCl N c) {v v' : List Int} (hv : Fine N v) (h : pass cs v = some (v', true)) : spread cs v = spread cs v' := by
  rw [spread_step hcs hv, h]; rfl
theorem spread_done {N : Nat} {cs : List (List Int)} (hcs : ∀ c ∈ cs, IsCl N c) {v v' : List Int} (hv : Fine N v) (h : pass cs v = some (v', false)) : spread cs v = some v' := by
  rw [spread_step hcs hv, h]; rfl

/-! the open literals of a clause, each once: the document's way to scan -/
/-! literals that are assumed -/
def assume1 (s : Option (List Int)) (n : Int) : Option (List Int) := match s with | none => none | some v => if vof v n = -1 then none else some (vset v n)
def assume (ls : List Int) (v : List Int) : Option (List Int) := ls.foldl assume1 (some v)
theorem assume1_none (ls : List Int) : ls.foldl assume1 none = none := by
  induction ls with
  | nil => rfl
  | cons n ls ih => rw [List.foldl_cons]; exact ih
def zeroVals (N : Nat) : List Int := List.replicate (N + 1) 0
theorem zeroVals_fine (N : Nat) : Fine N (zeroVals N) := ⟨by simp [zeroVals], fun x hx => by simp [zeroVals] at hx; exact .inl hx⟩
theorem zeros_zeroVals (N : Nat) : zeros (zeroVals N) = N := by unfold zeros zeroVals; simp
def rupStep (N : Nat) (cs : List (List Int)) (c : List Int) : Bool := match assume (c.map Neg.neg) (zeroVals N) with | none => true | some v => (spread cs v).isNone
end Qm

/-
 Plain: what spreads is sound: it holds in each model; a clause that follows at once holds.
-/
namespace Qm
def litHolds (m : List Bool) (n : Int) : Bool := m.getD (n.natAbs - 1) false == decide (0 < n)
def holdsF (m : List Bool) (cs : List (List Int)) : Bool := cs.all fun c => c.any (litHolds m)
theorem litHolds_neg (m : List Bool) {n : Int} (h : n ≠ 0) : litHolds m (-n) = !litHolds m n := by
 unfold litHolds
 rw [Int.natAbs_neg]
 have : decide (0 < -n) = !decide (0 < n) := by
  rw [Bool.eq_iff_iff]; simp; omega
 rw [this]
 cases m.getD (n.natAbs - 1) false <;> cases decide (0 < n) <;> rfl
def Agrees (N : Nat) (m : List Bool) (v : List Int) : Prop := ∀ n, IsLit N n → vof v n = 1 → litHolds m n = true
theorem Agrees.fails {N : Nat} {m : List Bool} {v : List Int} (h : Agrees N m v) {n : Int} (hn : IsLit N n) (hv : vof v n = -1) : litHolds m n = false := by
 have h1 : vof v (-n) = 1 := by rw [vof_neg v n hn.1, hv]; rfl
 have h2 := h (-n) ⟨by have := hn.1; omega, by rw [Int.natAbs_neg]; exact hn.2⟩ h1
 rw [litHolds_neg m hn.1] at h2; simpa using h2
theorem Agrees.zero (N : Nat) (m : List Bool) : Agrees N m (zeroVals N) := by
 intro n _ h
 have hz : ∀ k, (zeroVals N).getD k 0 = 0 := by
  intro k; rw [List.getD_eq_getElem?_getD, zeroVals, List.getElem?_replicate]; split <;> rfl
 unfold vof at h
 rw [hz, hz] at h
 split at h <;> omega
theorem Agrees.set {N : Nat} {m : List Bool} {v : List Int} (hf : Fine N v) (h : Agrees N m v) {n : Int} (hn : IsLit N n) (hm : litHolds m n = true) : Agrees N m (vset v n) := by
 intro k hk h1
 rw [vof_vset hf hn k hk.1] at h1
 split at h1
 ·rename_i e; rw [e]; exact hm
 ·split at h1
  ·omega
  ·exact h k hk h1
theorem scan_sound {N : Nat} {m : List Bool} {v c : List Int} (hf : Fine N v) (h : Agrees N m v) (hc : IsCl N c) (hh : c.any (litHolds m) = true) :
  (scan v c).2 ≠ 0 ∧ ((scan v c).2 = 1 → litHolds m (scan v c).1 = true) := by
 obtain ⟨x, hx, hxm⟩ := List.any_eq_true.1 hh
 rcases scan_cases v c with ⟨e, _⟩ | ⟨e, h2⟩ | ⟨e, h2, h3, h4⟩ | ⟨e, _⟩
 ·exact ⟨by omega, by omega⟩
 ·have := h2 x hx
  have hv : vof v x = -1 := by rcases vof_range hf x with a | a | a <;> omega
  rw [h.fails (hc x hx) hv] at hxm; cases hxm
 ·refine ⟨by omega, fun _ => ?_⟩
  have := h4 x hx
  rcases vof_range hf x with a | a | a
  ·rw [← this.2 a]; exact hxm
  ·exact absurd a this.1
  ·rw [h.fails (hc x hx) a] at hxm; cases hxm
 ·exact ⟨by omega, by omega⟩
theorem passOne_sound {N : Nat} {m : List Bool} {v c : List Int} {b : Bool} (hf : Fine N v) (h : Agrees N m v) (hc : IsCl N c) (hh : c.any (litHolds m) = true) :
  ∃ v' b', passOne (some (v, b)) c = some (v', b') ∧ Fine N v' ∧ Agrees N m v' := by
 obtain ⟨h0, h1⟩ := scan_sound hf h hc hh
 by_cases e : (scan v c).2 = 1
 ·exact ⟨_, _, passOne_unit e, vset_fine hf _, h.set hf (hc _ (scan_unit_mem e)) (h1 e)⟩
 ·exact ⟨_, _, passOne_other h0 e, hf, h⟩
theorem pass_sound {N : Nat} {m : List Bool} {cs : List (List Int)} (hc : ∀ c ∈ cs, IsCl N c) (hh : holdsF m cs = true) : ∀ {v : List Int} {b : Bool}, Fine N v → Agrees N m v →
  ∃ v' b', cs.foldl passOne (some (v, b)) = some (v', b') ∧ Fine N v' ∧ Agrees N m v' := by
 induction cs with
 | nil => intro v b hf h; exact ⟨v, b, rfl, hf, h⟩
 | cons c cs ih =>
  intro v b hf h
  have hh' := List.all_eq_true.1 hh
  obtain ⟨v1, b1, e1, hf1, h1⟩ := passOne_sound (b := b) hf h (hc c (by simp)) (hh' c (by simp))
  rw [List.foldl_cons, e1]
  exact ih (fun d hd => hc d (by simp [hd])) (List.all_eq_true.2 fun d hd => hh' d (by simp [hd])) hf1 h1
theorem spreadN_sound {N : Nat} {m : List Bool} {cs : List (List Int)} (hc : ∀ c ∈ cs, IsCl N c) (hh : holdsF m cs = true) : ∀ (k : Nat) {v : List Int}, Fine N v → Agrees N m v →
  ∃ v', spreadN cs k v = some v' ∧ Fine N v' ∧ Agrees N m v' := by
 intro k
 induction k with
 | zero => intro v hf h; exact ⟨v, rfl, hf, h⟩
 | succ k ih =>
  intro v hf h
  obtain ⟨v1, b1, e1, hf1, h1⟩ := pass_sound hc hh (b := false) hf h
  have e1' : pass cs v = some (v1, b1) := e1
  simp only [spreadN, e1']
  cases b1 with
  | true => exact ih hf1 h1
  | false => exact ⟨v1, rfl, hf1, h1⟩
theorem spread_sound {N : Nat} {m : List Bool} {cs : List (List Int)} (hc : ∀ c ∈ cs, IsCl N c) (hh : holdsF m cs = true) {v : List Int} (hf : Fine N v) (h : Agrees N m v) : ∃ v', spread cs v = some v' ∧ Fine N v' ∧ Agrees N m v' :=
 spreadN_sound hc hh _ hf h
theorem assume_sound {N : Nat} {m : List Bool} {ls : List Int} (hl : ∀ n ∈ ls, IsLit N n ∧ litHolds m n = true) : ∀ {v : List Int}, Fine N v → Agrees N m v → ∃ v', ls.foldl assume1 (some v) = some v' ∧ Fine N v' ∧ Agrees N m v' := by
 induction ls with
 | nil => intro v hf h; exact ⟨v, rfl, hf, h⟩
 | cons n ls ih =>
  intro v hf h
  obtain ⟨hn, hm⟩ := hl n (by simp)
  have hv : vof v n ≠ -1 := by intro e; rw [h.fails hn e] at hm; cases hm
  rw [List.foldl_cons]
  have : assume1 (some v) n = some (vset v n) := by simp only [assume1]; rw [if_neg hv]
  rw [this]
  exact ih (fun k hk => hl k (by simp [hk])) (vset_fine hf _) (h.set hf hn hm)
end Qm

/-
 Plain: literals out of values; what follows.
-/
namespace Qm
def litsTo (v : List Int) : Nat → List Int
 | 0 => []
 | k + 1 => litsTo v k ++ if v.getD (k + 1) 0 = 0 then [] else [((k + 1 : Nat) : Int) * v.getD (k + 1) 0]
theorem litsTo_succ (v : List Int) (k : Nat) : litsTo v (k + 1) = litsTo v k ++ if v.getD (k + 1) 0 = 0 then [] else [((k + 1 : Nat) : Int) * v.getD (k + 1) 0] := rfl
def followsV (N : Nat) (cs : List (List Int)) (az : List Int) : Option (List Int) := match assume az (zeroVals N) with | none => none | some v => spread cs v
theorem spreadN_fine {N : Nat} {cs : List (List Int)} (hc : ∀ c ∈ cs, IsCl N c) : ∀ (k : Nat) {v v' : List Int}, Fine N v → spreadN cs k v = some v' → Fine N v' := by
 intro k
 induction k with
 | zero => intro v v' hf h; simp [spreadN] at h; subst h; exact hf
 | succ k ih =>
  intro v v' hf h
  simp only [spreadN] at h
  cases hp : pass cs v with
  | none => rw [hp] at h; cases h
  | some x =>
   obtain ⟨v1, b⟩ := x
   rw [hp] at h
   have hf1 := (pass_ok hc hf hp).1
   cases b with
   | true => exact ih hf1 h
   | false => simp at h; subst h; exact hf1
theorem spread_fine {N : Nat} {cs : List (List Int)} (hc : ∀ c ∈ cs, IsCl N c) {v v' : List Int} (hf : Fine N v) (h : spread cs v = some v') : Fine N v' := spreadN_fine hc _ hf h
end Qm

/-
 Plain: what spreads is the least that is closed: more clauses and more that is known give no less.
-/
namespace Qm
def Le (N : Nat) (v w : List Int) : Prop := ∀ n, IsLit N n → vof v n = 1 → vof w n = 1
def Closed (cs : List (List Int)) (w : List Int) : Prop := ∀ c ∈ cs, (scan w c).2 ≠ 0 ∧ (scan w c).2 ≠ 1
theorem IsLit.neg {N : Nat} {n : Int} (h : IsLit N n) : IsLit N (-n) := ⟨by have := h.1; omega, by rw [Int.natAbs_neg]; exact h.2⟩
theorem Le.refl (N : Nat) (v : List Int) : Le N v v := fun _ _ h => h
theorem Le.trans {N : Nat} {a b c : List Int} (h : Le N a b) (k : Le N b c) : Le N a c := fun n hn h1 => k n hn (h n hn h1)
theorem Le.fails {N : Nat} {v w : List Int} (h : Le N v w) {n : Int} (hn : IsLit N n) (hv : vof v n = -1) : vof w n = -1 := by
 have h1 : vof v (-n) = 1 := by rw [vof_neg v n hn.1, hv]; rfl
 have h2 := h (-n) hn.neg h1
 rw [vof_neg w n hn.1] at h2; omega
theorem Le.set {N : Nat} {v w : List Int} (hf : Fine N v) (h : Le N v w) {n : Int} (hn : IsLit N n) (hw : vof w n = 1) : Le N (vset v n) w := by
 intro k hk h1
 rw [vof_vset hf hn k hk.1] at h1
 split at h1
 ·rename_i e; rw [e]; exact hw
 ·split at h1
  ·omega
  ·exact h k hk h1
theorem le_vset {N : Nat} {v : List Int} (hf : Fine N v) {n : Int} (hn : IsLit N n) (h : vof v n ≠ -1) : Le N v (vset v n) := by
 intro k hk h1
 rw [vof_vset hf hn k hk.1]
 split
 ·rfl
 ·split
  ·rename_i e; rw [e, vof_neg v n hn.1] at h1; omega
  ·exact h1
theorem le_zero (N : Nat) (w : List Int) : Le N (zeroVals N) w := by
 intro n _ h
 have hz : ∀ k, (zeroVals N).getD k 0 = 0 := by
  intro k; rw [List.getD_eq_getElem?_getD, zeroVals, List.getElem?_replicate]; split <;> rfl
 unfold vof at h
 rw [hz, hz] at h
 split at h <;> omega
theorem scan_le {N : Nat} {v w c : List Int} (hv : Fine N v) (hw : Fine N w) (h : Le N v w) (hc : IsCl N c) (hcl : (scan w c).2 ≠ 0 ∧ (scan w c).2 ≠ 1) :
  (scan v c).2 ≠ 0 ∧ ((scan v c).2 = 1 → vof w (scan v c).1 = 1) := by
 rcases scan_cases v c with ⟨e, _⟩ | ⟨e, h2⟩ | ⟨e, h2, h3, h4⟩ | ⟨e, _⟩
 ·exact ⟨by omega, by omega⟩
 ·exfalso
  have hall : ∀ x ∈ c, vof w x = -1 := fun x hx => h.fails (hc x hx) (by have := h2 x hx; rcases vof_range hv x with a | a | a <;> omega)
  rcases scan_cases w c with ⟨_, x, hx, h1⟩ | ⟨e1, _⟩ | ⟨_, hm, hz, _⟩ | ⟨_, _, x, hx, _, _, _, hx0, _⟩
  ·have := hall x hx; omega
  ·exact hcl.1 e1
  ·have := hall _ hm; omega
  ·have := hall x hx; omega
 ·refine ⟨by omega, fun _ => ?_⟩
  have hoth : ∀ x ∈ c, x ≠ (scan v c).1 → vof w x = -1 := fun x hx hne => h.fails (hc x hx) (by
   have := h4 x hx
   rcases vof_range hv x with a | a | a
   ·exact absurd (this.2 a) hne
   ·exact absurd a this.1
   ·exact a)
  rcases vof_range hw (scan v c).1 with a | a | a
  ·exfalso
   rcases scan_cases w c with ⟨_, x, hx, h1⟩ | ⟨e1, _⟩ | ⟨e1, _⟩ | ⟨_, _, x, hx, y, hy, hxy, hx0, hy0⟩
   ·by_cases hxe : x = (scan v c).1
    ·rw [hxe] at h1; omega
    ·have := hoth x hx hxe; omega
   ·exact hcl.1 e1
   ·exact hcl.2 e1
   ·by_cases hxe : x = (scan v c).1
    ·have := hoth y hy (fun e => hxy (hxe.trans e.symm)); omega
    ·have := hoth x hx hxe; omega
  ·exact a
  ·exfalso
   have hall : ∀ x ∈ c, vof w x = -1 := fun x hx => by
    by_cases hxe : x = (scan v c).1
    ·rw [hxe]; exact a
    ·exact hoth x hx hxe
   rcases scan_cases w c with ⟨_, x, hx, h1⟩ | ⟨e1, _⟩ | ⟨_, hm, hz, _⟩ | ⟨_, _, x, hx, _, _, _, hx0, _⟩
   ·have := hall x hx; omega
   ·exact hcl.1 e1
   ·have := hall _ hm; omega
   ·have := hall x hx; omega
 ·exact ⟨by omega, by omega⟩
theorem passOne_le {N : Nat} {v w c : List Int} {b : Bool} (hv : Fine N v) (hw : Fine N w) (h : Le N v w) (hc : IsCl N c) (hcl : (scan w c).2 ≠ 0 ∧ (scan w c).2 ≠ 1) :
  ∃ v' b', passOne (some (v, b)) c = some (v', b') ∧ Fine N v' ∧ Le N v' w := by
 obtain ⟨h0, h1⟩ := scan_le hv hw h hc hcl
 by_cases e : (scan v c).2 = 1
 ·exact ⟨_, _, passOne_unit e, vset_fine hv _, h.set hv (hc _ (scan_unit_mem e)) (h1 e)⟩
 ·exact ⟨_, _, passOne_other h0 e, hv, h⟩
theorem pass_le {N : Nat} {w : List Int} {cs : List (List Int)} (hw : Fine N w) (hc : ∀ c ∈ cs, IsCl N c) (hcl : Closed cs w) : ∀ {v : List Int} {b : Bool}, Fine N v → Le N v w →
  ∃ v' b', cs.foldl passOne (some (v, b)) = some (v', b') ∧ Fine N v' ∧ Le N v' w := by
 induction cs with
 | nil => intro v b hf h; exact ⟨v, b, rfl, hf, h⟩
 | cons c cs ih =>
  intro v b hf h
  obtain ⟨v1, b1, e1, hf1, h1⟩ := passOne_le (b := b) hf hw h (hc c (by simp)) (hcl c (by simp))
  rw [List.foldl_cons, e1]
  exact ih (fun d hd => hc d (by simp [hd])) (fun d hd => hcl d (by simp [hd])) hf1 h1
theorem spreadN_le {N : Nat} {w : List Int} {cs : List (List Int)} (hw : Fine N w) (hc : ∀ c ∈ cs, IsCl N c) (hcl : Closed cs w) : ∀ (k : Nat) {v : List Int}, Fine N v → Le N v w →
  ∃ v', spreadN cs k v = some v' ∧ Le N v' w := by
 intro k
 induction k with
 | zero => intro v hf h; exact ⟨v, rfl, h⟩
 | succ k ih =>
  intro v hf h
  obtain ⟨v1, b1, e1, hf1, h1⟩ := pass_le hw hc hcl (b := false) hf h
  have e1' : pass cs v = some (v1, b1) := e1
  simp only [spreadN, e1']
  cases b1 with
  | true => exact ih hf1 h1
  | false => exact ⟨v1, rfl, h1⟩
theorem spread_le {N : Nat} {w : List Int} {cs : List (List Int)} (hw : Fine N w) (hc : ∀ c ∈ cs, IsCl N c) (hcl : Closed cs w) {v : List Int} (hf : Fine N v) (h : Le N v w) : ∃ v', spread cs v = some v' ∧ Le N v' w :=
 spreadN_le hw hc hcl _ hf h

/-! what spreads is closed -/
theorem pass_true {cs : List (List Int)} {v v' : List Int} {b : Bool} (h : cs.foldl passOne (some (v, true)) = some (v', b)) : b = true := by
 induction cs generalizing v with
 | nil => simp at h; first | exact h.2.symm | exact h.2 | (obtain ⟨_, hb⟩ := h; exact hb ▸ rfl)
 | cons c cs ih =>
  rw [List.foldl_cons] at h
  cases hp : passOne (some (v, true)) c with
  | none => rw [hp, passOne_none] at h; cases h
  | some x =>
   obtain ⟨v1, b1⟩ := x
   have : b1 = true := by
    simp only [passOne] at hp
    split at hp
    ·cases hp
    ·split at hp
     ·injection hp with hp; injection hp with _ hp; exact hp.symm
     ·injection hp with hp; injection hp with _ hp; exact hp.symm
   subst this
   rw [hp] at h
   exact ih h
theorem pass_false {cs : List (List Int)} {v v' : List Int} (h : cs.foldl passOne (some (v, false)) = some (v', false)) : v' = v ∧ Closed cs v := by
 induction cs with
 | nil => simp at h; exact ⟨h.symm, fun c hc => by simp at hc⟩
 | cons c cs ih =>
  rw [List.foldl_cons] at h
  by_cases h0 : (scan v c).2 = 0
  ·rw [passOne_fails h0, passOne_none] at h; cases h
  ·by_cases h1 : (scan v c).2 = 1
   ·rw [passOne_unit h1] at h
    have := pass_true h; cases this
   ·rw [passOne_other h0 h1] at h
    obtain ⟨e, hcl⟩ := ih h
    refine ⟨e, fun d hd => ?_⟩
    rcases List.mem_cons.1 hd with rfl | hd
    ·exact ⟨h0, h1⟩
    ·exact hcl d hd
theorem passOne_grows {N : Nat} {v v' c : List Int} {b b' : Bool} (hv : Fine N v) (hc : IsCl N c) (h : passOne (some (v, b)) c = some (v', b')) : Le N v v' := by
 simp only [passOne] at h
 split at h
 ·cases h
 ·split at h
  ·rename_i h0 h1
   injection h with h; injection h with ha _
   subst ha
   refine le_vset hv (hc _ (scan_unit_mem h1)) ?_
   rcases scan_cases v c with ⟨e, _⟩ | ⟨e, _⟩ | ⟨_, _, hz, _⟩ | ⟨e, _⟩ <;> omega
  ·injection h with h; injection h with ha _
   subst ha; exact Le.refl N _
theorem pass_grows {N : Nat} {cs : List (List Int)} (hc : ∀ c ∈ cs, IsCl N c) : ∀ {v v' : List Int} {b b' : Bool}, Fine N v → cs.foldl passOne (some (v, b)) = some (v', b') → Le N v v' := by
 induction cs with
 | nil => intro v v' b b' _ h; simp at h; rw [h.1]; exact Le.refl N _
 | cons c cs ih =>
  intro v v' b b' hf h
  rw [List.foldl_cons] at h
  cases hp : passOne (some (v, b)) c with
  | none => rw [hp, passOne_none] at h; cases h
  | some x =>
   obtain ⟨v1, b1⟩ := x
   rw [hp] at h
   exact (passOne_grows hf (hc c (by simp)) hp).trans (ih (fun d hd => hc d (by simp [hd])) (passOne_ok hf (hc c (by simp)) hp).1 h)
theorem spreadN_closed {N : Nat} {cs : List (List Int)} (hc : ∀ c ∈ cs, IsCl N c) : ∀ (k : Nat) {v v' : List Int}, Fine N v → zeros v < k → spreadN cs k v = some v' → Closed cs v' ∧ Le N v v' := by
 intro k
 induction k with
 | zero => intro v v' _ hk; omega
 | succ k ih =>
  intro v v' hf hk h
  simp only [spreadN] at h
  cases hp : pass cs v with
  | none => rw [hp] at h; cases h
  | some x =>
   obtain ⟨v1, b⟩ := x
   rw [hp] at h
   have hok := pass_ok hc hf hp
   have hgr := pass_grows hc hf hp
   cases b with
   | true =>
    rcases hok.2 with ⟨_, h1⟩ | ⟨h1, _⟩
    ·cases h1
    ·obtain ⟨h2, h3⟩ := ih hok.1 (by omega) h
     exact ⟨h2, hgr.trans h3⟩
   | false =>
    simp at h; subst h
    obtain ⟨e, hcl⟩ := pass_false hp
    subst e
    exact ⟨hcl, Le.refl N _⟩
theorem spread_closed {N : Nat} {cs : List (List Int)} (hc : ∀ c ∈ cs, IsCl N c) {v v' : List Int} (hf : Fine N v) (h : spread cs v = some v') : Closed cs v' ∧ Le N v v' ∧ Fine N v' :=
 let ⟨a, b⟩ := spreadN_closed hc _ hf (Nat.lt_succ_self _) h
 ⟨a, b, spread_fine hc hf h⟩
theorem eq_of_le {N : Nat} {v w : List Int} (hv : Fine N v) (hw : Fine N w) (h : Le N v w) (k : Le N w v) (h0 : v.getD 0 0 = w.getD 0 0) : v = w := by
 apply List.ext_getElem (by rw [hv.1, hw.1])
 intro i h1 h2
 by_cases hi : i = 0
 ·subst hi
  simpa [List.getD_eq_getElem?_getD, List.getElem?_eq_getElem h1, List.getElem?_eq_getElem h2] using h0
 ·have hl : IsLit N (i : Int) := ⟨by omega, by have := hv.1; omega⟩
  have e1 : vof v i = v[i] := by unfold vof; rw [if_neg (by omega)]; simp [List.getD_eq_getElem?_getD, List.getElem?_eq_getElem h1]
  have e2 : vof w i = w[i] := by unfold vof; rw [if_neg (by omega)]; simp [List.getD_eq_getElem?_getD, List.getElem?_eq_getElem h2]
  rw [← e1, ← e2]
  rcases vof_range hv i with a | a | a
  ·rcases vof_range hw i with b | b | b
   ·omega
   ·have := k i hl b; omega
   ·have := k.fails hl b; omega
  ·rw [a, h i hl a]
  ·rw [a, h.fails hl a]
theorem assume_known {N : Nat} {ls : List Int} (hl : ∀ n ∈ ls, IsLit N n) : ∀ {v v' : List Int}, Fine N v → ls.foldl assume1 (some v) = some v' → Fine N v' ∧ Le N v v' ∧ ∀ n ∈ ls, vof v' n = 1 := by
 induction ls with
 | nil => intro v v' hf h; simp at h; subst h; exact ⟨hf, Le.refl N _, fun n hn => by simp at hn⟩
 | cons n ls ih =>
  intro v v' hf h
  rw [List.foldl_cons] at h
  have hn := hl n (by simp)
  by_cases hv : vof v n = -1
  ·have : assume1 (some v) n = none := by simp only [assume1]; rw [if_pos hv]
   rw [this, assume1_none] at h; cases h
  ·have : assume1 (some v) n = some (vset v n) := by simp only [assume1]; rw [if_neg hv]
   rw [this] at h
   obtain ⟨h1, h2, h3⟩ := ih (fun k hk => hl k (by simp [hk])) (vset_fine hf _) h
   refine ⟨h1, (le_vset hf hn hv).trans h2, fun k hk => ?_⟩
   rcases List.mem_cons.1 hk with rfl | hk
   ·exact h2 k hn (by rw [vof_vset hf hn k hn.1, if_pos rfl])
   ·exact h3 k hk
theorem assume_le {N : Nat} {w : List Int} {ls : List Int} (hl : ∀ n ∈ ls, IsLit N n ∧ vof w n = 1) : ∀ {v : List Int}, Fine N v → Le N v w → ∃ v', ls.foldl assume1 (some v) = some v' ∧ Fine N v' ∧ Le N v' w := by
 induction ls with
 | nil => intro v hf h; exact ⟨v, rfl, hf, h⟩
 | cons n ls ih =>
  intro v hf h
  obtain ⟨hn, hm⟩ := hl n (by simp)
  have hv : vof v n ≠ -1 := by intro e; have := h.fails hn e; omega
  rw [List.foldl_cons]
  have : assume1 (some v) n = some (vset v n) := by simp only [assume1]; rw [if_neg hv]
  rw [this]
  exact ih (fun k hk => hl k (by simp [hk])) (vset_fine hf _) (h.set hf hn hm)
end Qm
