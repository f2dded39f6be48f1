/- Parts of the proof: walks and plain laws, side by side. -/
import Derived.Test.YtpipgffbhpnmkaaGreatDoorM1
import Derived.Lib.SlicesCompact
import Derived.WalkKit
import Init.Data.List
set_option linter.unusedVariables false
set_option linter.unusedSimpArgs false
set_option linter.unusedSectionVars false
namespace Qm
open Go

/-! Trees, in plain words: no program in sight. -/

structure Pk where
  nm : W
  ver : Int
  slot : Int
  fs : List W
  nd : Nd

def badNext : Option W → W → Bool
  | none, _ => false
  | some p, f => decide (f ≤ p)
def ckFlags : Option W → List W → Int
  | _, [] => 0
  | prev, f :: r => if isName f = false then 1 else if badNext prev f = true then 6 else ckFlags (some f) r
def ckPk (p : Pk) : Int :=
  if isName p.nm = false then 1
  else if p.ver < 1 ∨ 99 < p.ver ∨ p.slot < 1 ∨ 9 < p.slot then 3
  else if 2 < p.fs.length then 2
  else if ckFlags none p.fs ≠ 0 then ckFlags none p.fs
  else if p.nd.kind ≠ 3 then 4
  else if ckNeed p.nd ≠ 0 then ckNeed p.nd
  else if (flagsN p.nd).all (fun f => p.fs.contains f) = true then 0 else 5
def beforeP (a b : Pk) : Bool := decide (a.nm < b.nm) || (decide (a.nm = b.nm) && decide (a.ver < b.ver))
def badPk : Option Pk → Pk → Bool
  | none, _ => false
  | some q, p => !beforeP q p
def ckT : Option Pk → Nat → List Pk → Int
  | _, _, [] => 0
  | prev, n, p :: r => if ckPk p ≠ 0 then ckPk p else if badPk prev p = true then 6 else if 14 < n + p.fs.length then 2 else ckT (some p) (n + p.fs.length) r
def ckTree (ps : List Pk) : Int := if 8 < ps.length then 2 else ckT none ps.length ps

/-! ### text -/
/-! ### reading -/
def cut4 (l : W) : Option (W × W × W × W × W) :=
  match cutAt (· == 32) l with
  | none => none
  | some (a, _, l1) => match cutAt (· == 32) l1 with
    | none => none
    | some (b, _, l2) => match cutAt (· == 32) l2 with
      | none => none
      | some (c, _, l3) => match cutAt (· == 32) l3 with
        | none => none
        | some (d, _, e) => some (a, b, c, d, e)
def fsOf (d : W) : List W := if d = [] then [] else splitB 44 d
def parseLine (l : W) : Except Int Pk :=
  match cut4 l with
  | none => .error 1
  | some (a, b, c, d, e) => match number b, number c with
    | some v, some k => if (parseNd e).2 = 1 then .error 1 else if (parseNd e).2 ≠ 0 then .error (parseNd e).2 else .ok ⟨a, v, k, fsOf d, (parseNd e).1⟩
    | _, _ => .error 1
/-- Line by line: what is read, or the line and its error. -/
def parseLines : Nat → Nat → W → Except (Nat × Int) (List Pk)
  | 0, _, _ => .ok []
  | f + 1, i, s => if s = [] then .ok [] else match cutAt (· == 10) s with
    | none => .error (i, 1)
    | some (l, _, rest) => match parseLine l with
      | .error e => .error (i, e)
      | .ok p => match parseLines f (i + 1) rest with
        | .error e => .error e
        | .ok ps => .ok (p :: ps)
def parseTree (s : W) : List Pk × Nat × Int :=
  if 20000 < s.length then ([], 0, 2) else match parseLines (s.length + 1) 0 s with
    | .error (i, e) => ([], i, e)
    | .ok ps => if ckTree ps = 0 then (ps, 0, 0) else ([], 0, ckTree ps)

/-! ### what a right tree is -/
theorem ckT_mem : ∀ {ps : List Pk} {prev : Option Pk} {n : Nat}, ckT prev n ps = 0 → ∀ p ∈ ps, ckPk p = 0
  | [], _, _, _, p, hp => by cases hp
  | q :: r, prev, n, h, p, hp => by
    simp only [ckT] at h
    by_cases h1 : ckPk q = 0
    · rw [if_neg (by simpa using h1)] at h
      split at h
      · cases h
      · split at h
        · cases h
        · rcases List.mem_cons.1 hp with rfl | hp
          · exact h1
          · exact ckT_mem h p hp
    · rw [if_pos h1] at h
      exact absurd h h1
theorem ckTree_mem {ps : List Pk} (h : ckTree ps = 0) : ∀ p ∈ ps, ckPk p = 0 := by
  unfold ckTree at h
  split at h
  · cases h
  · exact ckT_mem h
structure PkOk (p : Pk) : Prop where
  nm : isName p.nm = true
  ver : 1 ≤ p.ver ∧ p.ver ≤ 99
  slot : 1 ≤ p.slot ∧ p.slot ≤ 9
  len : p.fs.length ≤ 2
  fs : ckFlags none p.fs = 0
  kind : p.nd.kind = 3
  nd : ckNeed p.nd = 0
  sub : ∀ f ∈ flagsN p.nd, f ∈ p.fs
theorem pkOk {p : Pk} (h : ckPk p = 0) : PkOk p := by
  unfold ckPk at h
  split at h
  · cases h
  split at h
  · cases h
  split at h
  · cases h
  split at h
  · rename_i h4; exact absurd h h4
  split at h
  · cases h
  split at h
  · rename_i h6; exact absurd h h6
  split at h
  · rename_i h1 h2 h3 h4 h5 h6 h7
    refine ⟨by simpa using h1, by omega, by omega, by omega, by simpa using h4, by simpa using h5, by simpa using h6, fun f hf => ?_⟩
    have := List.all_eq_true.1 h7 f hf
    simpa using this
  · cases h
/-! ### what is printed is read -/
/-! ### and back -/
theorem cut4_back {l a b c d e : W} (h : cut4 l = some (a, b, c, d, e)) : l = a ++ (32 :: b ++ (32 :: c ++ (32 :: d ++ (32 :: e)))) := by
  unfold cut4 at h
  split at h
  · cases h
  · rename_i a' x1 l1 h1
    split at h
    · cases h
    · rename_i b' x2 l2 h2
      split at h
      · cases h
      · rename_i c' x3 l3 h3
        split at h
        · cases h
        · rename_i d' x4 l4 h4
          simp only [Option.some.injEq, Prod.mk.injEq] at h
          obtain ⟨rfl, rfl, rfl, rfl, rfl⟩ := h
          obtain ⟨e1, p1, _⟩ := of_cutAt_some h1
          obtain ⟨e2, p2, _⟩ := of_cutAt_some h2
          obtain ⟨e3, p3, _⟩ := of_cutAt_some h3
          obtain ⟨e4, p4, _⟩ := of_cutAt_some h4
          have p1' : x1 = 32 := by simpa using p1
          have p2' : x2 = 32 := by simpa using p2
          have p3' : x3 = 32 := by simpa using p3
          have p4' : x4 = 32 := by simpa using p4
          subst p1' p2' p3' p4'
          rw [e1, e2, e3, e4]
          simp
end Qm

namespace Qm
open Go

/-! Sorted, and each once: the same members. Flags, step by step. -/

section
variable {α : Type} [Inhabited α] [DecidableEq α]
theorem mem_compactUpTo {d : Array α} {x : α} : ∀ {m : Nat}, m ≤ d.size → (x ∈ Lib.compactUpTo d m ↔ ∃ j, j < m ∧ d[j]! = x)
  | 0, _ => by simp [Lib.compactUpTo]
  | m + 1, h => by
    have ih := mem_compactUpTo (d := d) (x := x) (m := m) (by omega)
    rw [Lib.compactUpTo_succ, List.mem_append, ih]
    by_cases hk : Lib.keeps d m = true
    · rw [if_pos hk, List.mem_singleton]
      constructor
      · rintro (⟨j, hj, rfl⟩ | rfl)
        · exact ⟨j, by omega, rfl⟩
        · exact ⟨m, by omega, rfl⟩
      · rintro ⟨j, hj, rfl⟩
        by_cases hjm : j = m
        · right; rw [hjm]
        · left; exact ⟨j, by omega, rfl⟩
    · rw [if_neg hk]
      have hk' : m ≠ 0 ∧ d[m]! = d[m - 1]! := by
        simp only [Lib.keeps, decide_eq_true_eq, not_or, Decidable.not_not] at hk
        exact hk
      constructor
      · rintro (⟨j, hj, rfl⟩ | h)
        · exact ⟨j, by omega, rfl⟩
        · cases h
      · rintro ⟨j, hj, rfl⟩
        left
        by_cases hjm : j = m
        · exact ⟨m - 1, by omega, by rw [hjm, hk'.2]⟩
        · exact ⟨j, by omega, rfl⟩
theorem mem_compact {l : List α} {x : α} : x ∈ Lib.compact l ↔ x ∈ l := by
  unfold Lib.compact
  rw [mem_compactUpTo (by simp), List.mem_iff_getElem]
  constructor
  · rintro ⟨j, hj, h⟩
    refine ⟨j, hj, ?_⟩
    rw [← h]
    simp [hj]
  · rintro ⟨j, hj, h⟩
    refine ⟨j, hj, ?_⟩
    rw [← h]
    simp [hj]
end
theorem all_mem {α : Type} {a b : List α} (p : α → Bool) (h : ∀ x, x ∈ a ↔ x ∈ b) : a.all p = b.all p := by
  rw [Bool.eq_iff_iff, List.all_eq_true, List.all_eq_true]
  exact ⟨fun k x hx => k x ((h x).2 hx), fun k x hx => k x ((h x).1 hx)⟩

/-- What stands ahead of a place. -/
def prevOf {α : Type} (l : List α) (j : Nat) : Option α := if j = 0 then none else l[j - 1]?
theorem prevOf_zero {α : Type} (l : List α) : prevOf l 0 = none := rfl
theorem prevOf_succ {α : Type} {l : List α} {j : Nat} {x : α} (h : l[j]? = some x) : prevOf l (j + 1) = some x := by unfold prevOf; rw [if_neg (by omega)]; exact h
theorem ckFlags_step {fs : List W} {j : Nat} {f : W} (h : fs[j]? = some f) :
    ckFlags (prevOf fs j) (fs.drop j) = if isName f = false then 1 else if badNext (prevOf fs j) f = true then 6 else ckFlags (prevOf fs (j + 1)) (fs.drop (j + 1)) := by
  rw [prevOf_succ h]
  obtain ⟨hj, rfl⟩ := List.getElem?_eq_some_iff.1 h
  rw [List.drop_eq_getElem_cons hj]
  rfl
theorem ckFlags_done {fs : List W} {j : Nat} (h : fs.length ≤ j) {p : Option W} : ckFlags p (fs.drop j) = 0 := by
  rw [List.drop_eq_nil_of_le h]; rfl
theorem ckT_step {ps : List Pk} {j n : Nat} {p : Pk} (h : ps[j]? = some p) :
    ckT (prevOf ps j) n (ps.drop j) = if ckPk p ≠ 0 then ckPk p else if badPk (prevOf ps j) p = true then 6 else if 14 < n + p.fs.length then 2 else ckT (prevOf ps (j + 1)) (n + p.fs.length) (ps.drop (j + 1)) := by
  rw [prevOf_succ h]
  obtain ⟨hj, rfl⟩ := List.getElem?_eq_some_iff.1 h
  rw [List.drop_eq_getElem_cons hj]
  rfl
theorem ckT_done {ps : List Pk} {j n : Nat} (h : ps.length ≤ j) {p : Option Pk} : ckT p n (ps.drop j) = 0 := by
  rw [List.drop_eq_nil_of_le h]; rfl
end Qm

/- What an atom asks of a version and a slot, in plain words. -/
namespace Go.Proofs.YtpipgffbhpnmkaaGreatDoor
open Go.RowKit Qm
def fitsP (a : At) (v sl : Int) : Bool :=
  if a.slot ≠ 0 ∧ a.slot ≠ sl then false
  else if a.op = 1 then decide (v = a.ver) else if a.op = 2 then decide (a.ver ≤ v) else if a.op = 3 then decide (v < a.ver) else true
end Go.Proofs.YtpipgffbhpnmkaaGreatDoor

/- Sets of members, and what may be: in plain words (no program in sight). -/
namespace Go.Proofs.YtpipgffbhpnmkaaGreatDoor
open Go.RowKit Qm

structure Mem where
  pl : Int
  on : List Bool
deriving DecidableEq

/-- The package at a place. -/
def pkOf (ps : List Pk) (i : Int) : Pk := ps.getD i.toNat ⟨[], 0, 0, [], Nd.zero⟩
def badPl : Option Int → Int → Bool
  | none, _ => false
  | some q, p => decide (p ≤ q)
def ckMs (ps : List Pk) : Option Int → List Mem → Int
  | _, [] => 0
  | prev, m :: r => if m.pl < 0 ∨ (ps.length : Int) ≤ m.pl then 5 else if badPl prev m.pl = true then 6 else if m.on.length ≠ (pkOf ps m.pl).fs.length then 4 else ckMs ps (some m.pl) r
def ckSet (ps : List Pk) (l : List Mem) : Int := if ckTree ps ≠ 0 then ckTree ps else ckMs ps none l

theorem ckMs_step {ps : List Pk} {l : List Mem} {j : Nat} {m : Mem} (h : l[j]? = some m) :
    ckMs ps (prevOf (l.map Mem.pl) j) (l.drop j) = if m.pl < 0 ∨ (ps.length : Int) ≤ m.pl then 5 else if badPl (prevOf (l.map Mem.pl) j) m.pl = true then 6 else if m.on.length ≠ (pkOf ps m.pl).fs.length then 4 else ckMs ps (prevOf (l.map Mem.pl) (j + 1)) (l.drop (j + 1)) := by
  rw [prevOf_succ (l := l.map Mem.pl) (x := m.pl) (by rw [List.getElem?_map, h]; rfl)]
  obtain ⟨hj, rfl⟩ := List.getElem?_eq_some_iff.1 h
  rw [List.drop_eq_getElem_cons hj]
  rfl
theorem ckMs_done {ps : List Pk} {l : List Mem} {j : Nat} (h : l.length ≤ j) {p : Option Int} : ckMs ps p (l.drop j) = 0 := by
  rw [List.drop_eq_nil_of_le h]; rfl
/-- A right member. -/
def MemOk (ps : List Pk) (m : Mem) : Prop := 0 ≤ m.pl ∧ m.pl < ps.length ∧ m.on.length = (pkOf ps m.pl).fs.length
theorem ckMs_mem {ps : List Pk} : ∀ {l : List Mem} {prev : Option Int}, ckMs ps prev l = 0 → ∀ m ∈ l, MemOk ps m
  | [], _, _, m, hm => by cases hm
  | x :: r, prev, h, m, hm => by
    simp only [ckMs] at h
    split at h
    · cases h
    · rename_i h1
      split at h
      · cases h
      · split at h
        · cases h
        · rename_i h3
          rcases List.mem_cons.1 hm with rfl | hm
          · exact ⟨by omega, by omega, by simpa using h3⟩
          · exact ckMs_mem h m hm
/-- Right members rise. -/
theorem ckMs_rises {ps : List Pk} : ∀ {l : List Mem} {prev : Option Int}, ckMs ps prev l = 0 → (∀ q, prev = some q → ∀ m ∈ l, q < m.pl) ∧ (l.map Mem.pl).Pairwise (· < ·)
  | [], _, _ => ⟨fun _ _ m hm => (by cases hm), List.Pairwise.nil⟩
  | x :: r, prev, h => by
    simp only [ckMs] at h
    split at h
    · cases h
    · split at h
      · cases h
      · rename_i h2
        split at h
        · cases h
        · obtain ⟨i1, i2⟩ := ckMs_rises h
          have hx : ∀ q, prev = some q → q < x.pl := fun q hq => by
            subst hq
            simp only [badPl, decide_eq_true_eq] at h2
            omega
          refine ⟨fun q hq m hm => ?_, ?_⟩
          · rcases List.mem_cons.1 hm with rfl | hm
            · exact hx q hq
            · exact Int.lt_trans (hx q hq) (i1 _ rfl m hm)
          · rw [List.map_cons, List.pairwise_cons]
            refine ⟨fun b hb => ?_, i2⟩
            obtain ⟨m, hm, rfl⟩ := List.mem_map.1 hb
            exact i1 _ rfl m hm
/-! ### what an atom asks of a member -/
def ixOf (f : Qm.W) : List Qm.W → Option Nat
  | [] => none
  | g :: r => if g = f then some 0 else (ixOf f r).map (· + 1)
def onOf (on : List Bool) (k : Nat) : Bool := on.getD k false
def flagIs (p : Pk) (m : Mem) (a : At) : Bool := match ixOf a.fl p.fs with
  | some k => onOf m.on k == a.on
  | none => false
def isA (ps : List Pk) (m : Mem) (a : At) : Bool :=
  decide ((pkOf ps m.pl).nm = a.nm) && (fitsP a (pkOf ps m.pl).ver (pkOf ps m.pl).slot && (decide (a.fl = []) || flagIs (pkOf ps m.pl) m a))
theorem ixOf_lt {f : Qm.W} : ∀ {l : List Qm.W} {k : Nat}, ixOf f l = some k → k < l.length
  | [], k, h => by cases h
  | g :: r, k, h => by
    simp only [ixOf] at h
    split at h
    · simp only [Option.some.injEq] at h; subst h; simp
    · cases hr : ixOf f r with
      | none => rw [hr] at h; cases h
      | some j =>
        rw [hr] at h
        simp only [Option.map_some, Option.some.injEq] at h
        have := ixOf_lt hr
        simp only [List.length_cons]; omega
theorem ixOf_none {f : Qm.W} : ∀ {l : List Qm.W}, ixOf f l = none ↔ f ∉ l
  | [] => by simp [ixOf]
  | g :: r => by
    simp only [ixOf]
    by_cases hg : g = f
    · rw [if_pos hg]; simp [hg]
    · rw [if_neg hg]
      have := ixOf_none (f := f) (l := r)
      simp only [Option.map_eq_none_iff, List.mem_cons, not_or, this]
      exact ⟨fun h => ⟨fun e => hg e.symm, h⟩, fun h => h.2⟩

/-! ### whether a need holds -/
def blockB (q : Mem → Bool) (k : Nat) : Nat → List Mem → Bool
  | _, [] => true
  | i, m :: r => if i ≠ k ∧ q m = true then false else blockB q k (i + 1) r
def ifOff (ps : List Pk) (m : Mem) (f : Qm.W) (no : Bool) : Bool := match ixOf f (pkOf ps m.pl).fs with
  | some j => onOf m.on j == no
  | none => false
mutual
def holdsN (ps : List Pk) (l : List Mem) (k : Nat) (me : Mem) : Nd → Bool
  | .mk kd a f no ks =>
    if kd = 1 then l.any (fun m => isA ps m a)
    else if kd = 2 then blockB (fun m => isA ps m a) k 0 l
    else if kd = 4 then someN ps l k me ks
    else if kd = 5 ∧ ifOff ps me f no = true then true
    else allN ps l k me ks
def someN (ps : List Pk) (l : List Mem) (k : Nat) (me : Mem) : List Nd → Bool
  | [] => false
  | x :: r => holdsN ps l k me x || someN ps l k me r
def allN (ps : List Pk) (l : List Mem) (k : Nat) (me : Mem) : List Nd → Bool
  | [] => true
  | x :: r => holdsN ps l k me x && allN ps l k me r
end
theorem someN_eq {ps : List Pk} {l : List Mem} {k : Nat} {me : Mem} : ∀ {ks : List Nd}, someN ps l k me ks = ks.any (holdsN ps l k me)
  | [] => rfl
  | x :: r => by rw [someN, someN_eq, List.any_cons]
theorem allN_eq {ps : List Pk} {l : List Mem} {k : Nat} {me : Mem} : ∀ {ks : List Nd}, allN ps l k me ks = ks.all (holdsN ps l k me)
  | [] => rfl
  | x :: r => by rw [allN, allN_eq, List.all_cons]

def memAt (l : List Mem) (k : Nat) : Mem := l.getD k ⟨0, []⟩
def holdsAt (ps : List Pk) (l : List Mem) (k : Nat) : Bool := holdsN ps l k (memAt l k) (pkOf ps (memAt l k).pl).nd
/-! ### wishes -/
structure Ws where
  ts : List At
  ins : List Mem
  ms : List Int
  on : List (Int × Int)
/-! ### less is asked -/
end Go.Proofs.YtpipgffbhpnmkaaGreatDoor

/- Plain: which one comes to which, in one step or more; Warshall's rounds; a plan. No program in sight. -/
namespace Qm

inductive Comes (e : Nat → Nat → Bool) : Nat → Nat → Prop
  | one {i j : Nat} : e i j = true → Comes e i j
  | more {i j k : Nat} : e i j = true → Comes e j k → Comes e i k
theorem Comes.trans {e : Nat → Nat → Bool} {i j k : Nat} (h : Comes e i j) (h2 : Comes e j k) : Comes e i k := by
  induction h with
  | one h => exact .more h h2
  | more h _ ih => exact .more h (ih h2)

/-- Warshall: with the first k as stations. -/
def RB (e : Nat → Nat → Bool) : Nat → Nat → Nat → Bool
  | 0, a, b => e a b
  | k + 1, a, b => RB e k a b || (RB e k a k && RB e k k b)
theorem RB_row {e : Nat → Nat → Bool} {k a : Nat} : RB e (k + 1) a k = RB e k a k := by
  simp only [RB]; cases RB e k a k <;> simp
theorem RB_col {e : Nat → Nat → Bool} {k b : Nat} : RB e (k + 1) k b = RB e k k b := by
  simp only [RB]; cases RB e k k b <;> simp
theorem Comes.lt {e : Nat → Nat → Bool} {n : Nat} (hn : ∀ i j, e i j = true → i < n ∧ j < n) {a b : Nat} (h : Comes e a b) : a < n ∧ b < n := by
  induction h with
  | one h => exact hn _ _ h
  | more h _ ih => exact ⟨(hn _ _ h).1, ih.2⟩
/-- A set that holds all that comes next, and not the goal. -/
theorem Comes.shut {e : Nat → Nat → Bool} {K : Nat → Prop} {a b : Nat} (h : Comes e a b) (h1 : ∀ j, e a j = true → j ≠ b ∧ K j) (h2 : ∀ i, K i → ∀ j, e i j = true → j ≠ b ∧ K j) : False := by
  have : ∀ i b, Comes e i b → (∀ j, e i j = true → j ≠ b ∧ K j) → (∀ i, K i → ∀ j, e i j = true → j ≠ b ∧ K j) → False := by
    intro i b h
    induction h with
    | one h => intro h1 _; exact (h1 _ h).1 rfl
    | more h _ ih => intro h1 h2; exact ih (fun j hj => h2 _ (h1 _ h).2 j hj) h2
  exact this a b h h1 h2

/-! ### a plan -/
def readyB (r : Nat → Nat → Bool) (n : Nat) (done : Nat → Bool) (k : Nat) : Bool := (List.range n).all fun i => !(r k i && !r i k && !done i)
def pickO (r : Nat → Nat → Bool) (n : Nat) (done : Nat → Bool) : Option Nat := (List.range n).find? fun i => !done i && readyB r n done i
def loopsB (r : Nat → Nat → Bool) (n : Nat) (old : Nat → Bool) (i : Nat) : Bool := (List.range n).any fun k => decide (k ≠ i) && !old k && r i k && r k i
structure PSt where
  done : Nat → Bool
  num : Nat → Nat
  cyc : Nat
def ringB (r : Nat → Nat → Bool) (i k : Nat) : Bool := decide (k = i) || (r i k && r k i)
def stepP (r : Nat → Nat → Bool) (n : Nat) (old : Nat → Bool) (s : PSt) (i : Nat) : PSt :=
  if s.num i = 0 ∧ loopsB r n old i = true then ⟨fun k => decide (k = i) || s.done k, fun k => if ringB r i k = true then s.cyc + 1 else s.num k, s.cyc + 1⟩
  else ⟨fun k => decide (k = i) || s.done k, s.num, s.cyc⟩
theorem stepP_done {r : Nat → Nat → Bool} {n : Nat} {old : Nat → Bool} {s : PSt} {i : Nat} : (stepP r n old s i).done = fun k => decide (k = i) || s.done k := by
  unfold stepP; split <;> rfl
def planGo (r : Nat → Nat → Bool) (n : Nat) (old : Nat → Bool) : Nat → PSt → List (Nat × Nat)
  | 0, _ => []
  | g + 1, s => match pickO r n s.done with
    | none => []
    | some i => (i, (stepP r n old s i).num i) :: planGo r n old g (stepP r n old s i)
def leftO (n : Nat) (done : Nat → Bool) : Nat := ((List.range n).filter fun k => !done k).length

theorem readyB_iff {r : Nat → Nat → Bool} {n : Nat} {done : Nat → Bool} {k : Nat} : readyB r n done k = true ↔ ∀ i, i < n → r k i = true → r i k = false → done i = true := by
  unfold readyB
  rw [List.all_eq_true]
  constructor
  · intro h i hi h1 h2
    have := h i (List.mem_range.2 hi)
    rw [h1, h2] at this
    simpa using this
  · intro h i hi
    have hi := List.mem_range.1 hi
    cases h1 : r k i
    · rfl
    · cases h2 : r i k
      · rw [h i hi h1 h2]; rfl
      · rfl
theorem pickO_some {r : Nat → Nat → Bool} {n : Nat} {done : Nat → Bool} {i : Nat} (h : pickO r n done = some i) : i < n ∧ done i = false ∧ readyB r n done i = true := by
  unfold pickO at h
  have h1 := List.find?_some h
  have h2 := List.mem_range.1 (List.mem_of_find?_eq_some h)
  simp only [Bool.and_eq_true, Bool.not_eq_true'] at h1
  exact ⟨h2, h1.1, h1.2⟩
theorem length_filter_lt {α : Type} {p q : α → Bool} (hpq : ∀ k, p k = true → q k = true) {x : α} (hx : p x = false) (hy : q x = true) : ∀ {l : List α}, x ∈ l → (l.filter p).length < (l.filter q).length
  | y :: l, hm => by
    have hle : ∀ l : List α, (l.filter p).length ≤ (l.filter q).length := by
      intro l
      induction l with
      | nil => exact Nat.le_refl _
      | cons z l ih =>
        simp only [List.filter_cons]
        cases hp : p z
        · cases q z <;> simp <;> omega
        · rw [hpq z hp]; simp; omega
    simp only [List.filter_cons]
    rcases List.mem_cons.1 hm with rfl | hm
    · rw [hx, hy]
      have := hle l
      simp; omega
    · have ih := length_filter_lt hpq hx hy hm
      cases hp : p y
      · cases q y <;> simp <;> omega
      · rw [hpq y hp]; simp; omega
theorem leftO_step {r : Nat → Nat → Bool} {n : Nat} {old : Nat → Bool} {s : PSt} {i : Nat} (h : pickO r n s.done = some i) : leftO n (stepP r n old s i).done < leftO n s.done := by
  obtain ⟨hi, hd, _⟩ := pickO_some h
  unfold leftO
  rw [stepP_done]
  exact length_filter_lt (x := i) (fun k hk => by simp only [Bool.not_eq_true', Bool.or_eq_false_iff] at hk ⊢; exact hk.2) (by simp) (by simp [hd]) (List.mem_range.2 hi)
end Qm

/- Plain: what a plan does: each new one once, what it comes to ahead of it, cycles of two at least. -/
namespace Qm

structure PInv (r : Nat → Nat → Bool) (n : Nat) (old : Nat → Bool) (s : PSt) : Prop where
  od : ∀ k, old k = true → s.done k = true
  eq : ∀ a b, r a b = true → r b a = true → s.num a = s.num b
  two : ∀ a, a < n → old a = false → s.num a ≠ 0 → loopsB r n old a = true
  no : ∀ a, a < n → old a = false → s.done a = true → s.num a = 0 → loopsB r n old a = false
theorem loopsB_iff {r : Nat → Nat → Bool} {n : Nat} {old : Nat → Bool} {i : Nat} : loopsB r n old i = true ↔ ∃ k, k < n ∧ k ≠ i ∧ old k = false ∧ r i k = true ∧ r k i = true := by
  unfold loopsB
  rw [List.any_eq_true]
  constructor
  · rintro ⟨k, hk, h⟩
    simp only [Bool.and_eq_true, decide_eq_true_eq, Bool.not_eq_true'] at h
    exact ⟨k, List.mem_range.1 hk, h.1.1.1, h.1.1.2, h.1.2, h.2⟩
  · rintro ⟨k, hk, h1, h2, h3, h4⟩
    exact ⟨k, List.mem_range.2 hk, by simp [h1, h2, h3, h4]⟩
theorem ringB_iff {r : Nat → Nat → Bool} {i k : Nat} : ringB r i k = true ↔ k = i ∨ (r i k = true ∧ r k i = true) := by
  unfold ringB; simp
section
variable {r : Nat → Nat → Bool} {n : Nat} {old : Nat → Bool} {s : PSt} {i : Nat} (ht : ∀ a b c, r a b = true → r b c = true → r a c = true)
include ht
theorem PInv.step (h : PInv r n old s) (hp : pickO r n s.done = some i) : PInv r n old (stepP r n old s i) ∧ (∀ a, s.num a ≠ 0 → (stepP r n old s i).num a = s.num a) ∧
    (∀ a, a < n → old a = false → s.done a = true → (stepP r n old s i).num a = s.num a) ∧ (loopsB r n old i = true → (stepP r n old s i).num i ≠ 0) := by
  obtain ⟨hi, hd, hr⟩ := pickO_some hp
  have hio : old i = false := by
    cases ho : old i
    · rfl
    · rw [h.od i ho] at hd; cases hd
  by_cases hc : s.num i = 0 ∧ loopsB r n old i = true
  · obtain ⟨h0, hl⟩ := hc
    have hs : stepP r n old s i = ⟨fun k => decide (k = i) || s.done k, fun k => if ringB r i k = true then s.cyc + 1 else s.num k, s.cyc + 1⟩ := by
      unfold stepP; rw [if_pos ⟨h0, hl⟩]
    rw [hs]
    have hring : ∀ a, ringB r i a = true → s.num a = 0 := by
      intro a ha
      rcases ringB_iff.1 ha with rfl | ⟨h1, h2⟩
      · exact h0
      · rw [← h.eq _ _ h1 h2]; exact h0
    refine ⟨⟨fun k hk => ?_, fun a b h1 h2 => ?_, fun a ha hao hn => ?_, fun a ha hao hda hn => ?_⟩, fun a ha => ?_, fun a ha hao hda => ?_, fun _ => ?_⟩
    · show (decide (k = i) || s.done k) = true
      rw [h.od k hk, Bool.or_true]
    · show (if ringB r i a = true then s.cyc + 1 else s.num a) = (if ringB r i b = true then s.cyc + 1 else s.num b)
      have : ringB r i a = true ↔ ringB r i b = true := by
        rw [ringB_iff, ringB_iff]
        constructor
        · rintro (rfl | ⟨g1, g2⟩)
          · exact .inr ⟨h1, h2⟩
          · exact .inr ⟨ht _ _ _ g1 h1, ht _ _ _ h2 g2⟩
        · rintro (rfl | ⟨g1, g2⟩)
          · exact .inr ⟨h2, h1⟩
          · exact .inr ⟨ht _ _ _ g1 h2, ht _ _ _ h1 g2⟩
      by_cases hra : ringB r i a = true
      · rw [if_pos hra, if_pos (this.1 hra)]
      · rw [if_neg hra, if_neg (fun hb => hra (this.2 hb))]
        exact h.eq _ _ h1 h2
    · dsimp only at hn
      by_cases hra : ringB r i a = true
      · rcases ringB_iff.1 hra with rfl | ⟨g1, g2⟩
        · exact hl
        · by_cases hai : a = i
          · subst hai; exact hl
          · exact loopsB_iff.2 ⟨i, hi, fun e => hai e.symm, hio, g2, g1⟩
      · rw [if_neg hra] at hn
        exact h.two a ha hao hn
    · dsimp only at hn hda
      by_cases hra : ringB r i a = true
      · rw [if_pos hra] at hn; omega
      · rw [if_neg hra] at hn
        have hai : a ≠ i := fun e => hra (ringB_iff.2 (.inl e))
        simp only [Bool.or_eq_true, decide_eq_true_eq] at hda
        exact h.no a ha hao (hda.resolve_left hai) hn
    · show (if ringB r i a = true then s.cyc + 1 else s.num a) = s.num a
      rw [if_neg (fun hra => ha (hring a hra))]
    · show (if ringB r i a = true then s.cyc + 1 else s.num a) = s.num a
      by_cases hra : ringB r i a = true
      · exfalso
        have hai : a ≠ i := fun e => by rw [e, hd] at hda; cases hda
        have := h.no a ha hao hda (hring a hra)
        rw [loopsB_iff.2 ⟨i, hi, fun e => hai e.symm, hio, ((ringB_iff.1 hra).resolve_left hai).2, ((ringB_iff.1 hra).resolve_left hai).1⟩] at this
        cases this
      · rw [if_neg hra]
    · show (if ringB r i i = true then s.cyc + 1 else s.num i) ≠ 0
      rw [if_pos (ringB_iff.2 (.inl rfl))]; omega
  · have hs : stepP r n old s i = ⟨fun k => decide (k = i) || s.done k, s.num, s.cyc⟩ := by
      unfold stepP; rw [if_neg hc]
    rw [hs]
    refine ⟨⟨fun k hk => ?_, h.eq, h.two, fun a ha hao hda hn => ?_⟩, fun a _ => rfl, fun a _ _ _ => rfl, fun hl hn => hc ⟨hn, hl⟩⟩
    · show (decide (k = i) || s.done k) = true
      rw [h.od k hk, Bool.or_true]
    · by_cases hai : a = i
      · subst hai
        cases hl : loopsB r n old a
        · rfl
        · exact absurd ⟨hn, hl⟩ hc
      · simp only [Bool.or_eq_true, decide_eq_true_eq] at hda
        exact h.no a ha hao (hda.resolve_left hai) hn
end
end Qm

/- What a member leans on, and what makes a set: in plain words (no program in sight). -/
namespace Go.Proofs.YtpipgffbhpnmkaaGreatDoor
open Go.RowKit Qm

/-! ### what a member's needs want now -/
mutual
def asksN (ps : List Pk) (me : Mem) : Nd → List At
  | .mk kd a f no ks => if kd = 1 then [a] else if kd = 5 ∧ ifOff ps me f no = true then [] else asksL ps me ks
def asksL (ps : List Pk) (me : Mem) : List Nd → List At
  | [] => []
  | x :: r => asksN ps me x ++ asksL ps me r
end
theorem asksL_eq {ps : List Pk} {me : Mem} : ∀ {ks : List Nd}, asksL ps me ks = (ks.map (asksN ps me)).flatten
  | [] => rfl
  | x :: r => by rw [asksL, asksL_eq, List.map_cons, List.flatten_cons]
theorem asksL_any {ps : List Pk} {me : Mem} {q : At → Bool} : ∀ {ks : List Nd}, (asksL ps me ks).any q = ks.any fun x => (asksN ps me x).any q
  | [] => rfl
  | x :: r => by rw [asksL, List.any_append, asksL_any, List.any_cons]
/-- Whether some of a member's needs may be met by another one. -/
def leanB (ps : List Pk) (l : List Mem) (i k : Nat) : Bool := (asksN ps (memAt l i) (pkOf ps (memAt l i).pl).nd).any fun a => isA ps (memAt l k) a
def leansAt (ps : List Pk) (l : List Mem) (i : Nat) : List Nat := (List.range l.length).filter (leanB ps l i)
def leansL (ps : List Pk) (l : List Mem) : List (List Int) := (List.range l.length).map fun i => (leansAt ps l i).map fun (k : Nat) => (k : Int)
def edgeB (ps : List Pk) (l : List Mem) (i k : Nat) : Bool := decide (i < l.length) && (decide (k < l.length) && leanB ps l i k)
def reachB (ps : List Pk) (l : List Mem) : Nat → Nat → Bool := RB (edgeB ps l) l.length
theorem mem_leansAt {ps : List Pk} {l : List Mem} {i k : Nat} : k ∈ leansAt ps l i ↔ k < l.length ∧ leanB ps l i k = true := by
  unfold leansAt; rw [List.mem_filter, List.mem_range]
theorem edge_iff {ps : List Pk} {l : List Mem} {i k : Nat} (hi : i < l.length) : edgeB ps l i k = true ↔ k ∈ leansAt ps l i := by
  rw [mem_leansAt]; unfold edgeB; simp [hi]

/-! ### a plan -/
structure Ac where
  out : Bool
  m : Mem
  cyc : Int
def keyOfM (ps : List Pk) (m : Mem) : Qm.W × Int := ((pkOf ps m.pl).nm, (pkOf ps m.pl).slot)
def sameKey (ps : List Pk) (a b : Mem) : Bool := decide ((pkOf ps b.pl).nm = (pkOf ps a.pl).nm) && decide ((pkOf ps b.pl).slot = (pkOf ps a.pl).slot)
def goneL (ps : List Pk) (there l : List Mem) : List Mem := there.filter fun m => !l.any (sameKey ps m)
def oldB (there l : List Mem) (i : Nat) : Bool := there.any fun o => decide (memAt l i = o)
def planN (ps : List Pk) (there l : List Mem) : List (Nat × Nat) := planGo (reachB ps l) l.length (oldB there l) (l.length + 1) ⟨oldB there l, fun _ => 0, 0⟩
def planL (ps : List Pk) (there l : List Mem) : List Ac := (goneL ps there l).map (fun m => ⟨true, m, 0⟩) ++ (planN ps there l).map fun q => ⟨false, memAt l q.1, (q.2 : Int)⟩
def planE (ps : List Pk) (there l : List Mem) : Int := if ckSet ps l ≠ 0 then ckSet ps l else ckSet ps there

theorem leftO_le {n : Nat} {done : Nat → Bool} : leftO n done ≤ n := by
  unfold leftO
  have := List.length_filter_le (fun k => !done k) (List.range n)
  simpa using this
end Go.Proofs.YtpipgffbhpnmkaaGreatDoor
