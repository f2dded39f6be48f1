/- Parts of the proof: walks and plain laws, side by side. -/
import Derived.Test.YtedbhlgjcnnknaaGreatDoorM3
import Derived.Lib.Split
import Derived.Lib.Join
import Derived.Lib.IndexBytes
import Derived.Lib.SlicesCompact
import Derived.WalkKit
set_option linter.unusedVariables false
set_option linter.unusedSimpArgs false
set_option linter.unusedSectionVars false
namespace Qm
open Go

/-! Needs: what is printed is read, and what is read is printed as it was. -/

/-! ### joining and splitting -/
theorem splitGo_none {c : UInt8} : ∀ {l acc : W}, (∀ x ∈ l, x ≠ c) → splitGo c acc l = [acc ++ l]
 | [], acc, _ => by simp [splitGo]
 | x :: r, acc, h => by
  rw [splitGo, if_neg (h x (List.mem_cons_self ..)), splitGo_none fun y hy => h y (List.mem_cons_of_mem _ hy)]
  simp
theorem splitGo_some {c : UInt8} {r : W} : ∀ {l acc : W}, (∀ x ∈ l, x ≠ c) → splitGo c acc (l ++ c :: r) = (acc ++ l) :: splitGo c [] r
 | [], acc, _ => by simp [splitGo]
 | x :: l, acc, h => by
  rw [List.cons_append, splitGo, if_neg (h x (List.mem_cons_self ..)), splitGo_some fun y hy => h y (List.mem_cons_of_mem _ hy)]
  simp
/-! ### what stands in an atom's text -/
def plainB (c : UInt8) : Bool := c != 32 && c != 33 && c != 40 && c != 41 && c != 63 && c != 124 && c != 10 && c != 44
theorem low_plain {c : UInt8} (h : lowB c = true ∨ digB c = true) : plainB c = true := by
 have h' : (97 ≤ c.toNat ∧ c.toNat ≤ 122) ∨ (48 ≤ c.toNat ∧ c.toNat ≤ 57) := by simpa [lowB, digB] using h
 have k : ∀ d : UInt8, d.toNat < 48 ∨ (57 < d.toNat ∧ d.toNat < 97) ∨ 122 < d.toNat → (c != d) = true := by
  intro d hd
  rw [bne_iff_ne]
  rintro rfl
  omega
 unfold plainB
 rw [k 32 (by decide), k 33 (by decide), k 40 (by decide), k 41 (by decide), k 63 (by decide), k 124 (by decide), k 10 (by decide), k 44 (by decide)]; rfl
theorem name_plain {l : W} (h : isName l = true) : ∀ c ∈ l, plainB c = true := fun c hc => low_plain (isName_mem h c hc)
theorem text_plain {a : At} (h : ckAtom a = 0) : ∀ c ∈ textOf a, plainB c = true := by
 have hk := atOk h
 intro c hc
 unfold textOf at hc
 rcases List.mem_append.1 hc with hc | hc
 ·rcases List.mem_append.1 hc with hc | hc
  ·rcases List.mem_append.1 hc with hc | hc
   ·exact name_plain hk.nm c hc
   ·split at hc
    ·rename_i h0
     rcases List.mem_append.1 hc with hc | hc
     ·have : c = 61 ∨ c = 62 ∨ c = 60 := by
       unfold opText at hc
       split at hc
       ·simp at hc; exact .inl hc
       ·split at hc
        ·simp at hc; rcases hc with hc | hc
         ·exact .inr (.inl hc)
         ·exact .inl hc
        ·split at hc
         ·simp at hc; exact .inr (.inr hc)
         ·cases hc
      rcases this with rfl | rfl | rfl <;> decide
     ·exact low_plain (.inr (itoa_mem (by have := hk.some h0; omega) c hc))
    ·cases hc
  ·split at hc
   ·rcases List.mem_cons.1 hc with rfl | hc
    ·decide
    ·exact low_plain (.inr (itoa_mem (by omega) c hc))
   ·cases hc
 ·split at hc
  ·rename_i h0
   rcases List.mem_cons.1 hc with rfl | hc
   ·split <;> decide
   ·exact name_plain (hk.fl h0) c hc
  ·cases hc
theorem text_ne {a : At} (h : ckAtom a = 0) : ∃ c r, textOf a = c :: r ∧ plainB c = true := by
 have hl := (isName_len (atOk h).nm).1
 have hp := text_plain h
 have : textOf a ≠ [] := by
  intro e
  unfold textOf at e
  simp only [List.append_assoc, List.append_eq_nil_iff] at e
  rw [e.1] at hl; simp at hl
 cases e : textOf a with
 | nil => exact absurd e this
 | cons c r => rw [e] at hp; exact ⟨c, r, rfl, hp c (List.mem_cons_self ..)⟩
/-! ### what is printed is read -/
theorem words_ne : ∀ (n : Nd), wordsN n ≠ []
 | .mk k a f no ks => by
  unfold wordsN
  split
  ·simp
  ·split <;> simp
/-! ### and back -/
theorem leaf_of_parse {t : W} {x : At} (h : (parseAt t).2 = 0) (hx : (parseAt t).1 = x) : ckAtom x = 0 ∧ textOf x = t := parse_back (by rw [← hx, ← h])
theorem cut_bang {s t : W} {b : Bool} (h : cutBang s = (t, b)) : s = if b then 33 :: t else t := by
 cases s with
 | nil => simp [cutBang] at h; obtain ⟨rfl, rfl⟩ := h; rfl
 | cons c r =>
  by_cases hc : c = 33
  ·rw [cutBang, if_pos hc, Prod.mk.injEq] at h
   obtain ⟨rfl, rfl⟩ := h; simp [hc]
  ·rw [cutBang, if_neg hc, Prod.mk.injEq] at h
   obtain ⟨rfl, rfl⟩ := h; simp

theorem of_readKids {rd : List W → Option (Nd × List W)} {d : Nat} (hrd : ∀ ws n r, rd ws = some (n, r) → ws = wordsN n ++ r ∧ ckNd n = 0 ∧ n.deep ≤ d) :
  ∀ {f : Nat} {ws : List W} {ks : List Nd} {r : List W}, readKids rd f ws = some (ks, r) → ws = wordsL ks ++ r ∧ ckKids ks = 0 ∧ deepL ks ≤ d
 | 0, _, _, _, h => by simp [readKids] at h
 | f + 1, [], ks, r, h => by
  simp only [readKids, Option.some.injEq, Prod.mk.injEq] at h
  obtain ⟨rfl, rfl⟩ := h
  simp [wordsL, ckKids, deepL]
 | f + 1, w :: ws, ks, r, h => by
  unfold readKids at h
  simp only [] at h
  split at h
  ·simp only [Option.some.injEq, Prod.mk.injEq] at h
   obtain ⟨rfl, rfl⟩ := h
   simp [wordsL, ckKids, deepL]
  ·split at h
   ·cases h
   ·rename_i k ws' hk
    split at h
    ·cases h
    ·rename_i ks' ws'' hks
     simp only [Option.some.injEq, Prod.mk.injEq] at h
     obtain ⟨rfl, rfl⟩ := h
     obtain ⟨e1, c1, d1⟩ := hrd _ _ _ hk
     obtain ⟨e2, c2, d2⟩ := of_readKids hrd hks
     refine ⟨?_, ?_, ?_⟩
     ·rw [e1, e2]; simp [wordsL]
     ·simp only [ckKids]; rw [if_pos c1]; exact c2
     ·simp only [deepL]; exact Nat.max_le.2 ⟨d1, d2⟩

theorem of_readBody {rd : List W → Option (Nd × List W)} {d : Nat} (hrd : ∀ ws n r, rd ws = some (n, r) → ws = wordsN n ++ r ∧ ckNd n = 0 ∧ n.deep ≤ d) {k : Int} {fl : W} {no : Bool} {ws : List W} {n : Nd} {r : List W}
  (h : readBody rd k fl no ws = some (n, r)) : ∃ ks, n = .mk k At.zero fl no ks ∧ ws = wordsL ks ++ [41] :: r ∧ ckKids ks = 0 ∧ deepL ks ≤ d := by
 unfold readBody at h
 cases hk : readKids rd (ws.length + 1) ws with
 | none => rw [hk] at h; cases h
 | some q =>
  obtain ⟨ks, ws'⟩ := q
  rw [hk] at h
  obtain ⟨e1, c1, d1⟩ := of_readKids hrd hk
  unfold closeB at h
  cases ws' with
  | nil => cases h
  | cons w ws'' =>
   simp only [] at h
   split at h
   ·rename_i hw
    simp only [Option.some.injEq, Prod.mk.injEq] at h
    obtain ⟨rfl, rfl⟩ := h
    subst hw
    exact ⟨ks, rfl, e1, c1, d1⟩
   ·cases h
theorem of_openB {rd : List W → Option (Nd × List W)} {d : Nat} (hrd : ∀ ws n r, rd ws = some (n, r) → ws = wordsN n ++ r ∧ ckNd n = 0 ∧ n.deep ≤ d) {k : Int} {fl : W} {no : Bool} {ws : List W} {n : Nd} {r : List W}
  (h : openB rd k fl no ws = some (n, r)) : ∃ ks, n = .mk k At.zero fl no ks ∧ ws = [40] :: (wordsL ks ++ [41] :: r) ∧ ckKids ks = 0 ∧ deepL ks ≤ d := by
 cases ws with
 | nil => cases h
 | cons w ws' =>
  have h' : (if w = [40] then readBody rd k fl no ws' else none) = some (n, r) := h
  by_cases hw : w = [40]
  ·rw [if_pos hw] at h'
   obtain ⟨ks, e0, e1, e2⟩ := of_readBody hrd h'
   exact ⟨ks, e0, by rw [hw, e1], e2⟩
  ·rw [if_neg hw] at h'; cases h'

theorem of_readN : ∀ (d : Nat) (ws : List W) (n : Nd) (r : List W), readN d ws = some (n, r) → ws = wordsN n ++ r ∧ ckNd n = 0 ∧ n.deep ≤ d
 | 0, _, _, _, h => by cases h
 | d + 1, ws, n, r, h => by
  have hrd := of_readN d
  have hne : ws ≠ [] := by
   rintro rfl
   have h' : readS (readN d) [] [] = some (n, r) := h
   clear h
   have h := h'
   rw [readS, if_neg (by simp), if_neg (by simp), if_neg (by simp)] at h
   unfold leafB at h
   by_cases h0 : (parseAt []).2 = 0
   ·obtain ⟨h1, h2⟩ := leaf_of_parse h0 rfl
    obtain ⟨c, r, e, _⟩ := text_ne h1
    rw [h2] at e; cases e
   ·have h' : (if (parseAt []).2 = 0 then _ else none) = some (n, r) := h
    rw [if_neg h0] at h'; cases h'
  cases ws with
  | nil => exact absurd rfl hne
  | cons s t =>
   rw [readN_cons] at h
   unfold readS at h
   split at h
   ·rename_i hs
    obtain ⟨ks, rfl, e1, e2, e3⟩ := of_readBody hrd h
    refine ⟨?_, ?_, by simp only [Nd.deep]; omega⟩
    ·rw [hs, e1]; simp [wordsN, headW]
    ·simp [ckNd, leafK, e2]
   ·split at h
    ·rename_i hs
     obtain ⟨ks, rfl, e1, e2, e3⟩ := of_openB hrd h
     refine ⟨?_, ?_, by simp only [Nd.deep]; omega⟩
     ·rw [hs, e1]; simp [wordsN, headW]
     ·simp [ckNd, leafK, e2]
    ·split at h
     ·rename_i hs
      split at h
      ·rename_i hn
       obtain ⟨ks, rfl, e1, e2, e3⟩ := of_openB hrd h
       have hc := cut_bang (s := s.dropLast) (t := (cutBang s.dropLast).1) (b := (cutBang s.dropLast).2) rfl
       have hsd : s = s.dropLast ++ [63] := by
        cases s with
        | nil => simp at hs
        | cons x y =>
         have h1 := List.dropLast_concat_getLast (l := x :: y) (by simp)
         rw [List.getLast?_eq_some_getLast (by simp)] at hs
         simp only [Option.some.injEq] at hs
         rw [hs] at h1
         exact h1.symm
       refine ⟨?_, ?_, by simp only [Nd.deep]; omega⟩
       ·simp only [wordsN, headW, show ((5 : Int) = 1) = False by simp, show ((5 : Int) = 2) = False by simp, show ((5 : Int) = 4) = False by simp, if_false, if_true]
        rw [e1]
        simp only [List.cons_append, List.nil_append, List.append_assoc]
        congr 1
        generalize (cutBang s.dropLast).1 = q1 at *
        generalize (cutBang s.dropLast).2 = q2 at *
        rw [hsd, hc]
        cases q2 <;> simp
       ·simp [ckNd, leafK, e2, hn]
      ·cases h
     ·unfold leafB at h
      split at h
      ·rename_i h0
       simp only [Option.some.injEq, Prod.mk.injEq] at h
       obtain ⟨rfl, rfl⟩ := h
       obtain ⟨h1, h2⟩ := leaf_of_parse h0 rfl
       have hc := cut_bang (s := s) (t := (cutBang s).1) (b := (cutBang s).2) rfl
       generalize (cutBang s).1 = q1 at *
       generalize (cutBang s).2 = q2 at *
       refine ⟨?_, ?_, by simp [Nd.deep, deepL]⟩
       ·cases q2
        ·simp [wordsN, prAtom, h1, h2, hc]
        ·simp [wordsN, prAtom, h1, h2, hc]
       ·cases q2 <;> simp [ckNd, leafK, h1]
      ·cases h

/-! ### how long it is -/
theorem ckNeed_zero {n : Nd} (h : ckNeed n = 0) : n.deep ≤ 4 ∧ n.nodes ≤ 20 ∧ ckNd n = 0 := by
 unfold ckNeed at h
 split at h
 ·cases h
 ·rename_i h1
  unfold tooMany at h1
  exact ⟨by omega, by omega, h⟩
end Qm

namespace Qm
open Go

/-! The library's words for splitting and joining, and ours. -/

theorem index_cut (c : UInt8) : ∀ (l : List UInt8), Lib.index l [c] = match cutAt (· == c) l with | none => -1 | some (a, _, _) => (a.length : Int) := by
 intro l
 rw [Lib.index_one]
 induction l with
 | nil => rfl
 | cons b l ih =>
  unfold Lib.indexByte cutAt
  by_cases h : (b == c) = true
  ·simp [h]
  ·simp only [h, Bool.false_eq_true, if_false, ih]
   cases hr : cutAt (· == c) l with
   | none => simp
   | some t =>
    obtain ⟨a, d, e⟩ := t
    simp only [List.length_cons]
    have : ((a.length : Int) == -1) = false := by simp
    rw [this]; simp
theorem splitB_cut {c : UInt8} {l : W} : splitB c l = match cutAt (· == c) l with | none => [l] | some (a, _, d) => a :: splitB c d := by
 cases h : cutAt (· == c) l with
 | none =>
  have := of_cutAt_none h
  unfold splitB
  rw [splitGo_none fun x hx => by have := this x hx; simpa using this]; rfl
 | some t =>
  obtain ⟨a, b, d⟩ := t
  obtain ⟨e, hb, ha⟩ := of_cutAt_some h
  have hb' : b = c := by simpa using hb
  subst hb'
  unfold splitB
  rw [e, splitGo_some fun x hx => by have := ha x hx; simpa using this]; rfl
theorem splitK_eq (c : UInt8) : ∀ (k : Nat) (l : W), Lib.count l [c] ≤ k → Lib.splitK [c] 0 k l = splitB c l
 | k, l, hk => by
  rw [splitB_cut]
  have hi := index_cut c l
  cases h : cutAt (· == c) l with
  | none =>
   rw [h] at hi
   cases k with
   | zero => rfl
   | succ k => unfold Lib.splitK; rw [hi]; rfl
  | some t =>
   obtain ⟨a, b, d⟩ := t
   obtain ⟨e, hb, ha⟩ := of_cutAt_some h
   rw [h] at hi
   simp only [] at hi
   have hc := Lib.count_hit (by simp) hi
   have hd : l.drop (a.length + [c].length) = d := by rw [e]; simp [List.drop_append]
   rw [hd] at hc
   obtain ⟨k, rfl⟩ : ∃ j, k = j + 1 := ⟨k - 1, by omega⟩
   unfold Lib.splitK
   rw [hi]
   have h1 : ((a.length : Int) == -1) = false := by simp
   rw [h1]
   simp only [Bool.false_eq_true, if_false, Int.toNat_natCast, Nat.add_zero]
   rw [hd, splitK_eq c k d (by omega)]
   rw [e]; simp
theorem split_eq (c : UInt8) (l : W) : Lib.split l [c] = splitB c l := splitK_eq c _ l (Nat.le_refl _)
theorem splitB_bytes (c : UInt8) (s s' : ByteArray) : (Lib.splitB s' 0 (Lib.countB s s') s).map (·.data.toList) = splitB c s.data.toList ∨ s'.data.toList ≠ [c] := by
 by_cases h : s'.data.toList = [c]
 ·left
  rw [Lib.splitB_data, h]
  have : Lib.countB s s' = Lib.count s.data.toList [c] := by unfold Lib.countB; rw [h]
  rw [this]; exact split_eq c _
 ·exact .inr h
/-! ### alike -/
/-! ### flags that a need asks -/
mutual
def flagsN : Nd → List W
 | .mk k _ f _ ks => (if k = 5 then [f] else []) ++ flagsL ks
def flagsL : List Nd → List W
 | [] => []
 | k :: r => flagsN k ++ flagsL r
end
theorem flagsL_snoc : ∀ (ks : List Nd) (y : Nd), flagsL (ks ++ [y]) = flagsL ks ++ flagsN y
 | [], y => by simp [flagsL]
 | k :: r, y => by simp only [List.cons_append, flagsL, flagsL_snoc r y, List.append_assoc]
theorem flagsN_le : ∀ (y : Nd), (flagsN y).length ≤ y.nodes := by
 refine Nd.ind fun k a f no ks ih => ?_
 have hL : ∀ {l : List Nd}, (∀ y ∈ l, (flagsN y).length ≤ y.nodes) → (flagsL l).length ≤ nodesL l := by
  intro l
  induction l with
  | nil => intro _; simp [flagsL, nodesL]
  | cons y l ihl =>
   intro hl
   have h1 := hl y (List.mem_cons_self ..)
   have h2 := ihl fun z hz => hl z (List.mem_cons_of_mem _ hz)
   simp only [flagsL, nodesL, List.length_append]; omega
 have := hL ih
 simp only [flagsN, Nd.nodes, List.length_append]
 split <;> simp <;> omega

theorem flagsL_take : ∀ (ks : List Nd) (j : Nat), (flagsL (ks.take j)).length ≤ (flagsL ks).length
 | [], j => by simp [flagsL]
 | k :: r, 0 => by simp [flagsL]
 | k :: r, j + 1 => by
  have := flagsL_take r j
  simp only [List.take_succ_cons, flagsL, List.length_append]; omega
end Qm

namespace Qm
open Go

/-! Trees, in plain words: no program in sight. -/

structure Pk where
 nm : W
 ver : Int
 slot : Int
 fs : List W
 nd : Nd

def badNext : Option W → W → Bool
 | none, _ => false
 | some p, f => decide (f ≤ p)
def ckFlags : Option W → List W → Int
 | _, [] => 0
 | prev, f :: r => if isName f = false then 1 else if badNext prev f = true then 6 else ckFlags (some f) r
def ckPk (p : Pk) : Int :=
 if isName p.nm = false then 1
 else if p.ver < 1 ∨ 99 < p.ver ∨ p.slot < 1 ∨ 9 < p.slot then 3
 else if 2 < p.fs.length then 2
 else if ckFlags none p.fs ≠ 0 then ckFlags none p.fs
 else if p.nd.kind ≠ 3 then 4
 else if ckNeed p.nd ≠ 0 then ckNeed p.nd
 else if (flagsN p.nd).all (fun f => p.fs.contains f) = true then 0 else 5
def beforeP (a b : Pk) : Bool := decide (a.nm < b.nm) || (decide (a.nm = b.nm) && decide (a.ver < b.ver))
def badPk : Option Pk → Pk → Bool
 | none, _ => false
 | some q, p => !beforeP q p
def ckT : Option Pk → Nat → List Pk → Int
 | _, _, [] => 0
 | prev, n, p :: r => if ckPk p ≠ 0 then ckPk p else if badPk prev p = true then 6 else if 14 < n + p.fs.length then 2 else ckT (some p) (n + p.fs.length) r
def ckTree (ps : List Pk) : Int := if 8 < ps.length then 2 else ckT none ps.length ps

/-! ### text -/
/-! ### reading -/
def cut4 (l : W) : Option (W × W × W × W × W) :=
 match cutAt (· == 32) l with
 | none => none
 | some (a, _, l1) => match cutAt (· == 32) l1 with
  | none => none
  | some (b, _, l2) => match cutAt (· == 32) l2 with
   | none => none
   | some (c, _, l3) => match cutAt (· == 32) l3 with
    | none => none
    | some (d, _, e) => some (a, b, c, d, e)
def fsOf (d : W) : List W := if d = [] then [] else splitB 44 d
def parseLine (l : W) : Except Int Pk :=
 match cut4 l with
 | none => .error 1
 | some (a, b, c, d, e) => match number b, number c with
  | some v, some k => if (parseNd e).2 = 1 then .error 1 else if (parseNd e).2 ≠ 0 then .error (parseNd e).2 else .ok ⟨a, v, k, fsOf d, (parseNd e).1⟩
  | _, _ => .error 1
def parseLines : Nat → Nat → W → Except (Nat × Int) (List Pk)
 | 0, _, _ => .ok []
 | f + 1, i, s => if s = [] then .ok [] else match cutAt (· == 10) s with
  | none => .error (i, 1)
  | some (l, _, rest) => match parseLine l with
   | .error e => .error (i, e)
   | .ok p => match parseLines f (i + 1) rest with
    | .error e => .error e
    | .ok ps => .ok (p :: ps)
def parseTree (s : W) : List Pk × Nat × Int :=
 if 20000 < s.length then ([], 0, 2) else match parseLines (s.length + 1) 0 s with
  | .error (i, e) => ([], i, e)
  | .ok ps => if ckTree ps = 0 then (ps, 0, 0) else ([], 0, ckTree ps)

/-! ### what a right tree is -/
theorem ckT_mem : ∀ {ps : List Pk} {prev : Option Pk} {n : Nat}, ckT prev n ps = 0 → ∀ p ∈ ps, ckPk p = 0
 | [], _, _, _, p, hp => by cases hp
 | q :: r, prev, n, h, p, hp => by
  simp only [ckT] at h
  by_cases h1 : ckPk q = 0
  ·rw [if_neg (by simpa using h1)] at h
   split at h
   ·cases h
   ·split at h
    ·cases h
    ·rcases List.mem_cons.1 hp with rfl | hp
     ·exact h1
     ·exact ckT_mem h p hp
  ·rw [if_pos h1] at h
   exact absurd h h1
theorem ckTree_mem {ps : List Pk} (h : ckTree ps = 0) : ∀ p ∈ ps, ckPk p = 0 := by
 unfold ckTree at h
 split at h
 ·cases h
 ·exact ckT_mem h
structure PkOk (p : Pk) : Prop where
 nm : isName p.nm = true
 ver : 1 ≤ p.ver ∧ p.ver ≤ 99
 slot : 1 ≤ p.slot ∧ p.slot ≤ 9
 len : p.fs.length ≤ 2
 fs : ckFlags none p.fs = 0
 kind : p.nd.kind = 3
 nd : ckNeed p.nd = 0
 sub : ∀ f ∈ flagsN p.nd, f ∈ p.fs
theorem pkOk {p : Pk} (h : ckPk p = 0) : PkOk p := by
 unfold ckPk at h
 split at h
 ·cases h
 split at h
 ·cases h
 split at h
 ·cases h
 split at h
 ·rename_i h4; exact absurd h h4
 split at h
 ·cases h
 split at h
 ·rename_i h6; exact absurd h h6
 split at h
 ·rename_i h1 h2 h3 h4 h5 h6 h7
  refine ⟨by simpa using h1, by omega, by omega, by omega, by simpa using h4, by simpa using h5, by simpa using h6, fun f hf => ?_⟩
  have := List.all_eq_true.1 h7 f hf
  simpa using this
 ·cases h
/-! ### what is printed is read -/
/-! ### and back -/
theorem cut4_back {l a b c d e : W} (h : cut4 l = some (a, b, c, d, e)) : l = a ++ (32 :: b ++ (32 :: c ++ (32 :: d ++ (32 :: e)))) := by
 unfold cut4 at h
 split at h
 ·cases h
 ·rename_i a' x1 l1 h1
  split at h
  ·cases h
  ·rename_i b' x2 l2 h2
   split at h
   ·cases h
   ·rename_i c' x3 l3 h3
    split at h
    ·cases h
    ·rename_i d' x4 l4 h4
     simp only [Option.some.injEq, Prod.mk.injEq] at h
     obtain ⟨rfl, rfl, rfl, rfl, rfl⟩ := h
     obtain ⟨e1, p1, _⟩ := of_cutAt_some h1
     obtain ⟨e2, p2, _⟩ := of_cutAt_some h2
     obtain ⟨e3, p3, _⟩ := of_cutAt_some h3
     obtain ⟨e4, p4, _⟩ := of_cutAt_some h4
     have p1' : x1 = 32 := by simpa using p1
     have p2' : x2 = 32 := by simpa using p2
     have p3' : x3 = 32 := by simpa using p3
     have p4' : x4 = 32 := by simpa using p4
     subst p1' p2' p3' p4'
     rw [e1, e2, e3, e4]
     simp
end Qm

namespace Qm
open Go

/-! Sorted, and each once: the same members. Flags, step by step. -/

section
variable {α : Type} [Inhabited α] [DecidableEq α]
theorem mem_compactUpTo {d : Array α} {x : α} : ∀ {m : Nat}, m ≤ d.size → (x ∈ Lib.compactUpTo d m ↔ ∃ j, j < m ∧ d[j]! = x)
 | 0, _ => by simp [Lib.compactUpTo]
 | m + 1, h => by
  have ih := mem_compactUpTo (d := d) (x := x) (m := m) (by omega)
  rw [Lib.compactUpTo_succ, List.mem_append, ih]
  by_cases hk : Lib.keeps d m = true
  ·rw [if_pos hk, List.mem_singleton]
   constructor
   ·rintro (⟨j, hj, rfl⟩ | rfl)
    ·exact ⟨j, by omega, rfl⟩
    ·exact ⟨m, by omega, rfl⟩
   ·rintro ⟨j, hj, rfl⟩
    by_cases hjm : j = m
    ·right; rw [hjm]
    ·left; exact ⟨j, by omega, rfl⟩
  ·rw [if_neg hk]
   have hk' : m ≠ 0 ∧ d[m]! = d[m - 1]! := by
    simp only [Lib.keeps, decide_eq_true_eq, not_or, Decidable.not_not] at hk
    exact hk
   constructor
   ·rintro (⟨j, hj, rfl⟩ | h)
    ·exact ⟨j, by omega, rfl⟩
    ·cases h
   ·rintro ⟨j, hj, rfl⟩
    left
    by_cases hjm : j = m
    ·exact ⟨m - 1, by omega, by rw [hjm, hk'.2]⟩
    ·exact ⟨j, by omega, rfl⟩
theorem mem_compact {l : List α} {x : α} : x ∈ Lib.compact l ↔ x ∈ l := by
 unfold Lib.compact
 rw [mem_compactUpTo (by simp), List.mem_iff_getElem]
 constructor
 ·rintro ⟨j, hj, h⟩
  refine ⟨j, hj, ?_⟩
  rw [← h]
  simp [hj]
 ·rintro ⟨j, hj, h⟩
  refine ⟨j, hj, ?_⟩
  rw [← h]
  simp [hj]
end
theorem all_mem {α : Type} {a b : List α} (p : α → Bool) (h : ∀ x, x ∈ a ↔ x ∈ b) : a.all p = b.all p := by
 rw [Bool.eq_iff_iff, List.all_eq_true, List.all_eq_true]
 exact ⟨fun k x hx => k x ((h x).2 hx), fun k x hx => k x ((h x).1 hx)⟩

def prevOf {α : Type} (l : List α) (j : Nat) : Option α := if j = 0 then none else l[j - 1]?
theorem prevOf_zero {α : Type} (l : List α) : prevOf l 0 = none := rfl
theorem prevOf_succ {α : Type} {l : List α} {j : Nat} {x : α} (h : l[j]? = some x) : prevOf l (j + 1) = some x := by unfold prevOf; rw [if_neg (by omega)]; exact h
theorem ckFlags_step {fs : List W} {j : Nat} {f : W} (h : fs[j]? = some f) :
  ckFlags (prevOf fs j) (fs.drop j) = if isName f = false then 1 else if badNext (prevOf fs j) f = true then 6 else ckFlags (prevOf fs (j + 1)) (fs.drop (j + 1)) := by
 rw [prevOf_succ h]
 obtain ⟨hj, rfl⟩ := List.getElem?_eq_some_iff.1 h
 rw [List.drop_eq_getElem_cons hj]
 rfl
theorem ckFlags_done {fs : List W} {j : Nat} (h : fs.length ≤ j) {p : Option W} : ckFlags p (fs.drop j) = 0 := by
 rw [List.drop_eq_nil_of_le h]; rfl
theorem ckT_step {ps : List Pk} {j n : Nat} {p : Pk} (h : ps[j]? = some p) :
  ckT (prevOf ps j) n (ps.drop j) = if ckPk p ≠ 0 then ckPk p else if badPk (prevOf ps j) p = true then 6 else if 14 < n + p.fs.length then 2 else ckT (prevOf ps (j + 1)) (n + p.fs.length) (ps.drop (j + 1)) := by
 rw [prevOf_succ h]
 obtain ⟨hj, rfl⟩ := List.getElem?_eq_some_iff.1 h
 rw [List.drop_eq_getElem_cons hj]
 rfl
theorem ckT_done {ps : List Pk} {j n : Nat} (h : ps.length ≤ j) {p : Option Pk} : ckT p n (ps.drop j) = 0 := by
 rw [List.drop_eq_nil_of_le h]; rfl
end Qm

/- What an atom asks of a version and a slot, in plain words. -/
namespace Go.Proofs.YtedbhlgjcnnknaaGreatDoor
open Go.RowKit Qm
def fitsP (a : At) (v sl : Int) : Bool :=
 if a.slot ≠ 0 ∧ a.slot ≠ sl then false
 else if a.op = 1 then decide (v = a.ver) else if a.op = 2 then decide (a.ver ≤ v) else if a.op = 3 then decide (v < a.ver) else true
end Go.Proofs.YtedbhlgjcnnknaaGreatDoor

/- Sets of members, and what may be: in plain words (no program in sight). -/
namespace Go.Proofs.YtedbhlgjcnnknaaGreatDoor
open Go.RowKit Qm

structure Mem where
 pl : Int
 on : List Bool
deriving DecidableEq

def pkOf (ps : List Pk) (i : Int) : Pk := ps.getD i.toNat ⟨[], 0, 0, [], Nd.zero⟩
def badPl : Option Int → Int → Bool
 | none, _ => false
 | some q, p => decide (p ≤ q)
def ckMs (ps : List Pk) : Option Int → List Mem → Int
 | _, [] => 0
 | prev, m :: r => if m.pl < 0 ∨ (ps.length : Int) ≤ m.pl then 5 else if badPl prev m.pl = true then 6 else if m.on.length ≠ (pkOf ps m.pl).fs.length then 4 else ckMs ps (some m.pl) r
def ckSet (ps : List Pk) (l : List Mem) : Int := if ckTree ps ≠ 0 then ckTree ps else ckMs ps none l

theorem ckMs_step {ps : List Pk} {l : List Mem} {j : Nat} {m : Mem} (h : l[j]? = some m) :
  ckMs ps (prevOf (l.map Mem.pl) j) (l.drop j) = if m.pl < 0 ∨ (ps.length : Int) ≤ m.pl then 5 else if badPl (prevOf (l.map Mem.pl) j) m.pl = true then 6 else if m.on.length ≠ (pkOf ps m.pl).fs.length then 4 else ckMs ps (prevOf (l.map Mem.pl) (j + 1)) (l.drop (j + 1)) := by
 rw [prevOf_succ (l := l.map Mem.pl) (x := m.pl) (by rw [List.getElem?_map, h]; rfl)]
 obtain ⟨hj, rfl⟩ := List.getElem?_eq_some_iff.1 h
 rw [List.drop_eq_getElem_cons hj]
 rfl
theorem ckMs_done {ps : List Pk} {l : List Mem} {j : Nat} (h : l.length ≤ j) {p : Option Int} : ckMs ps p (l.drop j) = 0 := by
 rw [List.drop_eq_nil_of_le h]; rfl
def MemOk (ps : List Pk) (m : Mem) : Prop := 0 ≤ m.pl ∧ m.pl < ps.length ∧ m.on.length = (pkOf ps m.pl).fs.length
theorem ckMs_mem {ps : List Pk} : ∀ {l : List Mem} {prev : Option Int}, ckMs ps prev l = 0 → ∀ m ∈ l, MemOk ps m
 | [], _, _, m, hm => by cases hm
 | x :: r, prev, h, m, hm => by
  simp only [ckMs] at h
  split at h
  ·cases h
  ·rename_i h1
   split at h
   ·cases h
   ·split at h
    ·cases h
    ·rename_i h3
     rcases List.mem_cons.1 hm with rfl | hm
     ·exact ⟨by omega, by omega, by simpa using h3⟩
     ·exact ckMs_mem h m hm
theorem ckMs_rises {ps : List Pk} : ∀ {l : List Mem} {prev : Option Int}, ckMs ps prev l = 0 → (∀ q, prev = some q → ∀ m ∈ l, q < m.pl) ∧ (l.map Mem.pl).Pairwise (· < ·)
 | [], _, _ => ⟨fun _ _ m hm => (by cases hm), List.Pairwise.nil⟩
 | x :: r, prev, h => by
  simp only [ckMs] at h
  split at h
  ·cases h
  ·split at h
   ·cases h
   ·rename_i h2
    split at h
    ·cases h
    ·obtain ⟨i1, i2⟩ := ckMs_rises h
     have hx : ∀ q, prev = some q → q < x.pl := fun q hq => by
      subst hq
      simp only [badPl, decide_eq_true_eq] at h2
      omega
     refine ⟨fun q hq m hm => ?_, ?_⟩
     ·rcases List.mem_cons.1 hm with rfl | hm
      ·exact hx q hq
      ·exact Int.lt_trans (hx q hq) (i1 _ rfl m hm)
     ·rw [List.map_cons, List.pairwise_cons]
      refine ⟨fun b hb => ?_, i2⟩
      obtain ⟨m, hm, rfl⟩ := List.mem_map.1 hb
      exact i1 _ rfl m hm
/-! ### what an atom asks of a member -/
def ixOf (f : Qm.W) : List Qm.W → Option Nat
 | [] => none
 | g :: r => if g = f then some 0 else (ixOf f r).map (· + 1)
def onOf (on : List Bool) (k : Nat) : Bool := on.getD k false
def flagIs (p : Pk) (m : Mem) (a : At) : Bool := match ixOf a.fl p.fs with
 | some k => onOf m.on k == a.on
 | none => false
def isA (ps : List Pk) (m : Mem) (a : At) : Bool :=
 decide ((pkOf ps m.pl).nm = a.nm) && (fitsP a (pkOf ps m.pl).ver (pkOf ps m.pl).slot && (decide (a.fl = []) || flagIs (pkOf ps m.pl) m a))
theorem ixOf_lt {f : Qm.W} : ∀ {l : List Qm.W} {k : Nat}, ixOf f l = some k → k < l.length
 | [], k, h => by cases h
 | g :: r, k, h => by
  simp only [ixOf] at h
  split at h
  ·simp only [Option.some.injEq] at h; subst h; simp
  ·cases hr : ixOf f r with
   | none => rw [hr] at h; cases h
   | some j =>
    rw [hr] at h
    simp only [Option.map_some, Option.some.injEq] at h
    have := ixOf_lt hr
    simp only [List.length_cons]; omega
theorem ixOf_none {f : Qm.W} : ∀ {l : List Qm.W}, ixOf f l = none ↔ f ∉ l
 | [] => by simp [ixOf]
 | g :: r => by
  simp only [ixOf]
  by_cases hg : g = f
  ·rw [if_pos hg]; simp [hg]
  ·rw [if_neg hg]
   have := ixOf_none (f := f) (l := r)
   simp only [Option.map_eq_none_iff, List.mem_cons, not_or, this]
   exact ⟨fun h => ⟨fun e => hg e.symm, h⟩, fun h => h.2⟩

/-! ### whether a need holds -/
def blockB (q : Mem → Bool) (k : Nat) : Nat → List Mem → Bool
 | _, [] => true
 | i, m :: r => if i ≠ k ∧ q m = true then false else blockB q k (i + 1) r
def ifOff (ps : List Pk) (m : Mem) (f : Qm.W) (no : Bool) : Bool := match ixOf f (pkOf ps m.pl).fs with
 | some j => onOf m.on j == no
 | none => false
mutual
def holdsN (ps : List Pk) (l : List Mem) (k : Nat) (me : Mem) : Nd → Bool
 | .mk kd a f no ks =>
  if kd = 1 then l.any (fun m => isA ps m a)
  else if kd = 2 then blockB (fun m => isA ps m a) k 0 l
  else if kd = 4 then someN ps l k me ks
  else if kd = 5 ∧ ifOff ps me f no = true then true
  else allN ps l k me ks
def someN (ps : List Pk) (l : List Mem) (k : Nat) (me : Mem) : List Nd → Bool
 | [] => false
 | x :: r => holdsN ps l k me x || someN ps l k me r
def allN (ps : List Pk) (l : List Mem) (k : Nat) (me : Mem) : List Nd → Bool
 | [] => true
 | x :: r => holdsN ps l k me x && allN ps l k me r
end
theorem someN_eq {ps : List Pk} {l : List Mem} {k : Nat} {me : Mem} : ∀ {ks : List Nd}, someN ps l k me ks = ks.any (holdsN ps l k me)
 | [] => rfl
 | x :: r => by rw [someN, someN_eq, List.any_cons]
theorem allN_eq {ps : List Pk} {l : List Mem} {k : Nat} {me : Mem} : ∀ {ks : List Nd}, allN ps l k me ks = ks.all (holdsN ps l k me)
 | [] => rfl
 | x :: r => by rw [allN, allN_eq, List.all_cons]

def memAt (l : List Mem) (k : Nat) : Mem := l.getD k ⟨0, []⟩
def holdsAt (ps : List Pk) (l : List Mem) (k : Nat) : Bool := holdsN ps l k (memAt l k) (pkOf ps (memAt l k).pl).nd
def loneB (ps : List Pk) (p : Pk) : List Mem → Bool
 | [] => true
 | o :: r => if (pkOf ps o.pl).nm = p.nm ∧ (pkOf ps o.pl).slot = p.slot then false else loneB ps p r
def oneOk (ps : List Pk) (masked : List Int) (l : List Mem) (i : Nat) : Bool :=
 !masked.contains (memAt l i).pl && (holdsAt ps l i && loneB ps (pkOf ps (memAt l i).pl) (l.take i))
def allOk (ps : List Pk) (masked : List Int) (l : List Mem) : Nat → Bool
 | 0 => true
 | i + 1 => allOk ps masked l i && oneOk ps masked l i
def validP (ps : List Pk) (ts : List At) (masked : List Int) (l : List Mem) : Bool :=
 ts.all (fun a => l.any (fun m => isA ps m a)) && allOk ps masked l l.length

/-! ### wishes -/
structure Ws where
 ts : List At
 ins : List Mem
 ms : List Int
 on : List (Int × Int)
def ckAts : List At → Int
 | [] => 0
 | a :: r => if ckAtom a ≠ 0 then ckAtom a else ckAts r
def ckMask (ps : List Pk) : Option Int → List Int → Int
 | _, [] => 0
 | prev, k :: r => if k < 0 ∨ (ps.length : Int) ≤ k then 5 else if badPl prev k = true then 6 else ckMask ps (some k) r
def badOn : Option (Int × Int) → Int × Int → Bool
 | none, _ => false
 | some q, x => !(decide (q.1 < x.1) || (decide (q.1 = x.1) && decide (q.2 < x.2)))
def ckOn (ps : List Pk) : Option (Int × Int) → List (Int × Int) → Int
 | _, [] => 0
 | prev, x :: r => if x.1 < 0 ∨ (ps.length : Int) ≤ x.1 ∨ x.2 < 0 ∨ ((pkOf ps x.1).fs.length : Int) ≤ x.2 then 5 else if badOn prev x = true then 6 else ckOn ps (some x) r
def ckWishR (ps : List Pk) (w : Ws) : Int :=
 if 6 < w.ts.length then 2 else if ckAts w.ts ≠ 0 then ckAts w.ts else if ckMask ps none w.ms ≠ 0 then ckMask ps none w.ms else ckOn ps none w.on
def ckWish (ps : List Pk) (w : Ws) : Int := if ckSet ps w.ins ≠ 0 then ckSet ps w.ins else ckWishR ps w

/-! ### less is asked -/
theorem allOk_at {ps : List Pk} {ms : List Int} {l : List Mem} : ∀ {n : Nat}, allOk ps ms l n = true → ∀ i, i < n → oneOk ps ms l i = true
 | 0, _, i, hi => by omega
 | n + 1, h, i, hi => by
  rw [allOk, Bool.and_eq_true] at h
  by_cases e : i = n
  ·subst e; exact h.2
  ·exact allOk_at h.1 i (by omega)
end Go.Proofs.YtedbhlgjcnnknaaGreatDoor

/-
 Plain: what spreads is the least that is closed: more clauses and more that is known give no less.
-/
namespace Qm
def Le (N : Nat) (v w : List Int) : Prop := ∀ n, IsLit N n → vof v n = 1 → vof w n = 1
def Closed (cs : List (List Int)) (w : List Int) : Prop := ∀ c ∈ cs, (scan w c).2 ≠ 0 ∧ (scan w c).2 ≠ 1
theorem IsLit.neg {N : Nat} {n : Int} (h : IsLit N n) : IsLit N (-n) := ⟨by have := h.1; omega, by rw [Int.natAbs_neg]; exact h.2⟩
theorem Le.refl (N : Nat) (v : List Int) : Le N v v := fun _ _ h => h
theorem Le.trans {N : Nat} {a b c : List Int} (h : Le N a b) (k : Le N b c) : Le N a c := fun n hn h1 => k n hn (h n hn h1)
theorem Le.fails {N : Nat} {v w : List Int} (h : Le N v w) {n : Int} (hn : IsLit N n) (hv : vof v n = -1) : vof w n = -1 := by
 have h1 : vof v (-n) = 1 := by rw [vof_neg v n hn.1, hv]; rfl
 have h2 := h (-n) hn.neg h1
 rw [vof_neg w n hn.1] at h2; omega
theorem Le.set {N : Nat} {v w : List Int} (hf : Fine N v) (h : Le N v w) {n : Int} (hn : IsLit N n) (hw : vof w n = 1) : Le N (vset v n) w := by
 intro k hk h1
 rw [vof_vset hf hn k hk.1] at h1
 split at h1
 ·rename_i e; rw [e]; exact hw
 ·split at h1
  ·omega
  ·exact h k hk h1
theorem le_vset {N : Nat} {v : List Int} (hf : Fine N v) {n : Int} (hn : IsLit N n) (h : vof v n ≠ -1) : Le N v (vset v n) := by
 intro k hk h1
 rw [vof_vset hf hn k hk.1]
 split
 ·rfl
 ·split
  ·rename_i e; rw [e, vof_neg v n hn.1] at h1; omega
  ·exact h1
theorem le_zero (N : Nat) (w : List Int) : Le N (zeroVals N) w := by
 intro n _ h
 have hz : ∀ k, (zeroVals N).getD k 0 = 0 := by
  intro k; rw [List.getD_eq_getElem?_getD, zeroVals, List.getElem?_replicate]; split <;> rfl
 unfold vof at h
 rw [hz, hz] at h
 split at h <;> omega
theorem scan_le {N : Nat} {v w c : List Int} (hv : Fine N v) (hw : Fine N w) (h : Le N v w) (hc : IsCl N c) (hcl : (scan w c).2 ≠ 0 ∧ (scan w c).2 ≠ 1) :
  (scan v c).2 ≠ 0 ∧ ((scan v c).2 = 1 → vof w (scan v c).1 = 1) := by
 rcases scan_cases v c with ⟨e, _⟩ | ⟨e, h2⟩ | ⟨e, h2, h3, h4⟩ | ⟨e, _⟩
 ·exact ⟨by omega, by omega⟩
 ·exfalso
  have hall : ∀ x ∈ c, vof w x = -1 := fun x hx => h.fails (hc x hx) (by have := h2 x hx; rcases vof_range hv x with a | a | a <;> omega)
  rcases scan_cases w c with ⟨_, x, hx, h1⟩ | ⟨e1, _⟩ | ⟨_, hm, hz, _⟩ | ⟨_, _, x, hx, _, _, _, hx0, _⟩
  ·have := hall x hx; omega
  ·exact hcl.1 e1
  ·have := hall _ hm; omega
  ·have := hall x hx; omega
 ·refine ⟨by omega, fun _ => ?_⟩
  have hoth : ∀ x ∈ c, x ≠ (scan v c).1 → vof w x = -1 := fun x hx hne => h.fails (hc x hx) (by
   have := h4 x hx
   rcases vof_range hv x with a | a | a
   ·exact absurd (this.2 a) hne
   ·exact absurd a this.1
   ·exact a)
  rcases vof_range hw (scan v c).1 with a | a | a
  ·exfalso
   rcases scan_cases w c with ⟨_, x, hx, h1⟩ | ⟨e1, _⟩ | ⟨e1, _⟩ | ⟨_, _, x, hx, y, hy, hxy, hx0, hy0⟩
   ·by_cases hxe : x = (scan v c).1
    ·rw [hxe] at h1; omega
    ·have := hoth x hx hxe; omega
   ·exact hcl.1 e1
   ·exact hcl.2 e1
   ·by_cases hxe : x = (scan v c).1
    ·have := hoth y hy (fun e => hxy (hxe.trans e.symm)); omega
    ·have := hoth x hx hxe; omega
  ·exact a
  ·exfalso
   have hall : ∀ x ∈ c, vof w x = -1 := fun x hx => by
    by_cases hxe : x = (scan v c).1
    ·rw [hxe]; exact a
    ·exact hoth x hx hxe
   rcases scan_cases w c with ⟨_, x, hx, h1⟩ | ⟨e1, _⟩ | ⟨_, hm, hz, _⟩ | ⟨_, _, x, hx, _, _, _, hx0, _⟩
   ·have := hall x hx; omega
   ·exact hcl.1 e1
   ·have := hall _ hm; omega
   ·have := hall x hx; omega
 ·exact ⟨by omega, by omega⟩
theorem passOne_le {N : Nat} {v w c : List Int} {b : Bool} (hv : Fine N v) (hw : Fine N w) (h : Le N v w) (hc : IsCl N c) (hcl : (scan w c).2 ≠ 0 ∧ (scan w c).2 ≠ 1) :
  ∃ v' b', passOne (some (v, b)) c = some (v', b') ∧ Fine N v' ∧ Le N v' w := by
 obtain ⟨h0, h1⟩ := scan_le hv hw h hc hcl
 by_cases e : (scan v c).2 = 1
 ·exact ⟨_, _, passOne_unit e, vset_fine hv _, h.set hv (hc _ (scan_unit_mem e)) (h1 e)⟩
 ·exact ⟨_, _, passOne_other h0 e, hv, h⟩
theorem pass_le {N : Nat} {w : List Int} {cs : List (List Int)} (hw : Fine N w) (hc : ∀ c ∈ cs, IsCl N c) (hcl : Closed cs w) : ∀ {v : List Int} {b : Bool}, Fine N v → Le N v w →
  ∃ v' b', cs.foldl passOne (some (v, b)) = some (v', b') ∧ Fine N v' ∧ Le N v' w := by
 induction cs with
 | nil => intro v b hf h; exact ⟨v, b, rfl, hf, h⟩
 | cons c cs ih =>
  intro v b hf h
  obtain ⟨v1, b1, e1, hf1, h1⟩ := passOne_le (b := b) hf hw h (hc c (by simp)) (hcl c (by simp))
  rw [List.foldl_cons, e1]
  exact ih (fun d hd => hc d (by simp [hd])) (fun d hd => hcl d (by simp [hd])) hf1 h1
theorem spreadN_le {N : Nat} {w : List Int} {cs : List (List Int)} (hw : Fine N w) (hc : ∀ c ∈ cs, IsCl N c) (hcl : Closed cs w) : ∀ (k : Nat) {v : List Int}, Fine N v → Le N v w →
  ∃ v', spreadN cs k v = some v' ∧ Le N v' w := by
 intro k
 induction k with
 | zero => intro v hf h; exact ⟨v, rfl, h⟩
 | succ k ih =>
  intro v hf h
  obtain ⟨v1, b1, e1, hf1, h1⟩ := pass_le hw hc hcl (b := false) hf h
  have e1' : pass cs v = some (v1, b1) := e1
  simp only [spreadN, e1']
  cases b1 with
  | true => exact ih hf1 h1
  | false => exact ⟨v1, rfl, h1⟩
theorem spread_le {N : Nat} {w : List Int} {cs : List (List Int)} (hw : Fine N w) (hc : ∀ c ∈ cs, IsCl N c) (hcl : Closed cs w) {v : List Int} (hf : Fine N v) (h : Le N v w) : ∃ v', spread cs v = some v' ∧ Le N v' w :=
 spreadN_le hw hc hcl _ hf h

/-! what spreads is closed -/
theorem pass_true {cs : List (List Int)} {v v' : List Int} {b : Bool} (h : cs.foldl passOne (some (v, true)) = some (v', b)) : b = true := by
 induction cs generalizing v with
 | nil => simp at h; first | exact h.2.symm | exact h.2 | (obtain ⟨_, hb⟩ := h; exact hb ▸ rfl)
 | cons c cs ih =>
  rw [List.foldl_cons] at h
  cases hp : passOne (some (v, true)) c with
  | none => rw [hp, passOne_none] at h; cases h
  | some x =>
   obtain ⟨v1, b1⟩ := x
   have : b1 = true := by
    simp only [passOne] at hp
    split at hp
    ·cases hp
    ·split at hp
     ·injection hp with hp; injection hp with _ hp; exact hp.symm
     ·injection hp with hp; injection hp with _ hp; exact hp.symm
   subst this
   rw [hp] at h
   exact ih h
theorem pass_false {cs : List (List Int)} {v v' : List Int} (h : cs.foldl passOne (some (v, false)) = some (v', false)) : v' = v ∧ Closed cs v := by
 induction cs with
 | nil => simp at h; exact ⟨h.symm, fun c hc => by simp at hc⟩
 | cons c cs ih =>
  rw [List.foldl_cons] at h
  by_cases h0 : (scan v c).2 = 0
  ·rw [passOne_fails h0, passOne_none] at h; cases h
  ·by_cases h1 : (scan v c).2 = 1
   ·rw [passOne_unit h1] at h
    have := pass_true h; cases this
   ·rw [passOne_other h0 h1] at h
    obtain ⟨e, hcl⟩ := ih h
    refine ⟨e, fun d hd => ?_⟩
    rcases List.mem_cons.1 hd with rfl | hd
    ·exact ⟨h0, h1⟩
    ·exact hcl d hd
theorem passOne_grows {N : Nat} {v v' c : List Int} {b b' : Bool} (hv : Fine N v) (hc : IsCl N c) (h : passOne (some (v, b)) c = some (v', b')) : Le N v v' := by
 simp only [passOne] at h
 split at h
 ·cases h
 ·split at h
  ·rename_i h0 h1
   injection h with h; injection h with ha _
   subst ha
   refine le_vset hv (hc _ (scan_unit_mem h1)) ?_
   rcases scan_cases v c with ⟨e, _⟩ | ⟨e, _⟩ | ⟨_, _, hz, _⟩ | ⟨e, _⟩ <;> omega
  ·injection h with h; injection h with ha _
   subst ha; exact Le.refl N _
theorem pass_grows {N : Nat} {cs : List (List Int)} (hc : ∀ c ∈ cs, IsCl N c) : ∀ {v v' : List Int} {b b' : Bool}, Fine N v → cs.foldl passOne (some (v, b)) = some (v', b') → Le N v v' := by
 induction cs with
 | nil => intro v v' b b' _ h; simp at h; rw [h.1]; exact Le.refl N _
 | cons c cs ih =>
  intro v v' b b' hf h
  rw [List.foldl_cons] at h
  cases hp : passOne (some (v, b)) c with
  | none => rw [hp, passOne_none] at h; cases h
  | some x =>
   obtain ⟨v1, b1⟩ := x
   rw [hp] at h
   exact (passOne_grows hf (hc c (by simp)) hp).trans (ih (fun d hd => hc d (by simp [hd])) (passOne_ok hf (hc c (by simp)) hp).1 h)
theorem spreadN_closed {N : Nat} {cs : List (List Int)} (hc : ∀ c ∈ cs, IsCl N c) : ∀ (k : Nat) {v v' : List Int}, Fine N v → zeros v < k → spreadN cs k v = some v' → Closed cs v' ∧ Le N v v' := by
 intro k
 induction k with
 | zero => intro v v' _ hk; omega
 | succ k ih =>
  intro v v' hf hk h
  simp only [spreadN] at h
  cases hp : pass cs v with
  | none => rw [hp] at h; cases h
  | some x =>
   obtain ⟨v1, b⟩ := x
   rw [hp] at h
   have hok := pass_ok hc hf hp
   have hgr := pass_grows hc hf hp
   cases b with
   | true =>
    rcases hok.2 with ⟨_, h1⟩ | ⟨h1, _⟩
    ·cases h1
    ·obtain ⟨h2, h3⟩ := ih hok.1 (by omega) h
     exact ⟨h2, hgr.trans h3⟩
   | false =>
    simp at h; subst h
    obtain ⟨e, hcl⟩ := pass_false hp
    subst e
    exact ⟨hcl, Le.refl N _⟩
theorem spread_closed {N : Nat} {cs : List (List Int)} (hc : ∀ c ∈ cs, IsCl N c) {v v' : List Int} (hf : Fine N v) (h : spread cs v = some v') : Closed cs v' ∧ Le N v v' ∧ Fine N v' :=
 let ⟨a, b⟩ := spreadN_closed hc _ hf (Nat.lt_succ_self _) h
 ⟨a, b, spread_fine hc hf h⟩
theorem assume_known {N : Nat} {ls : List Int} (hl : ∀ n ∈ ls, IsLit N n) : ∀ {v v' : List Int}, Fine N v → ls.foldl assume1 (some v) = some v' → Fine N v' ∧ Le N v v' ∧ ∀ n ∈ ls, vof v' n = 1 := by
 induction ls with
 | nil => intro v v' hf h; simp at h; subst h; exact ⟨hf, Le.refl N _, fun n hn => by simp at hn⟩
 | cons n ls ih =>
  intro v v' hf h
  rw [List.foldl_cons] at h
  have hn := hl n (by simp)
  by_cases hv : vof v n = -1
  ·have : assume1 (some v) n = none := by simp only [assume1]; rw [if_pos hv]
   rw [this, assume1_none] at h; cases h
  ·have : assume1 (some v) n = some (vset v n) := by simp only [assume1]; rw [if_neg hv]
   rw [this] at h
   obtain ⟨h1, h2, h3⟩ := ih (fun k hk => hl k (by simp [hk])) (vset_fine hf _) h
   refine ⟨h1, (le_vset hf hn hv).trans h2, fun k hk => ?_⟩
   rcases List.mem_cons.1 hk with rfl | hk
   ·exact h2 k hn (by rw [vof_vset hf hn k hn.1, if_pos rfl])
   ·exact h3 k hk
theorem assume_le {N : Nat} {w : List Int} {ls : List Int} (hl : ∀ n ∈ ls, IsLit N n ∧ vof w n = 1) : ∀ {v : List Int}, Fine N v → Le N v w → ∃ v', ls.foldl assume1 (some v) = some v' ∧ Fine N v' ∧ Le N v' w := by
 induction ls with
 | nil => intro v hf h; exact ⟨v, rfl, hf, h⟩
 | cons n ls ih =>
  intro v hf h
  obtain ⟨hn, hm⟩ := hl n (by simp)
  have hv : vof v n ≠ -1 := by intro e; have := h.fails hn e; omega
  rw [List.foldl_cons]
  have : assume1 (some v) n = some (vset v n) := by simp only [assume1]; rw [if_neg hv]
  rw [this]
  exact ih (fun k hk => hl k (by simp [hk])) (vset_fine hf _) (h.set hf hn hm)
end Qm

/-
 Plain: what follows: its literals, that it holds, that it has what is assumed, that it follows again, that more gives no less.
-/
namespace Qm
theorem litsTo_mem {N : Nat} {v : List Int} (hf : Fine N v) : ∀ {k : Nat}, k ≤ N → ∀ n, n ∈ litsTo v k ↔ IsLit k n ∧ vof v n = 1 := by
 intro k
 induction k with
 | zero => intro _ n; exact ⟨fun h => by simp [litsTo] at h, fun h => by have := h.1.1; have := h.1.2; omega⟩
 | succ k ih =>
  intro hk n
  have ihn := ih (by omega) n
  have hl : ((k + 1 : Nat) : Int).natAbs = k + 1 := by omega
  have hr := hf.2 (v.getD (k + 1) 0) (by
   rw [List.getD_eq_getElem?_getD, List.getElem?_eq_getElem (by have := hf.1; omega)]; exact List.getElem_mem _)
  rw [litsTo_succ, List.mem_append, ihn]
  have hvp : vof v ((k : Int) + 1) = v.getD (k + 1) 0 := by unfold vof; rw [if_neg (by omega)]; congr 1
  have hvn : vof v (-((k : Int) + 1)) = -v.getD (k + 1) 0 := by rw [vof_neg v _ (by omega), hvp]
  constructor
  ·rintro (⟨h1, h2⟩ | h)
   ·exact ⟨⟨h1.1, by have := h1.2; omega⟩, h2⟩
   ·rcases hr with e | e | e
    ·rw [if_pos e] at h; simp at h
    ·rw [if_neg (by omega), e, List.mem_singleton] at h
     have hn : n = (k : Int) + 1 := by omega
     subst hn
     exact ⟨⟨by omega, by omega⟩, by rw [hvp, e]⟩
    ·rw [if_neg (by omega), e, List.mem_singleton] at h
     have hn : n = -((k : Int) + 1) := by omega
     subst hn
     exact ⟨⟨by omega, by omega⟩, by rw [hvn, e]; rfl⟩
  ·rintro ⟨h1, h2⟩
   by_cases hle : n.natAbs ≤ k
   ·exact .inl ⟨⟨h1.1, hle⟩, h2⟩
   ·right
    have h3 := h1.2
    by_cases hp : 0 < n
    ·have hn : n = (k : Int) + 1 := by omega
     subst hn
     rw [hvp] at h2
     rw [if_neg (by omega), h2, List.mem_singleton]; omega
    ·have hn : n = -((k : Int) + 1) := by omega
     subst hn
     rw [hvn] at h2
     have : v.getD (k + 1) 0 = -1 := by omega
     rw [if_neg (by omega), this, List.mem_singleton]; omega

/-! the first place stays empty -/
theorem vset_zero {N : Nat} {v : List Int} {n : Int} (hn : IsLit N n) (h : v.getD 0 0 = 0) : (vset v n).getD 0 0 = 0 := by
 have := hn.1
 have h0 : n.natAbs ≠ 0 := by omega
 unfold vset
 simp only [List.getD_eq_getElem?_getD] at h ⊢
 split <;> (rw [List.getElem?_set_ne (by omega)]; exact h)
theorem assume_zero {N : Nat} {ls : List Int} (hl : ∀ n ∈ ls, IsLit N n) : ∀ {v v' : List Int}, v.getD 0 0 = 0 → ls.foldl assume1 (some v) = some v' → v'.getD 0 0 = 0 := by
 induction ls with
 | nil => intro v v' h0 h; simp at h; subst h; exact h0
 | cons n ls ih =>
  intro v v' h0 h
  rw [List.foldl_cons] at h
  by_cases hv : vof v n = -1
  ·have : assume1 (some v) n = none := by simp only [assume1]; rw [if_pos hv]
   rw [this, assume1_none] at h; cases h
  ·have : assume1 (some v) n = some (vset v n) := by simp only [assume1]; rw [if_neg hv]
   rw [this] at h
   exact ih (fun k hk => hl k (by simp [hk])) (vset_zero (hl n (by simp)) h0) h
theorem passOne_zero {N : Nat} {v v' c : List Int} {b b' : Bool} (hc : IsCl N c) (h0 : v.getD 0 0 = 0) (h : passOne (some (v, b)) c = some (v', b')) : v'.getD 0 0 = 0 := by
 simp only [passOne] at h
 split at h
 ·cases h
 ·split at h
  ·rename_i h1
   injection h with h; injection h with ha _
   subst ha
   exact vset_zero (hc _ (scan_unit_mem h1)) h0
  ·injection h with h; injection h with ha _
   subst ha; exact h0
theorem pass_zero {N : Nat} {cs : List (List Int)} (hc : ∀ c ∈ cs, IsCl N c) : ∀ {v v' : List Int} {b b' : Bool}, v.getD 0 0 = 0 → cs.foldl passOne (some (v, b)) = some (v', b') → v'.getD 0 0 = 0 := by
 induction cs with
 | nil => intro v v' b b' h0 h; simp at h; rw [← h.1]; exact h0
 | cons c cs ih =>
  intro v v' b b' h0 h
  rw [List.foldl_cons] at h
  cases hp : passOne (some (v, b)) c with
  | none => rw [hp, passOne_none] at h; cases h
  | some x =>
   obtain ⟨v1, b1⟩ := x
   rw [hp] at h
   exact ih (fun d hd => hc d (by simp [hd])) (passOne_zero (hc c (by simp)) h0 hp) h
theorem spreadN_zero {N : Nat} {cs : List (List Int)} (hc : ∀ c ∈ cs, IsCl N c) : ∀ (k : Nat) {v v' : List Int}, v.getD 0 0 = 0 → spreadN cs k v = some v' → v'.getD 0 0 = 0 := by
 intro k
 induction k with
 | zero => intro v v' h0 h; simp [spreadN] at h; subst h; exact h0
 | succ k ih =>
  intro v v' h0 h
  simp only [spreadN] at h
  cases hp : pass cs v with
  | none => rw [hp] at h; cases h
  | some x =>
   obtain ⟨v1, b⟩ := x
   rw [hp] at h
   have h1 := pass_zero hc h0 hp
   cases b with
   | true => exact ih h1 h
   | false => simp at h; subst h; exact h1
theorem zeroVals_zero (N : Nat) : (zeroVals N).getD 0 0 = 0 := by
 rw [List.getD_eq_getElem?_getD, zeroVals, List.getElem?_replicate]; split <;> rfl
/-! what follows -/
theorem fol_parts {N : Nat} {cs : List (List Int)} {az v : List Int} (hc : ∀ c ∈ cs, IsCl N c) (hl : ∀ n ∈ az, IsLit N n) (h : followsV N cs az = some v) :
  Closed cs v ∧ Fine N v ∧ v.getD 0 0 = 0 ∧ ∀ n ∈ az, vof v n = 1 := by
 unfold followsV at h
 cases ha : assume az (zeroVals N) with
 | none => rw [ha] at h; cases h
 | some v1 =>
  rw [ha] at h
  have ha' : az.foldl assume1 (some (zeroVals N)) = some v1 := ha
  obtain ⟨hf1, _, hk⟩ := assume_known hl (zeroVals_fine N) ha'
  obtain ⟨h1, h2, h3⟩ := spread_closed hc hf1 h
  exact ⟨h1, h3, spreadN_zero hc _ (assume_zero hl (zeroVals_zero N) ha') h, fun n hn => h2 n (hl n hn) (hk n hn)⟩
theorem fol_sound {N : Nat} {m : List Bool} {cs : List (List Int)} {az : List Int} (hc : ∀ c ∈ cs, IsCl N c) (hh : holdsF m cs = true) (hl : ∀ n ∈ az, IsLit N n ∧ litHolds m n = true) :
  ∃ v, followsV N cs az = some v ∧ ∀ n ∈ litsTo v N, litHolds m n = true := by
 obtain ⟨v1, e1, hf1, h1⟩ := assume_sound hl (zeroVals_fine N) (Agrees.zero N m)
 obtain ⟨v2, e2, hf2, h2⟩ := spread_sound hc hh hf1 h1
 have e1' : assume az (zeroVals N) = some v1 := e1
 refine ⟨v2, by unfold followsV; rw [e1']; exact e2, fun n hn => ?_⟩
 obtain ⟨ha, hb⟩ := (litsTo_mem hf2 (Nat.le_refl _) n).1 hn
 exact h2 n ha hb
end Qm
