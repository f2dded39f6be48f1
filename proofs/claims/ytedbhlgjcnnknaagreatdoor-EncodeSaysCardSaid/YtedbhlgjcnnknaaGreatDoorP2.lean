/- Parts of the proof: walks and plain laws, side by side. -/
import Derived.Test.YtedbhlgjcnnknaaGreatDoorP1
import Derived.Lib.Split
import Derived.Lib.Join
import Derived.Lib.IndexBytes
import Derived.Lib.SlicesCompact
import Derived.WalkKit
import Init.Data.List
set_option linter.unusedVariables false
set_option linter.unusedSimpArgs false
set_option linter.unusedSectionVars false
set_option maxRecDepth 100000
set_option maxHeartbeats 12800000
namespace Qm
open Go
abbrev W := List UInt8
inductive Nd where
 | mk (kind : Int) (a : At) (fl : W) (no : Bool) (kids : List Nd)
def Nd.kind : Nd → Int | .mk k _ _ _ _ => k
def Nd.a : Nd → At | .mk _ a _ _ _ => a
def Nd.fl : Nd → W | .mk _ _ f _ _ => f
def Nd.no : Nd → Bool | .mk _ _ _ n _ => n
def Nd.kids : Nd → List Nd | .mk _ _ _ _ ks => ks
def Nd.zero : Nd := .mk 0 At.zero [] false []
theorem Nd.ind {P : Nd → Prop} (h : ∀ k a f no ks, (∀ x ∈ ks, P x) → P (.mk k a f no ks)) : ∀ n, P n
 | .mk k a f no ks => h k a f no ks fun x _ => Nd.ind h x
mutual
def Nd.nodes : Nd → Nat
 | .mk _ _ _ _ ks => 1 + nodesL ks
def nodesL : List Nd → Nat
 | [] => 0
 | k :: r => k.nodes + nodesL r
end
mutual
def Nd.deep : Nd → Nat
 | .mk _ _ _ _ ks => 1 + deepL ks
def deepL : List Nd → Nat
 | [] => 0
 | k :: r => max k.deep (deepL r)
end
mutual
def cnt : Nd → Nat → Int → Option Int
 | .mk _ _ _ _ ks, d, m => if 4 < d then none else cntL ks d m 1
def cntL : List Nd → Nat → Int → Int → Option Int
 | [], _, _, all => some all
 | k :: r, d, m, all => if m < all then some all else match cnt k (d + 1) (m - all) with
  | none => none
  | some c => cntL r d m (all + c)
end
theorem cntL_spec {ks : List Nd} (ih : ∀ x ∈ ks, ∀ (d : Nat) (m : Int), 1 ≤ d → (∀ c, cnt x d m = some c → 1 ≤ c ∧ (c ≤ m → c = x.nodes ∧ d + x.deep ≤ 5)) ∧ ((x.nodes : Int) ≤ m → d + x.deep ≤ 5 → cnt x d m = some (x.nodes : Int)) ∧ (cnt x d m = none → 5 < d + x.deep)) :
  ∀ (d : Nat) (m all : Int), 1 ≤ d → 1 ≤ all → d ≤ 4 → (∀ c, cntL ks d m all = some c → all ≤ c ∧ (c ≤ m → c = all + nodesL ks ∧ d + deepL ks ≤ 4)) ∧ (all + nodesL ks ≤ m → d + deepL ks ≤ 4 → cntL ks d m all = some (all + (nodesL ks : Int))) ∧ (cntL ks d m all = none → 4 < d + deepL ks) := by
 induction ks with
 | nil =>
  intro d m all hd ha hd4
  refine ⟨?_, ?_, ?_⟩
  ·intro c hc
   simp only [cntL, Option.some.injEq] at hc
   simp only [nodesL, deepL]
   omega
  ·intro _ _; simp [cntL, nodesL]
  ·intro h; simp [cntL] at h
 | cons k r ihr =>
  intro d m all hd ha hd4
  have ik := ih k (List.mem_cons_self ..) (d + 1) (m - all) (by omega)
  have ir := ihr fun x hx => ih x (List.mem_cons_of_mem _ hx)
  simp only [cntL, nodesL, deepL]
  by_cases hm : m < all
  ·rw [if_pos hm]
   refine ⟨?_, ?_, ?_⟩
   ·intro c hc
    simp only [Option.some.injEq] at hc
    omega
   ·intro h; omega
   ·intro h; cases h
  ·rw [if_neg hm]
   obtain ⟨i1, i2, i3⟩ := ik
   cases hk : cnt k (d + 1) (m - all) with
   | none =>
    have := i3 hk
    refine ⟨fun c hc => (by cases hc), fun h1 h2 => ?_, fun _ => by omega⟩
    have := i2 (by omega) (by omega)
    rw [hk] at this; cases this
   | some c =>
    obtain ⟨h1, h2⟩ := i1 c hk
    obtain ⟨r1, r2, r3⟩ := ir d m (all + c) hd (by omega) hd4
    simp only []
    refine ⟨?_, ?_, ?_⟩
    ·intro e he
     obtain ⟨q1, q2⟩ := r1 e he
     refine ⟨by omega, fun hem => ?_⟩
     obtain ⟨p1, p2⟩ := q2 hem
     obtain ⟨s1, s2⟩ := h2 (by omega)
     omega
    ·intro q1 q2
     have hc' := i2 (by omega) (by omega)
     rw [hk] at hc'
     simp only [Option.some.injEq] at hc'
     rw [r2 (by omega) (by omega)]
     congr 1; omega
    ·intro e
     have := r3 e
     omega
theorem cnt_spec : ∀ (n : Nd) (d : Nat) (m : Int), 1 ≤ d → (∀ c, cnt n d m = some c → 1 ≤ c ∧ (c ≤ m → c = n.nodes ∧ d + n.deep ≤ 5)) ∧ ((n.nodes : Int) ≤ m → d + n.deep ≤ 5 → cnt n d m = some (n.nodes : Int)) ∧ (cnt n d m = none → 5 < d + n.deep) := by
 refine Nd.ind fun k a f no ks ih => ?_
 intro d m hd
 simp only [cnt, Nd.nodes, Nd.deep]
 by_cases h : 4 < d
 ·rw [if_pos h]
  exact ⟨fun c hc => (by cases hc), fun _ h2 => by omega, fun _ => by omega⟩
 ·rw [if_neg h]
  obtain ⟨r1, r2, r3⟩ := cntL_spec ih d m 1 hd (by omega) (by omega)
  refine ⟨?_, ?_, ?_⟩
  ·intro c hc
   obtain ⟨q1, q2⟩ := r1 c hc
   refine ⟨q1, fun h => ?_⟩
   obtain ⟨p1, p2⟩ := q2 h
   omega
  ·intro h1 h2
   rw [r2 (by omega) (by omega)]
   congr 1
  ·intro h
   have := r3 h
   omega
theorem cntL_le {ks : List Nd} (ih : ∀ x ∈ ks, ∀ (d : Nat) (m c : Int), 0 ≤ m → cnt x d m = some c → c ≤ m + 1) :
  ∀ (d : Nat) (m all c : Int), all ≤ m + 1 → cntL ks d m all = some c → c ≤ m + 1 := by
 induction ks with
 | nil => intro d m all c h1 h; simp only [cntL, Option.some.injEq] at h; omega
 | cons k r ihr =>
  intro d m all c h1 h
  simp only [cntL] at h
  split at h
  ·simp only [Option.some.injEq] at h; omega
  ·split at h
   ·cases h
   ·rename_i c' hc'
    have := ih k (List.mem_cons_self ..) _ _ _ (by omega) hc'
    exact ihr (fun x hx => ih x (List.mem_cons_of_mem _ hx)) d m _ c (by omega) h
theorem cnt_le : ∀ (n : Nd) (d : Nat) (m c : Int), 0 ≤ m → cnt n d m = some c → c ≤ m + 1 := by
 refine Nd.ind fun k a f no ks ih => ?_
 intro d m c hm h
 simp only [cnt] at h
 split at h
 ·cases h
 ·exact cntL_le ih d m 1 c (by omega) h
def tooMany (n : Nd) : Prop := 4 < n.deep ∨ 20 < n.nodes
instance (n : Nd) : Decidable (tooMany n) := by unfold tooMany; exact inferInstance
theorem cnt_many (n : Nd) : (∀ c, cnt n 1 20 = some c → (20 < c ↔ tooMany n)) ∧ (cnt n 1 20 = none → tooMany n) := by
 obtain ⟨r1, r2, r3⟩ := cnt_spec n 1 20 (by omega)
 unfold tooMany
 refine ⟨?_, ?_⟩
 ·intro c hc
  obtain ⟨q1, q2⟩ := r1 c hc
  constructor
  ·intro h
   by_cases h1 : (n.nodes : Int) ≤ 20 ∧ 1 + n.deep ≤ 5
   ·have := r2 h1.1 h1.2
    rw [hc] at this
    simp only [Option.some.injEq] at this
    omega
   ·omega
  ·intro h
   by_cases h1 : c ≤ 20
   ·obtain ⟨p1, p2⟩ := q2 h1
    omega
   ·omega
 ·intro h
  have := r3 h
  omega
def leafK (k : Int) : Bool := decide (k = 1 ∨ k = 2)
mutual
def ckNd : Nd → Int
 | .mk k a f no ks =>
  if k < 1 ∨ 5 < k then 4
  else if leafK k = true ∧ ks.length ≠ 0 then 4
  else if leafK k = false ∧ a ≠ At.zero then 4
  else if k ≠ 5 ∧ (f ≠ [] ∨ no = true) then 4
  else if k = 5 ∧ isName f = false then 1
  else if leafK k = true then ckAtom a
  else ckKids ks
def ckKids : List Nd → Int
 | [] => 0
 | k :: r => if ckNd k = 0 then ckKids r else ckNd k
end
def ckNeed (n : Nd) : Int := if tooMany n then 2 else ckNd n
def prAtom (a : At) : W := if ckAtom a = 0 then textOf a else []
def headW (k : Int) (f : W) (no : Bool) : List W := if k = 4 then [[124, 124]] else if k = 5 then [(if no then [33] else []) ++ (f ++ [63])] else []
mutual
def wordsN : Nd → List W
 | .mk k a f no ks => if k = 1 then [prAtom a] else if k = 2 then [33 :: prAtom a] else headW k f no ++ [40] :: (wordsL ks ++ [[41]])
def wordsL : List Nd → List W
 | [] => []
 | k :: r => wordsN k ++ wordsL r
end
def joinB (c : UInt8) : List W → W
 | [] => []
 | w :: r => match r with
  | [] => w
  | _ => w ++ c :: joinB c r
def splitGo (c : UInt8) : W → W → List W
 | acc, [] => [acc]
 | acc, x :: r => if x = c then acc :: splitGo c [] r else splitGo c (acc ++ [x]) r
def splitB (c : UInt8) (l : W) : List W := splitGo c [] l
def readKids (rd : List W → Option (Nd × List W)) : Nat → List W → Option (List Nd × List W)
 | 0, _ => none
 | f + 1, ws => match ws with
  | [] => some ([], [])
  | w :: r => if w = [41] then some ([], w :: r) else match rd (w :: r) with
   | none => none
   | some (k, ws') => match readKids rd f ws' with
    | none => none
    | some (ks, ws'') => some (k :: ks, ws'')
def closeB (k : Int) (fl : W) (no : Bool) : Option (List Nd × List W) → Option (Nd × List W)
 | none => none
 | some (ks, ws') => match ws' with
  | [] => none
  | w :: r => if w = [41] then some (.mk k At.zero fl no ks, r) else none
def readBody (rd : List W → Option (Nd × List W)) (k : Int) (fl : W) (no : Bool) (ws : List W) : Option (Nd × List W) :=
 closeB k fl no (readKids rd (ws.length + 1) ws)
def openB (rd : List W → Option (Nd × List W)) (k : Int) (fl : W) (no : Bool) : List W → Option (Nd × List W)
 | [] => none
 | w :: r => if w = [40] then readBody rd k fl no r else none
def cutBang : W → W × Bool
 | [] => ([], false)
 | c :: r => if c = 33 then (r, true) else (c :: r, false)
def leafB (t : W) (b : Bool) (r : List W) : Option (Nd × List W) :=
 if (parseAt t).2 = 0 then some (.mk (if b then 2 else 1) (parseAt t).1 [] false [], r) else none
def readS (rd : List W → Option (Nd × List W)) (s : W) (r : List W) : Option (Nd × List W) :=
 if s = [40] then readBody rd 3 [] false r
 else if s = [124, 124] then openB rd 4 [] false r
 else if s.getLast? = some 63 then
  (if isName (cutBang s.dropLast).1 then openB rd 5 (cutBang s.dropLast).1 (cutBang s.dropLast).2 r else none)
 else leafB (cutBang s).1 (cutBang s).2 r
def readN : Nat → List W → Option (Nd × List W)
 | 0, _ => none
 | d + 1, ws => readS (readN d) (ws.headD []) ws.tail
theorem readN_cons (d : Nat) (s : W) (r : List W) : readN (d + 1) (s :: r) = readS (readN d) s r := rfl
def finNd (n : Nd) : Nd × Int := if ckNeed n = 0 then (n, 0) else (Nd.zero, ckNeed n)
def toldNd : Option (Nd × List W) → Nd × Int
 | some (n, []) => finNd n
 | _ => (Nd.zero, 1)
def parseNd (l : W) : Nd × Int := if 20000 < l.length then (Nd.zero, 2) else toldNd (readN 4 (splitB 32 l))
end Qm

namespace Qm
open Go
theorem splitGo_none {c : UInt8} : ∀ {l acc : W}, (∀ x ∈ l, x ≠ c) → splitGo c acc l = [acc ++ l]
 | [], acc, _ => by simp [splitGo]
 | x :: r, acc, h => by
  rw [splitGo, if_neg (h x (List.mem_cons_self ..)), splitGo_none fun y hy => h y (List.mem_cons_of_mem _ hy)]
  simp
theorem splitGo_some {c : UInt8} {r : W} : ∀ {l acc : W}, (∀ x ∈ l, x ≠ c) → splitGo c acc (l ++ c :: r) = (acc ++ l) :: splitGo c [] r
 | [], acc, _ => by simp [splitGo]
 | x :: l, acc, h => by
  rw [List.cons_append, splitGo, if_neg (h x (List.mem_cons_self ..)), splitGo_some fun y hy => h y (List.mem_cons_of_mem _ hy)]
  simp
def plainB (c : UInt8) : Bool := c != 32 && c != 33 && c != 40 && c != 41 && c != 63 && c != 124 && c != 10 && c != 44
theorem low_plain {c : UInt8} (h : lowB c = true ∨ digB c = true) : plainB c = true := by
 have h' : (97 ≤ c.toNat ∧ c.toNat ≤ 122) ∨ (48 ≤ c.toNat ∧ c.toNat ≤ 57) := by simpa [lowB, digB] using h
 have k : ∀ d : UInt8, d.toNat < 48 ∨ (57 < d.toNat ∧ d.toNat < 97) ∨ 122 < d.toNat → (c != d) = true := by
  intro d hd
  rw [bne_iff_ne]
  rintro rfl
  omega
 unfold plainB
 rw [k 32 (by decide), k 33 (by decide), k 40 (by decide), k 41 (by decide), k 63 (by decide), k 124 (by decide), k 10 (by decide), k 44 (by decide)]; rfl
theorem name_plain {l : W} (h : isName l = true) : ∀ c ∈ l, plainB c = true := fun c hc => low_plain (isName_mem h c hc)
theorem text_plain {a : At} (h : ckAtom a = 0) : ∀ c ∈ textOf a, plainB c = true := by
 have hk := atOk h
 intro c hc
 unfold textOf at hc
 rcases List.mem_append.1 hc with hc | hc
 ·rcases List.mem_append.1 hc with hc | hc
  ·rcases List.mem_append.1 hc with hc | hc
   ·exact name_plain hk.nm c hc
   ·split at hc
    ·rename_i h0
     rcases List.mem_append.1 hc with hc | hc
     ·have : c = 61 ∨ c = 62 ∨ c = 60 := by
       unfold opText at hc
       split at hc
       ·simp at hc; exact .inl hc
       ·split at hc
        ·simp at hc; rcases hc with hc | hc
         ·exact .inr (.inl hc)
         ·exact .inl hc
        ·split at hc
         ·simp at hc; exact .inr (.inr hc)
         ·cases hc
      rcases this with rfl | rfl | rfl <;> decide
     ·exact low_plain (.inr (itoa_mem (by have := hk.some h0; omega) c hc))
    ·cases hc
  ·split at hc
   ·rcases List.mem_cons.1 hc with rfl | hc
    ·decide
    ·exact low_plain (.inr (itoa_mem (by omega) c hc))
   ·cases hc
 ·split at hc
  ·rename_i h0
   rcases List.mem_cons.1 hc with rfl | hc
   ·split <;> decide
   ·exact name_plain (hk.fl h0) c hc
  ·cases hc
theorem text_ne {a : At} (h : ckAtom a = 0) : ∃ c r, textOf a = c :: r ∧ plainB c = true := by
 have hl := (isName_len (atOk h).nm).1
 have hp := text_plain h
 have : textOf a ≠ [] := by
  intro e
  unfold textOf at e
  simp only [List.append_assoc, List.append_eq_nil_iff] at e
  rw [e.1] at hl; simp at hl
 cases e : textOf a with
 | nil => exact absurd e this
 | cons c r => rw [e] at hp; exact ⟨c, r, rfl, hp c (List.mem_cons_self ..)⟩
theorem words_ne : ∀ (n : Nd), wordsN n ≠ []
 | .mk k a f no ks => by
  unfold wordsN
  split
  ·simp
  ·split <;> simp
theorem leaf_of_parse {t : W} {x : At} (h : (parseAt t).2 = 0) (hx : (parseAt t).1 = x) : ckAtom x = 0 ∧ textOf x = t := parse_back (by rw [← hx, ← h])
theorem cut_bang {s t : W} {b : Bool} (h : cutBang s = (t, b)) : s = if b then 33 :: t else t := by
 cases s with
 | nil => simp [cutBang] at h; obtain ⟨rfl, rfl⟩ := h; rfl
 | cons c r =>
  by_cases hc : c = 33
  ·rw [cutBang, if_pos hc, Prod.mk.injEq] at h
   obtain ⟨rfl, rfl⟩ := h; simp [hc]
  ·rw [cutBang, if_neg hc, Prod.mk.injEq] at h
   obtain ⟨rfl, rfl⟩ := h; simp
theorem of_readKids {rd : List W → Option (Nd × List W)} {d : Nat} (hrd : ∀ ws n r, rd ws = some (n, r) → ws = wordsN n ++ r ∧ ckNd n = 0 ∧ n.deep ≤ d) :
  ∀ {f : Nat} {ws : List W} {ks : List Nd} {r : List W}, readKids rd f ws = some (ks, r) → ws = wordsL ks ++ r ∧ ckKids ks = 0 ∧ deepL ks ≤ d
 | 0, _, _, _, h => by simp [readKids] at h
 | f + 1, [], ks, r, h => by
  simp only [readKids, Option.some.injEq, Prod.mk.injEq] at h
  obtain ⟨rfl, rfl⟩ := h
  simp [wordsL, ckKids, deepL]
 | f + 1, w :: ws, ks, r, h => by
  unfold readKids at h
  simp only [] at h
  split at h
  ·simp only [Option.some.injEq, Prod.mk.injEq] at h
   obtain ⟨rfl, rfl⟩ := h
   simp [wordsL, ckKids, deepL]
  ·split at h
   ·cases h
   ·rename_i k ws' hk
    split at h
    ·cases h
    ·rename_i ks' ws'' hks
     simp only [Option.some.injEq, Prod.mk.injEq] at h
     obtain ⟨rfl, rfl⟩ := h
     obtain ⟨e1, c1, d1⟩ := hrd _ _ _ hk
     obtain ⟨e2, c2, d2⟩ := of_readKids hrd hks
     refine ⟨?_, ?_, ?_⟩
     ·rw [e1, e2]; simp [wordsL]
     ·simp only [ckKids]; rw [if_pos c1]; exact c2
     ·simp only [deepL]; exact Nat.max_le.2 ⟨d1, d2⟩
theorem of_readBody {rd : List W → Option (Nd × List W)} {d : Nat} (hrd : ∀ ws n r, rd ws = some (n, r) → ws = wordsN n ++ r ∧ ckNd n = 0 ∧ n.deep ≤ d) {k : Int} {fl : W} {no : Bool} {ws : List W} {n : Nd} {r : List W}
  (h : readBody rd k fl no ws = some (n, r)) : ∃ ks, n = .mk k At.zero fl no ks ∧ ws = wordsL ks ++ [41] :: r ∧ ckKids ks = 0 ∧ deepL ks ≤ d := by
 unfold readBody at h
 cases hk : readKids rd (ws.length + 1) ws with
 | none => rw [hk] at h; cases h
 | some q =>
  obtain ⟨ks, ws'⟩ := q
  rw [hk] at h
  obtain ⟨e1, c1, d1⟩ := of_readKids hrd hk
  unfold closeB at h
  cases ws' with
  | nil => cases h
  | cons w ws'' =>
   simp only [] at h
   split at h
   ·rename_i hw
    simp only [Option.some.injEq, Prod.mk.injEq] at h
    obtain ⟨rfl, rfl⟩ := h
    subst hw
    exact ⟨ks, rfl, e1, c1, d1⟩
   ·cases h
theorem of_openB {rd : List W → Option (Nd × List W)} {d : Nat} (hrd : ∀ ws n r, rd ws = some (n, r) → ws = wordsN n ++ r ∧ ckNd n = 0 ∧ n.deep ≤ d) {k : Int} {fl : W} {no : Bool} {ws : List W} {n : Nd} {r : List W}
  (h : openB rd k fl no ws = some (n, r)) : ∃ ks, n = .mk k At.zero fl no ks ∧ ws = [40] :: (wordsL ks ++ [41] :: r) ∧ ckKids ks = 0 ∧ deepL ks ≤ d := by
 cases ws with
 | nil => cases h
 | cons w ws' =>
  have h' : (if w = [40] then readBody rd k fl no ws' else none) = some (n, r) := h
  by_cases hw : w = [40]
  ·rw [if_pos hw] at h'
   obtain ⟨ks, e0, e1, e2⟩ := of_readBody hrd h'
   exact ⟨ks, e0, by rw [hw, e1], e2⟩
  ·rw [if_neg hw] at h'; cases h'
theorem of_readN : ∀ (d : Nat) (ws : List W) (n : Nd) (r : List W), readN d ws = some (n, r) → ws = wordsN n ++ r ∧ ckNd n = 0 ∧ n.deep ≤ d
 | 0, _, _, _, h => by cases h
 | d + 1, ws, n, r, h => by
  have hrd := of_readN d
  have hne : ws ≠ [] := by
   rintro rfl
   have h' : readS (readN d) [] [] = some (n, r) := h
   clear h
   have h := h'
   rw [readS, if_neg (by simp), if_neg (by simp), if_neg (by simp)] at h
   unfold leafB at h
   by_cases h0 : (parseAt []).2 = 0
   ·obtain ⟨h1, h2⟩ := leaf_of_parse h0 rfl
    obtain ⟨c, r, e, _⟩ := text_ne h1
    rw [h2] at e; cases e
   ·have h' : (if (parseAt []).2 = 0 then _ else none) = some (n, r) := h
    rw [if_neg h0] at h'; cases h'
  cases ws with
  | nil => exact absurd rfl hne
  | cons s t =>
   rw [readN_cons] at h
   unfold readS at h
   split at h
   ·rename_i hs
    obtain ⟨ks, rfl, e1, e2, e3⟩ := of_readBody hrd h
    refine ⟨?_, ?_, by simp only [Nd.deep]; omega⟩
    ·rw [hs, e1]; simp [wordsN, headW]
    ·simp [ckNd, leafK, e2]
   ·split at h
    ·rename_i hs
     obtain ⟨ks, rfl, e1, e2, e3⟩ := of_openB hrd h
     refine ⟨?_, ?_, by simp only [Nd.deep]; omega⟩
     ·rw [hs, e1]; simp [wordsN, headW]
     ·simp [ckNd, leafK, e2]
    ·split at h
     ·rename_i hs
      split at h
      ·rename_i hn
       obtain ⟨ks, rfl, e1, e2, e3⟩ := of_openB hrd h
       have hc := cut_bang (s := s.dropLast) (t := (cutBang s.dropLast).1) (b := (cutBang s.dropLast).2) rfl
       have hsd : s = s.dropLast ++ [63] := by
        cases s with
        | nil => simp at hs
        | cons x y =>
         have h1 := List.dropLast_concat_getLast (l := x :: y) (by simp)
         rw [List.getLast?_eq_some_getLast (by simp)] at hs
         simp only [Option.some.injEq] at hs
         rw [hs] at h1
         exact h1.symm
       refine ⟨?_, ?_, by simp only [Nd.deep]; omega⟩
       ·simp only [wordsN, headW, show ((5 : Int) = 1) = False by simp, show ((5 : Int) = 2) = False by simp, show ((5 : Int) = 4) = False by simp, if_false, if_true]
        rw [e1]
        simp only [List.cons_append, List.nil_append, List.append_assoc]
        congr 1
        generalize (cutBang s.dropLast).1 = q1 at *
        generalize (cutBang s.dropLast).2 = q2 at *
        rw [hsd, hc]
        cases q2 <;> simp
       ·simp [ckNd, leafK, e2, hn]
      ·cases h
     ·unfold leafB at h
      split at h
      ·rename_i h0
       simp only [Option.some.injEq, Prod.mk.injEq] at h
       obtain ⟨rfl, rfl⟩ := h
       obtain ⟨h1, h2⟩ := leaf_of_parse h0 rfl
       have hc := cut_bang (s := s) (t := (cutBang s).1) (b := (cutBang s).2) rfl
       generalize (cutBang s).1 = q1 at *
       generalize (cutBang s).2 = q2 at *
       refine ⟨?_, ?_, by simp [Nd.deep, deepL]⟩
       ·cases q2
        ·simp [wordsN, prAtom, h1, h2, hc]
        ·simp [wordsN, prAtom, h1, h2, hc]
       ·cases q2 <;> simp [ckNd, leafK, h1]
      ·cases h
theorem ckNeed_zero {n : Nd} (h : ckNeed n = 0) : n.deep ≤ 4 ∧ n.nodes ≤ 20 ∧ ckNd n = 0 := by
 unfold ckNeed at h
 split at h
 ·cases h
 ·rename_i h1
  unfold tooMany at h1
  exact ⟨by omega, by omega, h⟩
end Qm

namespace Qm
open Go
theorem index_cut (c : UInt8) : ∀ (l : List UInt8), Lib.index l [c] = match cutAt (· == c) l with | none => -1 | some (a, _, _) => (a.length : Int) := by
 intro l
 rw [Lib.index_one]
 induction l with
 | nil => rfl
 | cons b l ih =>
  unfold Lib.indexByte cutAt
  by_cases h : (b == c) = true
  ·simp [h]
  ·simp only [h, Bool.false_eq_true, if_false, ih]
   cases hr : cutAt (· == c) l with
   | none => simp
   | some t =>
    obtain ⟨a, d, e⟩ := t
    simp only [List.length_cons]
    have : ((a.length : Int) == -1) = false := by simp
    rw [this]; simp
theorem splitB_cut {c : UInt8} {l : W} : splitB c l = match cutAt (· == c) l with | none => [l] | some (a, _, d) => a :: splitB c d := by
 cases h : cutAt (· == c) l with
 | none =>
  have := of_cutAt_none h
  unfold splitB
  rw [splitGo_none fun x hx => by have := this x hx; simpa using this]; rfl
 | some t =>
  obtain ⟨a, b, d⟩ := t
  obtain ⟨e, hb, ha⟩ := of_cutAt_some h
  have hb' : b = c := by simpa using hb
  subst hb'
  unfold splitB
  rw [e, splitGo_some fun x hx => by have := ha x hx; simpa using this]; rfl
theorem splitK_eq (c : UInt8) : ∀ (k : Nat) (l : W), Lib.count l [c] ≤ k → Lib.splitK [c] 0 k l = splitB c l
 | k, l, hk => by
  rw [splitB_cut]
  have hi := index_cut c l
  cases h : cutAt (· == c) l with
  | none =>
   rw [h] at hi
   cases k with
   | zero => rfl
   | succ k => unfold Lib.splitK; rw [hi]; rfl
  | some t =>
   obtain ⟨a, b, d⟩ := t
   obtain ⟨e, hb, ha⟩ := of_cutAt_some h
   rw [h] at hi
   simp only [] at hi
   have hc := Lib.count_hit (by simp) hi
   have hd : l.drop (a.length + [c].length) = d := by rw [e]; simp [List.drop_append]
   rw [hd] at hc
   obtain ⟨k, rfl⟩ : ∃ j, k = j + 1 := ⟨k - 1, by omega⟩
   unfold Lib.splitK
   rw [hi]
   have h1 : ((a.length : Int) == -1) = false := by simp
   rw [h1]
   simp only [Bool.false_eq_true, if_false, Int.toNat_natCast, Nat.add_zero]
   rw [hd, splitK_eq c k d (by omega)]
   rw [e]; simp
theorem split_eq (c : UInt8) (l : W) : Lib.split l [c] = splitB c l := splitK_eq c _ l (Nat.le_refl _)
theorem splitB_bytes (c : UInt8) (s s' : ByteArray) : (Lib.splitB s' 0 (Lib.countB s s') s).map (·.data.toList) = splitB c s.data.toList ∨ s'.data.toList ≠ [c] := by
 by_cases h : s'.data.toList = [c]
 ·left
  rw [Lib.splitB_data, h]
  have : Lib.countB s s' = Lib.count s.data.toList [c] := by unfold Lib.countB; rw [h]
  rw [this]; exact split_eq c _
 ·exact .inr h
mutual
def sameNd : Nd → Nd → Bool
 | .mk k a f no ks, m => decide (k = m.kind) && (decide (a = m.a) && (decide (f = m.fl) && (decide (no = m.no) && sameL ks m.kids)))
def sameL : List Nd → List Nd → Bool
 | [], ms => ms.isEmpty
 | n :: r, ms => match ms with
  | [] => false
  | m :: s => sameNd n m && sameL r s
end
mutual
def flagsN : Nd → List W
 | .mk k _ f _ ks => (if k = 5 then [f] else []) ++ flagsL ks
def flagsL : List Nd → List W
 | [] => []
 | k :: r => flagsN k ++ flagsL r
end
theorem flagsL_snoc : ∀ (ks : List Nd) (y : Nd), flagsL (ks ++ [y]) = flagsL ks ++ flagsN y
 | [], y => by simp [flagsL]
 | k :: r, y => by simp only [List.cons_append, flagsL, flagsL_snoc r y, List.append_assoc]
theorem flagsN_le : ∀ (y : Nd), (flagsN y).length ≤ y.nodes := by
 refine Nd.ind fun k a f no ks ih => ?_
 have hL : ∀ {l : List Nd}, (∀ y ∈ l, (flagsN y).length ≤ y.nodes) → (flagsL l).length ≤ nodesL l := by
  intro l
  induction l with
  | nil => intro _; simp [flagsL, nodesL]
  | cons y l ihl =>
   intro hl
   have h1 := hl y (List.mem_cons_self ..)
   have h2 := ihl fun z hz => hl z (List.mem_cons_of_mem _ hz)
   simp only [flagsL, nodesL, List.length_append]; omega
 have := hL ih
 simp only [flagsN, Nd.nodes, List.length_append]
 split <;> simp <;> omega
theorem flagsL_take : ∀ (ks : List Nd) (j : Nat), (flagsL (ks.take j)).length ≤ (flagsL ks).length
 | [], j => by simp [flagsL]
 | k :: r, 0 => by simp [flagsL]
 | k :: r, j + 1 => by
  have := flagsL_take r j
  simp only [List.take_succ_cons, flagsL, List.length_append]; omega
end Qm

namespace Qm
open Go
structure Pk where
 nm : W
 ver : Int
 slot : Int
 fs : List W
 nd : Nd
def badNext : Option W → W → Bool
 | none, _ => false
 | some p, f => decide (f ≤ p)
def ckFlags : Option W → List W → Int
 | _, [] => 0
 | prev, f :: r => if isName f = false then 1 else if badNext prev f = true then 6 else ckFlags (some f) r
def ckPk (p : Pk) : Int :=
 if isName p.nm = false then 1
 else if p.ver < 1 ∨ 99 < p.ver ∨ p.slot < 1 ∨ 9 < p.slot then 3
 else if 2 < p.fs.length then 2
 else if ckFlags none p.fs ≠ 0 then ckFlags none p.fs
 else if p.nd.kind ≠ 3 then 4
 else if ckNeed p.nd ≠ 0 then ckNeed p.nd
 else if (flagsN p.nd).all (fun f => p.fs.contains f) = true then 0 else 5
def beforeP (a b : Pk) : Bool := decide (a.nm < b.nm) || (decide (a.nm = b.nm) && decide (a.ver < b.ver))
def badPk : Option Pk → Pk → Bool
 | none, _ => false
 | some q, p => !beforeP q p
def ckT : Option Pk → Nat → List Pk → Int
 | _, _, [] => 0
 | prev, n, p :: r => if ckPk p ≠ 0 then ckPk p else if badPk prev p = true then 6 else if 14 < n + p.fs.length then 2 else ckT (some p) (n + p.fs.length) r
def ckTree (ps : List Pk) : Int := if 8 < ps.length then 2 else ckT none ps.length ps
def cut4 (l : W) : Option (W × W × W × W × W) :=
 match cutAt (· == 32) l with
 | none => none
 | some (a, _, l1) => match cutAt (· == 32) l1 with
  | none => none
  | some (b, _, l2) => match cutAt (· == 32) l2 with
   | none => none
   | some (c, _, l3) => match cutAt (· == 32) l3 with
    | none => none
    | some (d, _, e) => some (a, b, c, d, e)
def fsOf (d : W) : List W := if d = [] then [] else splitB 44 d
def parseLine (l : W) : Except Int Pk :=
 match cut4 l with
 | none => .error 1
 | some (a, b, c, d, e) => match number b, number c with
  | some v, some k => if (parseNd e).2 = 1 then .error 1 else if (parseNd e).2 ≠ 0 then .error (parseNd e).2 else .ok ⟨a, v, k, fsOf d, (parseNd e).1⟩
  | _, _ => .error 1
def parseLines : Nat → Nat → W → Except (Nat × Int) (List Pk)
 | 0, _, _ => .ok []
 | f + 1, i, s => if s = [] then .ok [] else match cutAt (· == 10) s with
  | none => .error (i, 1)
  | some (l, _, rest) => match parseLine l with
   | .error e => .error (i, e)
   | .ok p => match parseLines f (i + 1) rest with
    | .error e => .error e
    | .ok ps => .ok (p :: ps)
def parseTree (s : W) : List Pk × Nat × Int :=
 if 20000 < s.length then ([], 0, 2) else match parseLines (s.length + 1) 0 s with
  | .error (i, e) => ([], i, e)
  | .ok ps => if ckTree ps = 0 then (ps, 0, 0) else ([], 0, ckTree ps)
theorem ckT_mem : ∀ {ps : List Pk} {prev : Option Pk} {n : Nat}, ckT prev n ps = 0 → ∀ p ∈ ps, ckPk p = 0
 | [], _, _, _, p, hp => by cases hp
 | q :: r, prev, n, h, p, hp => by
  simp only [ckT] at h
  by_cases h1 : ckPk q = 0
  ·rw [if_neg (by simpa using h1)] at h
   split at h
   ·cases h
   ·split at h
    ·cases h
    ·rcases List.mem_cons.1 hp with rfl | hp
     ·exact h1
     ·exact ckT_mem h p hp
  ·rw [if_pos h1] at h
   exact absurd h h1
theorem ckTree_mem {ps : List Pk} (h : ckTree ps = 0) : ∀ p ∈ ps, ckPk p = 0 := by
 unfold ckTree at h
 split at h
 ·cases h
 ·exact ckT_mem h
structure PkOk (p : Pk) : Prop where
 nm : isName p.nm = true
 ver : 1 ≤ p.ver ∧ p.ver ≤ 99
 slot : 1 ≤ p.slot ∧ p.slot ≤ 9
 len : p.fs.length ≤ 2
 fs : ckFlags none p.fs = 0
 kind : p.nd.kind = 3
 nd : ckNeed p.nd = 0
 sub : ∀ f ∈ flagsN p.nd, f ∈ p.fs
theorem pkOk {p : Pk} (h : ckPk p = 0) : PkOk p := by
 unfold ckPk at h
 split at h
 ·cases h
 split at h
 ·cases h
 split at h
 ·cases h
 split at h
 ·rename_i h4; exact absurd h h4
 split at h
 ·cases h
 split at h
 ·rename_i h6; exact absurd h h6
 split at h
 ·rename_i h1 h2 h3 h4 h5 h6 h7
  refine ⟨by simpa using h1, by omega, by omega, by omega, by simpa using h4, by simpa using h5, by simpa using h6, fun f hf => ?_⟩
  have := List.all_eq_true.1 h7 f hf
  simpa using this
 ·cases h
theorem cut4_back {l a b c d e : W} (h : cut4 l = some (a, b, c, d, e)) : l = a ++ (32 :: b ++ (32 :: c ++ (32 :: d ++ (32 :: e)))) := by
 unfold cut4 at h
 split at h
 ·cases h
 ·rename_i a' x1 l1 h1
  split at h
  ·cases h
  ·rename_i b' x2 l2 h2
   split at h
   ·cases h
   ·rename_i c' x3 l3 h3
    split at h
    ·cases h
    ·rename_i d' x4 l4 h4
     simp only [Option.some.injEq, Prod.mk.injEq] at h
     obtain ⟨rfl, rfl, rfl, rfl, rfl⟩ := h
     obtain ⟨e1, p1, _⟩ := of_cutAt_some h1
     obtain ⟨e2, p2, _⟩ := of_cutAt_some h2
     obtain ⟨e3, p3, _⟩ := of_cutAt_some h3
     obtain ⟨e4, p4, _⟩ := of_cutAt_some h4
     have p1' : x1 = 32 := by simpa using p1
     have p2' : x2 = 32 := by simpa using p2
     have p3' : x3 = 32 := by simpa using p3
     have p4' : x4 = 32 := by simpa using p4
     subst p1' p2' p3' p4'
     rw [e1, e2, e3, e4]
     simp
end Qm

namespace Qm
open Go
section
variable {α : Type} [Inhabited α] [DecidableEq α]
theorem mem_compactUpTo {d : Array α} {x : α} : ∀ {m : Nat}, m ≤ d.size → (x ∈ Lib.compactUpTo d m ↔ ∃ j, j < m ∧ d[j]! = x)
 | 0, _ => by simp [Lib.compactUpTo]
 | m + 1, h => by
  have ih := mem_compactUpTo (d := d) (x := x) (m := m) (by omega)
  rw [Lib.compactUpTo_succ, List.mem_append, ih]
  by_cases hk : Lib.keeps d m = true
  ·rw [if_pos hk, List.mem_singleton]
   constructor
   ·rintro (⟨j, hj, rfl⟩ | rfl)
    ·exact ⟨j, by omega, rfl⟩
    ·exact ⟨m, by omega, rfl⟩
   ·rintro ⟨j, hj, rfl⟩
    by_cases hjm : j = m
    ·right; rw [hjm]
    ·left; exact ⟨j, by omega, rfl⟩
  ·rw [if_neg hk]
   have hk' : m ≠ 0 ∧ d[m]! = d[m - 1]! := by
    simp only [Lib.keeps, decide_eq_true_eq, not_or, Decidable.not_not] at hk
    exact hk
   constructor
   ·rintro (⟨j, hj, rfl⟩ | h)
    ·exact ⟨j, by omega, rfl⟩
    ·cases h
   ·rintro ⟨j, hj, rfl⟩
    left
    by_cases hjm : j = m
    ·exact ⟨m - 1, by omega, by rw [hjm, hk'.2]⟩
    ·exact ⟨j, by omega, rfl⟩
theorem mem_compact {l : List α} {x : α} : x ∈ Lib.compact l ↔ x ∈ l := by
 unfold Lib.compact
 rw [mem_compactUpTo (by simp), List.mem_iff_getElem]
 constructor
 ·rintro ⟨j, hj, h⟩
  refine ⟨j, hj, ?_⟩
  rw [← h]
  simp [hj]
 ·rintro ⟨j, hj, h⟩
  refine ⟨j, hj, ?_⟩
  rw [← h]
  simp [hj]
end
theorem all_mem {α : Type} {a b : List α} (p : α → Bool) (h : ∀ x, x ∈ a ↔ x ∈ b) : a.all p = b.all p := by
 rw [Bool.eq_iff_iff, List.all_eq_true, List.all_eq_true]
 exact ⟨fun k x hx => k x ((h x).2 hx), fun k x hx => k x ((h x).1 hx)⟩
def prevOf {α : Type} (l : List α) (j : Nat) : Option α := if j = 0 then none else l[j - 1]?
theorem prevOf_zero {α : Type} (l : List α) : prevOf l 0 = none := rfl
theorem prevOf_succ {α : Type} {l : List α} {j : Nat} {x : α} (h : l[j]? = some x) : prevOf l (j + 1) = some x := by unfold prevOf; rw [if_neg (by omega)]; exact h
theorem ckFlags_step {fs : List W} {j : Nat} {f : W} (h : fs[j]? = some f) :
  ckFlags (prevOf fs j) (fs.drop j) = if isName f = false then 1 else if badNext (prevOf fs j) f = true then 6 else ckFlags (prevOf fs (j + 1)) (fs.drop (j + 1)) := by
 rw [prevOf_succ h]
 obtain ⟨hj, rfl⟩ := List.getElem?_eq_some_iff.1 h
 rw [List.drop_eq_getElem_cons hj]
 rfl
theorem ckFlags_done {fs : List W} {j : Nat} (h : fs.length ≤ j) {p : Option W} : ckFlags p (fs.drop j) = 0 := by
 rw [List.drop_eq_nil_of_le h]; rfl
theorem ckT_step {ps : List Pk} {j n : Nat} {p : Pk} (h : ps[j]? = some p) :
  ckT (prevOf ps j) n (ps.drop j) = if ckPk p ≠ 0 then ckPk p else if badPk (prevOf ps j) p = true then 6 else if 14 < n + p.fs.length then 2 else ckT (prevOf ps (j + 1)) (n + p.fs.length) (ps.drop (j + 1)) := by
 rw [prevOf_succ h]
 obtain ⟨hj, rfl⟩ := List.getElem?_eq_some_iff.1 h
 rw [List.drop_eq_getElem_cons hj]
 rfl
theorem ckT_done {ps : List Pk} {j n : Nat} (h : ps.length ≤ j) {p : Option Pk} : ckT p n (ps.drop j) = 0 := by
 rw [List.drop_eq_nil_of_le h]; rfl
end Qm

namespace Go.Proofs.YtedbhlgjcnnknaaGreatDoor
open Go.RowKit Qm
def fitsP (a : At) (v sl : Int) : Bool :=
 if a.slot ≠ 0 ∧ a.slot ≠ sl then false
 else if a.op = 1 then decide (v = a.ver) else if a.op = 2 then decide (a.ver ≤ v) else if a.op = 3 then decide (v < a.ver) else true
end Go.Proofs.YtedbhlgjcnnknaaGreatDoor

namespace Go.Proofs.YtedbhlgjcnnknaaGreatDoor
open Go.RowKit Qm
structure Mem where
 pl : Int
 on : List Bool
deriving DecidableEq
def pkOf (ps : List Pk) (i : Int) : Pk := ps.getD i.toNat ⟨[], 0, 0, [], Nd.zero⟩
def badPl : Option Int → Int → Bool
 | none, _ => false
 | some q, p => decide (p ≤ q)
def ckMs (ps : List Pk) : Option Int → List Mem → Int
 | _, [] => 0
 | prev, m :: r => if m.pl < 0 ∨ (ps.length : Int) ≤ m.pl then 5 else if badPl prev m.pl = true then 6 else if m.on.length ≠ (pkOf ps m.pl).fs.length then 4 else ckMs ps (some m.pl) r
def ckSet (ps : List Pk) (l : List Mem) : Int := if ckTree ps ≠ 0 then ckTree ps else ckMs ps none l
theorem ckMs_step {ps : List Pk} {l : List Mem} {j : Nat} {m : Mem} (h : l[j]? = some m) :
  ckMs ps (prevOf (l.map Mem.pl) j) (l.drop j) = if m.pl < 0 ∨ (ps.length : Int) ≤ m.pl then 5 else if badPl (prevOf (l.map Mem.pl) j) m.pl = true then 6 else if m.on.length ≠ (pkOf ps m.pl).fs.length then 4 else ckMs ps (prevOf (l.map Mem.pl) (j + 1)) (l.drop (j + 1)) := by
 rw [prevOf_succ (l := l.map Mem.pl) (x := m.pl) (by rw [List.getElem?_map, h]; rfl)]
 obtain ⟨hj, rfl⟩ := List.getElem?_eq_some_iff.1 h
 rw [List.drop_eq_getElem_cons hj]
 rfl
theorem ckMs_done {ps : List Pk} {l : List Mem} {j : Nat} (h : l.length ≤ j) {p : Option Int} : ckMs ps p (l.drop j) = 0 := by
 rw [List.drop_eq_nil_of_le h]; rfl
def MemOk (ps : List Pk) (m : Mem) : Prop := 0 ≤ m.pl ∧ m.pl < ps.length ∧ m.on.length = (pkOf ps m.pl).fs.length
theorem ckMs_mem {ps : List Pk} : ∀ {l : List Mem} {prev : Option Int}, ckMs ps prev l = 0 → ∀ m ∈ l, MemOk ps m
 | [], _, _, m, hm => by cases hm
 | x :: r, prev, h, m, hm => by
  simp only [ckMs] at h
  split at h
  ·cases h
  ·rename_i h1
   split at h
   ·cases h
   ·split at h
    ·cases h
    ·rename_i h3
     rcases List.mem_cons.1 hm with rfl | hm
     ·exact ⟨by omega, by omega, by simpa using h3⟩
     ·exact ckMs_mem h m hm
theorem ckMs_rises {ps : List Pk} : ∀ {l : List Mem} {prev : Option Int}, ckMs ps prev l = 0 → (∀ q, prev = some q → ∀ m ∈ l, q < m.pl) ∧ (l.map Mem.pl).Pairwise (· < ·)
 | [], _, _ => ⟨fun _ _ m hm => (by cases hm), List.Pairwise.nil⟩
 | x :: r, prev, h => by
  simp only [ckMs] at h
  split at h
  ·cases h
  ·split at h
   ·cases h
   ·rename_i h2
    split at h
    ·cases h
    ·obtain ⟨i1, i2⟩ := ckMs_rises h
     have hx : ∀ q, prev = some q → q < x.pl := fun q hq => by
      subst hq
      simp only [badPl, decide_eq_true_eq] at h2
      omega
     refine ⟨fun q hq m hm => ?_, ?_⟩
     ·rcases List.mem_cons.1 hm with rfl | hm
      ·exact hx q hq
      ·exact Int.lt_trans (hx q hq) (i1 _ rfl m hm)
     ·rw [List.map_cons, List.pairwise_cons]
      refine ⟨fun b hb => ?_, i2⟩
      obtain ⟨m, hm, rfl⟩ := List.mem_map.1 hb
      exact i1 _ rfl m hm
def ixOf (f : Qm.W) : List Qm.W → Option Nat
 | [] => none
 | g :: r => if g = f then some 0 else (ixOf f r).map (· + 1)
def onOf (on : List Bool) (k : Nat) : Bool := on.getD k false
def flagIs (p : Pk) (m : Mem) (a : At) : Bool := match ixOf a.fl p.fs with
 | some k => onOf m.on k == a.on
 | none => false
def isA (ps : List Pk) (m : Mem) (a : At) : Bool :=
 decide ((pkOf ps m.pl).nm = a.nm) && (fitsP a (pkOf ps m.pl).ver (pkOf ps m.pl).slot && (decide (a.fl = []) || flagIs (pkOf ps m.pl) m a))
theorem ixOf_lt {f : Qm.W} : ∀ {l : List Qm.W} {k : Nat}, ixOf f l = some k → k < l.length
 | [], k, h => by cases h
 | g :: r, k, h => by
  simp only [ixOf] at h
  split at h
  ·simp only [Option.some.injEq] at h; subst h; simp
  ·cases hr : ixOf f r with
   | none => rw [hr] at h; cases h
   | some j =>
    rw [hr] at h
    simp only [Option.map_some, Option.some.injEq] at h
    have := ixOf_lt hr
    simp only [List.length_cons]; omega
theorem ixOf_none {f : Qm.W} : ∀ {l : List Qm.W}, ixOf f l = none ↔ f ∉ l
 | [] => by simp [ixOf]
 | g :: r => by
  simp only [ixOf]
  by_cases hg : g = f
  ·rw [if_pos hg]; simp [hg]
  ·rw [if_neg hg]
   have := ixOf_none (f := f) (l := r)
   simp only [Option.map_eq_none_iff, List.mem_cons, not_or, this]
   exact ⟨fun h => ⟨fun e => hg e.symm, h⟩, fun h => h.2⟩
def blockB (q : Mem → Bool) (k : Nat) : Nat → List Mem → Bool
 | _, [] => true
 | i, m :: r => if i ≠ k ∧ q m = true then false else blockB q k (i + 1) r
def ifOff (ps : List Pk) (m : Mem) (f : Qm.W) (no : Bool) : Bool := match ixOf f (pkOf ps m.pl).fs with
 | some j => onOf m.on j == no
 | none => false
mutual
def holdsN (ps : List Pk) (l : List Mem) (k : Nat) (me : Mem) : Nd → Bool
 | .mk kd a f no ks =>
  if kd = 1 then l.any (fun m => isA ps m a)
  else if kd = 2 then blockB (fun m => isA ps m a) k 0 l
  else if kd = 4 then someN ps l k me ks
  else if kd = 5 ∧ ifOff ps me f no = true then true
  else allN ps l k me ks
def someN (ps : List Pk) (l : List Mem) (k : Nat) (me : Mem) : List Nd → Bool
 | [] => false
 | x :: r => holdsN ps l k me x || someN ps l k me r
def allN (ps : List Pk) (l : List Mem) (k : Nat) (me : Mem) : List Nd → Bool
 | [] => true
 | x :: r => holdsN ps l k me x && allN ps l k me r
end
theorem someN_eq {ps : List Pk} {l : List Mem} {k : Nat} {me : Mem} : ∀ {ks : List Nd}, someN ps l k me ks = ks.any (holdsN ps l k me)
 | [] => rfl
 | x :: r => by rw [someN, someN_eq, List.any_cons]
theorem allN_eq {ps : List Pk} {l : List Mem} {k : Nat} {me : Mem} : ∀ {ks : List Nd}, allN ps l k me ks = ks.all (holdsN ps l k me)
 | [] => rfl
 | x :: r => by rw [allN, allN_eq, List.all_cons]
def memAt (l : List Mem) (k : Nat) : Mem := l.getD k ⟨0, []⟩
def holdsAt (ps : List Pk) (l : List Mem) (k : Nat) : Bool := holdsN ps l k (memAt l k) (pkOf ps (memAt l k).pl).nd
def loneB (ps : List Pk) (p : Pk) : List Mem → Bool
 | [] => true
 | o :: r => if (pkOf ps o.pl).nm = p.nm ∧ (pkOf ps o.pl).slot = p.slot then false else loneB ps p r
def oneOk (ps : List Pk) (masked : List Int) (l : List Mem) (i : Nat) : Bool :=
 !masked.contains (memAt l i).pl && (holdsAt ps l i && loneB ps (pkOf ps (memAt l i).pl) (l.take i))
def allOk (ps : List Pk) (masked : List Int) (l : List Mem) : Nat → Bool
 | 0 => true
 | i + 1 => allOk ps masked l i && oneOk ps masked l i
def validP (ps : List Pk) (ts : List At) (masked : List Int) (l : List Mem) : Bool :=
 ts.all (fun a => l.any (fun m => isA ps m a)) && allOk ps masked l l.length
structure Ws where
 ts : List At
 ins : List Mem
 ms : List Int
 on : List (Int × Int)
def ckAts : List At → Int
 | [] => 0
 | a :: r => if ckAtom a ≠ 0 then ckAtom a else ckAts r
def ckMask (ps : List Pk) : Option Int → List Int → Int
 | _, [] => 0
 | prev, k :: r => if k < 0 ∨ (ps.length : Int) ≤ k then 5 else if badPl prev k = true then 6 else ckMask ps (some k) r
def badOn : Option (Int × Int) → Int × Int → Bool
 | none, _ => false
 | some q, x => !(decide (q.1 < x.1) || (decide (q.1 = x.1) && decide (q.2 < x.2)))
def ckOn (ps : List Pk) : Option (Int × Int) → List (Int × Int) → Int
 | _, [] => 0
 | prev, x :: r => if x.1 < 0 ∨ (ps.length : Int) ≤ x.1 ∨ x.2 < 0 ∨ ((pkOf ps x.1).fs.length : Int) ≤ x.2 then 5 else if badOn prev x = true then 6 else ckOn ps (some x) r
def ckWishR (ps : List Pk) (w : Ws) : Int :=
 if 6 < w.ts.length then 2 else if ckAts w.ts ≠ 0 then ckAts w.ts else if ckMask ps none w.ms ≠ 0 then ckMask ps none w.ms else ckOn ps none w.on
def ckWish (ps : List Pk) (w : Ws) : Int := if ckSet ps w.ins ≠ 0 then ckSet ps w.ins else ckWishR ps w
theorem allOk_at {ps : List Pk} {ms : List Int} {l : List Mem} : ∀ {n : Nat}, allOk ps ms l n = true → ∀ i, i < n → oneOk ps ms l i = true
 | 0, _, i, hi => by omega
 | n + 1, h, i, hi => by
  rw [allOk, Bool.and_eq_true] at h
  by_cases e : i = n
  ·subst e; exact h.2
  ·exact allOk_at h.1 i (by omega)
end Go.Proofs.YtedbhlgjcnnknaaGreatDoor

namespace Qm
def Le (N : Nat) (v w : List Int) : Prop := ∀ n, IsLit N n → vof v n = 1 → vof w n = 1
def Closed (cs : List (List Int)) (w : List Int) : Prop := ∀ c ∈ cs, (scan w c).2 ≠ 0 ∧ (scan w c).2 ≠ 1
theorem IsLit.neg {N : Nat} {n : Int} (h : IsLit N n) : IsLit N (-n) := ⟨by have := h.1; omega, by rw [Int.natAbs_neg]; exact h.2⟩
theorem Le.set {N : Nat} {v w : List Int} (hf : Fine N v) (h : Le N v w) {n : Int} (hn : IsLit N n) (hw : vof w n = 1) : Le N (vset v n) w := by
 intro k hk h1
 rw [vof_vset hf hn k hk.1] at h1
 split at h1
 ·rename_i e; rw [e]; exact hw
 ·split at h1
  ·omega
  ·exact h k hk h1
end Qm

namespace Qm
end Qm

namespace Qm
end Qm

namespace Qm
inductive Res where
 | out : Res
 | found : List Bool → Res
 | no : Nat → List (List Int) → Res
theorem vof_pos (v : List Int) (j : Nat) : vof v ((j : Int) + 1) = v.getD (j + 1) 0 := by unfold vof; rw [if_neg (by omega)]; congr 1
def LexLe (m m' : List Bool) : Prop := ∀ k, (∀ j, j < k → m.getD j false = m'.getD j false) → m.getD k false ≠ m'.getD k false → m.getD k false = false
end Qm

namespace Qm
def gate (v : Int) (l : List Int) : List (List Int) := l.map (fun n => [-v, n]) ++ [v :: l.map Neg.neg]
theorem holdsF_iff {m : List Bool} {cs : List (List Int)} : holdsF m cs = true ↔ ∀ c ∈ cs, c.any (litHolds m) = true := by
 unfold holdsF; rw [List.all_eq_true]
theorem gate_means {m : List Bool} {v : Int} {l : List Int} (hv : v ≠ 0) (hl : ∀ n ∈ l, n ≠ 0) : holdsF m (gate v l) = true ↔ litHolds m v = l.all (litHolds m) := by
 rw [holdsF_iff]
 unfold gate
 constructor
 ·intro h
  rw [Bool.eq_iff_iff, List.all_eq_true]
  constructor
  ·intro hv1 n hn
   have := h [-v, n] (List.mem_append_left _ (List.mem_map.2 ⟨n, hn, rfl⟩))
   simp only [List.any_cons, List.any_nil, Bool.or_false, litHolds_neg m hv, hv1, Bool.not_true, Bool.false_or] at this
   exact this
  ·intro ha
   have := h (v :: l.map Neg.neg) (List.mem_append_right _ (List.mem_singleton.2 rfl))
   rw [List.any_cons, Bool.or_eq_true] at this
   rcases this with h1 | h1
   ·exact h1
   ·obtain ⟨x, hx, hx1⟩ := List.any_eq_true.1 h1
    obtain ⟨n, hn, rfl⟩ := List.mem_map.1 hx
    rw [litHolds_neg m (hl n hn), ha n hn] at hx1
    cases hx1
 ·intro h c hc
  rcases List.mem_append.1 hc with hc | hc
  ·obtain ⟨n, hn, rfl⟩ := List.mem_map.1 hc
   simp only [List.any_cons, List.any_nil, Bool.or_false, litHolds_neg m hv]
   cases hvv : litHolds m v
   ·rfl
   ·rw [hvv] at h
    rw [List.all_eq_true.1 h.symm n hn]; rfl
  ·rw [List.mem_singleton.1 hc, List.any_cons]
   cases hvv : litHolds m v
   ·rw [hvv] at h
    rw [Bool.false_or, List.any_eq_true]
    obtain ⟨n, hn, hn1⟩ := List.all_eq_false.1 h.symm
    exact ⟨-n, List.mem_map.2 ⟨n, hn, rfl⟩, by rw [litHolds_neg m (hl n hn)]; simpa using hn1⟩
   ·rfl
inductive Built (M : Nat) : Nat → List (List Int) → List (List Int) → List (List Int) → Prop
 | nil : Built M M [] [] []
 | gate {v : Nat} {cs gs hs : List (List Int)} {l : List Int} : Built M v cs gs hs → (∀ n ∈ l, IsLit v n) → Built M (v + 1) (cs ++ gate ((v : Int) + 1) l) (gs ++ gate ((v : Int) + 1) l) hs
 | hard {v : Nat} {cs gs hs : List (List Int)} {c : List Int} : Built M v cs gs hs → IsCl v c → Built M v (cs ++ [c]) gs (hs ++ [c])
theorem IsLit.up {N N' : Nat} {n : Int} (h : IsLit N n) (hN : N ≤ N') : IsLit N' n := ⟨h.1, by have := h.2; omega⟩
section
variable {M v : Nat} {cs gs hs : List (List Int)}
theorem Built.le (h : Built M v cs gs hs) : M ≤ v := by
 induction h with
 | nil => exact Nat.le_refl _
 | gate _ _ ih => omega
 | hard _ _ ih => exact ih
theorem gate_cl {v : Nat} {l : List Int} (hl : ∀ n ∈ l, IsLit v n) : ∀ c ∈ gate ((v : Int) + 1) l, IsCl (v + 1) c := by
 intro c hc n hn
 have hv : IsLit (v + 1) ((v : Int) + 1) := ⟨by omega, by omega⟩
 rcases List.mem_append.1 hc with hc | hc
 ·obtain ⟨x, hx, rfl⟩ := List.mem_map.1 hc
  rcases List.mem_cons.1 hn with rfl | hn
  ·exact hv.neg
  ·rw [List.mem_singleton.1 hn]; exact (hl x hx).up (by omega)
 ·rw [List.mem_singleton.1 hc] at hn
  rcases List.mem_cons.1 hn with rfl | hn
  ·exact hv
  ·obtain ⟨x, hx, rfl⟩ := List.mem_map.1 hn
   exact ((hl x hx).neg).up (by omega)
theorem Built.cl (h : Built M v cs gs hs) : ∀ c ∈ cs, IsCl v c := by
 induction h with
 | nil => intro c hc; cases hc
 | gate _ hl ih =>
  intro c hc
  rcases List.mem_append.1 hc with hc | hc
  ·exact fun n hn => (ih c hc n hn).up (by omega)
  ·exact gate_cl hl c hc
 | hard _ hcl ih =>
  intro c hc
  rcases List.mem_append.1 hc with hc | hc
  ·exact ih c hc
  ·rw [List.mem_singleton.1 hc]; exact hcl
theorem Built.mem (h : Built M v cs gs hs) : ∀ c, c ∈ cs ↔ c ∈ gs ∨ c ∈ hs := by
 induction h with
 | nil => intro c; simp
 | gate _ _ ih => intro c; rw [List.mem_append, List.mem_append, ih c]; exact ⟨fun h => h.elim (fun h => h.elim (fun h => .inl (.inl h)) .inr) (fun h => .inl (.inr h)), fun h => h.elim (fun h => h.elim (fun h => .inl (.inl h)) .inr) (fun h => .inl (.inr h))⟩
 | hard _ _ ih => intro c; rw [List.mem_append, List.mem_append, ih c]; exact ⟨fun h => h.elim (fun h => h.elim .inl (fun h => .inr (.inl h))) (fun h => .inr (.inr h)), fun h => h.elim (fun h => .inl (.inl h)) (fun h => h.elim (fun h => .inl (.inr h)) .inr)⟩
theorem Built.holds (h : Built M v cs gs hs) {m : List Bool} : holdsF m cs = true ↔ holdsF m gs = true ∧ holdsF m hs = true := by
 rw [holdsF_iff, holdsF_iff, holdsF_iff]
 constructor
 ·intro g; exact ⟨fun c hc => g c ((h.mem c).2 (.inl hc)), fun c hc => g c ((h.mem c).2 (.inr hc))⟩
 ·rintro ⟨g1, g2⟩ c hc
  rcases (h.mem c).1 hc with hc | hc
  ·exact g1 c hc
  ·exact g2 c hc
theorem litHolds_take {m m' : List Bool} {k : Nat} (he : ∀ j, j < k → m.getD j false = m'.getD j false) {n : Int} (hn : IsLit k n) : litHolds m n = litHolds m' n := by
 unfold litHolds
 rw [he _ (by have := hn.1; have := hn.2; omega)]
theorem holdsF_take_eq {m m' : List Bool} {k : Nat} (he : ∀ j, j < k → m.getD j false = m'.getD j false) {cs : List (List Int)} (hc : ∀ c ∈ cs, IsCl k c) : holdsF m cs = holdsF m' cs := by
 rw [Bool.eq_iff_iff, holdsF_iff, holdsF_iff]
 have key : ∀ c ∈ cs, c.any (litHolds m) = c.any (litHolds m') := by
  intro c hcc
  rw [Bool.eq_iff_iff, List.any_eq_true, List.any_eq_true]
  constructor
  ·rintro ⟨n, hn, h⟩; exact ⟨n, hn, by rw [← litHolds_take he (hc c hcc n hn)]; exact h⟩
  ·rintro ⟨n, hn, h⟩; exact ⟨n, hn, by rw [litHolds_take he (hc c hcc n hn)]; exact h⟩
 constructor
 ·intro h c hcc; rw [← key c hcc]; exact h c hcc
 ·intro h c hcc; rw [key c hcc]; exact h c hcc
theorem Built.gcl (h : Built M v cs gs hs) : ∀ c ∈ gs, IsCl v c := fun c hc => h.cl c ((h.mem c).2 (.inl hc))
theorem getD_app_left {α : Type} {d : α} {l r : List α} {j : Nat} (hj : j < l.length) : (l ++ r).getD j d = l.getD j d := by
 rw [List.getD_eq_getElem?_getD, List.getD_eq_getElem?_getD, List.getElem?_append_left hj]
theorem Built.ext (h : Built M v cs gs hs) (m0 : List Bool) (h0 : m0.length = M) : ∃ m : List Bool, m.length = v ∧ (∀ j, j < M → m.getD j false = m0.getD j false) ∧ holdsF m gs = true := by
 induction h with
 | nil => exact ⟨m0, h0, fun _ _ => rfl, rfl⟩
 | @gate v cs gs hs l hb hl ih =>
  obtain ⟨m, h1, h2, h3⟩ := ih
  have hagree : ∀ j, j < v → (m ++ [l.all (litHolds m)]).getD j false = m.getD j false := fun j hj => getD_app_left (by omega)
  refine ⟨m ++ [l.all (litHolds m)], by simp [h1], fun j hj => ?_, ?_⟩
  ·rw [hagree j (Nat.lt_of_lt_of_le hj hb.le), h2 j hj]
  ·have e1 : holdsF (m ++ [l.all (litHolds m)]) gs = true := by rw [holdsF_take_eq hagree hb.gcl]; exact h3
   have e2 : holdsF (m ++ [l.all (litHolds m)]) (Qm.gate ((v : Int) + 1) l) = true := by
    rw [gate_means (by omega) (fun n hn => (hl n hn).1)]
    have : l.all (litHolds (m ++ [l.all (litHolds m)])) = l.all (litHolds m) := by
     rw [Bool.eq_iff_iff, List.all_eq_true, List.all_eq_true]
     constructor
     ·intro g n hn; rw [← litHolds_take hagree (hl n hn)]; exact g n hn
     ·intro g n hn; rw [litHolds_take hagree (hl n hn)]; exact g n hn
    rw [this]
    generalize l.all (litHolds m) = b
    unfold litHolds
    have hi : ((v : Int) + 1).natAbs - 1 = v := by omega
    rw [hi, List.getD_eq_getElem?_getD, List.getElem?_append_right (by omega), h1, Nat.sub_self]
    have hp : (0 : Int) < (v : Int) + 1 := by omega
    rw [decide_eq_true hp]
    cases b <;> rfl
   rw [holdsF_iff] at e1 e2 ⊢
   intro c hc
   rcases List.mem_append.1 hc with hc | hc
   ·exact e1 c hc
   ·exact e2 c hc
 | hard _ _ ih => exact ih
theorem Built.one_ (h : Built M v cs gs hs) {m m' : List Bool} (he : ∀ j, j < M → m.getD j false = m'.getD j false) (h1 : holdsF m gs = true) (h2 : holdsF m' gs = true) : ∀ j, j < v → m.getD j false = m'.getD j false := by
 induction h with
 | nil => exact he
 | @gate v cs gs hs l hb hl ih =>
  have s1 := holdsF_iff.1 h1
  have s2 := holdsF_iff.1 h2
  have ih := ih (holdsF_iff.2 fun c hc => s1 c (List.mem_append_left _ hc)) (holdsF_iff.2 fun c hc => s2 c (List.mem_append_left _ hc))
  intro j hj
  by_cases e : j = v
  ·have g1 := (gate_means (m := m) (v := (v : Int) + 1) (l := l) (by omega) (fun n hn => (hl n hn).1)).1 (holdsF_iff.2 fun c hc => s1 c (List.mem_append_right _ hc))
   have g2 := (gate_means (m := m') (v := (v : Int) + 1) (l := l) (by omega) (fun n hn => (hl n hn).1)).1 (holdsF_iff.2 fun c hc => s2 c (List.mem_append_right _ hc))
   have : l.all (litHolds m) = l.all (litHolds m') := by
    rw [Bool.eq_iff_iff, List.all_eq_true, List.all_eq_true]
    constructor
    ·intro g n hn; rw [← litHolds_take ih (hl n hn)]; exact g n hn
    ·intro g n hn; rw [litHolds_take ih (hl n hn)]; exact g n hn
   rw [this, ← g2] at g1
   unfold litHolds at g1
   have hi : ((v : Int) + 1).natAbs - 1 = v := by omega
   have hp : (0 : Int) < (v : Int) + 1 := by omega
   rw [hi, decide_eq_true hp] at g1
   subst e
   cases h5 : m.getD j false <;> cases h6 : m'.getD j false <;> rw [h5, h6] at g1 <;> first | rfl | (exact absurd g1 (by decide))
  ·exact ih j (by omega)
 | hard _ _ ih => exact ih h1 h2
theorem scan_inv0 (w c : List Int) : ScanSays w c (scan w c) := by
 have := scan_inv w c [] (0, 0) (.inr (.inl ⟨rfl, fun x hx => by cases hx⟩))
 simpa [scan] using this
theorem Built.total {N : Nat} {w : List Int} (hw : Fine N w) (h : Built M v cs gs hs) (hv : v ≤ N) (hcl : Closed cs w) (h0 : ∀ j, j < M → w.getD (j + 1) 0 ≠ 0) : ∀ j, j < v → w.getD (j + 1) 0 ≠ 0 := by
 induction h with
 | nil => exact h0
 | @gate v cs gs hs l hb hl ih =>
  have ih := ih (by omega) (fun c hc => hcl c (List.mem_append_left _ hc))
  intro j hj
  by_cases e : j = v
  ·subst e
   have hlit : ∀ n ∈ l, vof w n = 1 ∨ vof w n = -1 := by
    intro n hn
    have hn1 := hl n hn
    have : vof w n ≠ 0 := by
     unfold vof
     by_cases hneg : n < 0
     ·rw [if_pos hneg]
      have := ih ((-n).toNat - 1) (by have := hn1.2; omega)
      have e1 : (-n).toNat - 1 + 1 = (-n).toNat := by omega
      rw [e1] at this; omega
     ·rw [if_neg hneg]
      have := ih (n.toNat - 1) (by have := hn1.1; have := hn1.2; omega)
      have e1 : n.toNat - 1 + 1 = n.toNat := by have := hn1.1; omega
      rw [e1] at this; exact this
    rcases vof_range hw n with h | h | h
    ·exact absurd h this
    ·exact .inl h
    ·exact .inr h
   intro hz
   have hvz : vof w ((j : Int) + 1) = 0 := by rw [vof_pos]; exact hz
   have hvn : vof w (-((j : Int) + 1)) = 0 := by rw [vof_neg w _ (by omega), hvz]; rfl
   by_cases ha : ∃ n ∈ l, vof w n = -1
   ·obtain ⟨n, hn, hn1⟩ := ha
    have hc := hcl [-((j : Int) + 1), n] (List.mem_append_right _ (List.mem_append_left _ (List.mem_map.2 ⟨n, hn, rfl⟩)))
    rcases scan_inv0 w [-((j : Int) + 1), n] with ⟨_, x, hx, hx1⟩ | ⟨h2, _⟩ | ⟨h2, _⟩ | ⟨_, _, x, hx, y, hy, hxy, hx0, hy0⟩
    ·rcases List.mem_cons.1 hx with rfl | hx
     ·rw [hvn] at hx1; cases hx1
     ·rw [List.mem_singleton.1 hx, hn1] at hx1; cases hx1
    ·exact hc.1 h2
    ·exact hc.2 h2
    ·have g : ∀ z ∈ [-((j : Int) + 1), n], vof w z = 0 → z = -((j : Int) + 1) := by
      intro z hz hz0
      rcases List.mem_cons.1 hz with rfl | hz
      ·rfl
      ·rw [List.mem_singleton.1 hz, hn1] at hz0; cases hz0
     exact hxy ((g x hx hx0).trans (g y hy hy0).symm)
   ·have hall : ∀ n ∈ l, vof w (-n) = -1 := by
     intro n hn
     rw [vof_neg w n (hl n hn).1]
     rcases hlit n hn with h | h
     ·rw [h]
     ·exact absurd ⟨n, hn, h⟩ ha
    have hc := hcl (((j : Int) + 1) :: l.map Neg.neg) (List.mem_append_right _ (List.mem_append_right _ (List.mem_singleton.2 rfl)))
    have g : ∀ z ∈ ((j : Int) + 1) :: l.map Neg.neg, z = (j : Int) + 1 ∨ vof w z = -1 := by
     intro z hz
     rcases List.mem_cons.1 hz with rfl | hz
     ·exact .inl rfl
     ·obtain ⟨n, hn, rfl⟩ := List.mem_map.1 hz
      exact .inr (hall n hn)
    rcases scan_inv0 w (((j : Int) + 1) :: l.map Neg.neg) with ⟨_, x, hx, hx1⟩ | ⟨h2, _⟩ | ⟨h2, _⟩ | ⟨_, _, x, hx, y, hy, hxy, hx0, hy0⟩
    ·rcases g x hx with rfl | h
     ·rw [hvz] at hx1; cases hx1
     ·rw [h] at hx1; cases hx1
    ·exact hc.1 h2
    ·exact hc.2 h2
    ·have g2 : ∀ z ∈ ((j : Int) + 1) :: l.map Neg.neg, vof w z = 0 → z = (j : Int) + 1 := by
      intro z hz hz0
      rcases g z hz with h | h
      ·exact h
      ·rw [h] at hz0; cases hz0
     exact hxy ((g2 x hx hx0).trans (g2 y hy hy0).symm)
  ·exact ih j (by omega)
 | hard _ _ ih => exact ih hv (fun c hc => hcl c (List.mem_append_left _ hc))
end
end Qm

namespace Qm
inductive Comes (e : Nat → Nat → Bool) : Nat → Nat → Prop
 | one {i j : Nat} : e i j = true → Comes e i j
 | more {i j k : Nat} : e i j = true → Comes e j k → Comes e i k
structure PSt where
 done : Nat → Bool
 num : Nat → Nat
 cyc : Nat
theorem length_filter_lt {α : Type} {p q : α → Bool} (hpq : ∀ k, p k = true → q k = true) {x : α} (hx : p x = false) (hy : q x = true) : ∀ {l : List α}, x ∈ l → (l.filter p).length < (l.filter q).length
 | y :: l, hm => by
  have hle : ∀ l : List α, (l.filter p).length ≤ (l.filter q).length := by
   intro l
   induction l with
   | nil => exact Nat.le_refl _
   | cons z l ih =>
    simp only [List.filter_cons]
    cases hp : p z
    ·cases q z <;> simp <;> omega
    ·rw [hpq z hp]; simp; omega
  simp only [List.filter_cons]
  rcases List.mem_cons.1 hm with rfl | hm
  ·rw [hx, hy]
   have := hle l
   simp; omega
  ·have ih := length_filter_lt hpq hx hy hm
   cases hp : p y
   ·cases q y <;> simp <;> omega
   ·rw [hpq y hp]; simp; omega
end Qm
