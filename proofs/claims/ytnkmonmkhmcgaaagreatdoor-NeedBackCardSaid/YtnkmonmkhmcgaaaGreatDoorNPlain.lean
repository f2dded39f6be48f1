import Derived.Test.YtnkmonmkhmcgaaaGreatDoorAPlain2
namespace Qm
open Go

/-! Needs, in plain words: no program in sight. -/

abbrev W := List UInt8

inductive Nd where
  | mk (kind : Int) (a : At) (fl : W) (no : Bool) (kids : List Nd)

def Nd.kind : Nd → Int | .mk k _ _ _ _ => k
def Nd.a : Nd → At | .mk _ a _ _ _ => a
def Nd.fl : Nd → W | .mk _ _ f _ _ => f
def Nd.no : Nd → Bool | .mk _ _ _ n _ => n
def Nd.kids : Nd → List Nd | .mk _ _ _ _ ks => ks
def Nd.zero : Nd := .mk 0 At.zero [] false []

theorem Nd.ind {P : Nd → Prop} (h : ∀ k a f no ks, (∀ x ∈ ks, P x) → P (.mk k a f no ks)) : ∀ n, P n
  | .mk k a f no ks => h k a f no ks fun x _ => Nd.ind h x

mutual
def Nd.nodes : Nd → Nat
  | .mk _ _ _ _ ks => 1 + nodesL ks
def nodesL : List Nd → Nat
  | [] => 0
  | k :: r => k.nodes + nodesL r
end
mutual
def Nd.deep : Nd → Nat
  | .mk _ _ _ _ ks => 1 + deepL ks
def deepL : List Nd → Nat
  | [] => 0
  | k :: r => max k.deep (deepL r)
end

/-! ### the program's count -/
mutual
def cnt : Nd → Nat → Int → Option Int
  | .mk _ _ _ _ ks, d, m => if 4 < d then none else cntL ks d m 1
def cntL : List Nd → Nat → Int → Int → Option Int
  | [], _, _, all => some all
  | k :: r, d, m, all => if m < all then some all else match cnt k (d + 1) (m - all) with
    | none => none
    | some c => cntL r d m (all + c)
end

theorem cntL_spec {ks : List Nd} (ih : ∀ x ∈ ks, ∀ (d : Nat) (m : Int), 1 ≤ d → (∀ c, cnt x d m = some c → 1 ≤ c ∧ (c ≤ m → c = x.nodes ∧ d + x.deep ≤ 5)) ∧ ((x.nodes : Int) ≤ m → d + x.deep ≤ 5 → cnt x d m = some (x.nodes : Int)) ∧ (cnt x d m = none → 5 < d + x.deep)) :
    ∀ (d : Nat) (m all : Int), 1 ≤ d → 1 ≤ all → d ≤ 4 → (∀ c, cntL ks d m all = some c → all ≤ c ∧ (c ≤ m → c = all + nodesL ks ∧ d + deepL ks ≤ 4)) ∧ (all + nodesL ks ≤ m → d + deepL ks ≤ 4 → cntL ks d m all = some (all + (nodesL ks : Int))) ∧ (cntL ks d m all = none → 4 < d + deepL ks) := by
  induction ks with
  | nil =>
    intro d m all hd ha hd4
    refine ⟨?_, ?_, ?_⟩
    · intro c hc
      simp only [cntL, Option.some.injEq] at hc
      simp only [nodesL, deepL]
      omega
    · intro _ _; simp [cntL, nodesL]
    · intro h; simp [cntL] at h
  | cons k r ihr =>
    intro d m all hd ha hd4
    have ik := ih k (List.mem_cons_self ..) (d + 1) (m - all) (by omega)
    have ir := ihr fun x hx => ih x (List.mem_cons_of_mem _ hx)
    simp only [cntL, nodesL, deepL]
    by_cases hm : m < all
    · rw [if_pos hm]
      refine ⟨?_, ?_, ?_⟩
      · intro c hc
        simp only [Option.some.injEq] at hc
        omega
      · intro h; omega
      · intro h; cases h
    · rw [if_neg hm]
      obtain ⟨i1, i2, i3⟩ := ik
      cases hk : cnt k (d + 1) (m - all) with
      | none =>
        have := i3 hk
        refine ⟨fun c hc => (by cases hc), fun h1 h2 => ?_, fun _ => by omega⟩
        have := i2 (by omega) (by omega)
        rw [hk] at this; cases this
      | some c =>
        obtain ⟨h1, h2⟩ := i1 c hk
        obtain ⟨r1, r2, r3⟩ := ir d m (all + c) hd (by omega) hd4
        simp only []
        refine ⟨?_, ?_, ?_⟩
        · intro e he
          obtain ⟨q1, q2⟩ := r1 e he
          refine ⟨by omega, fun hem => ?_⟩
          obtain ⟨p1, p2⟩ := q2 hem
          obtain ⟨s1, s2⟩ := h2 (by omega)
          omega
        · intro q1 q2
          have hc' := i2 (by omega) (by omega)
          rw [hk] at hc'
          simp only [Option.some.injEq] at hc'
          rw [r2 (by omega) (by omega)]
          congr 1; omega
        · intro e
          have := r3 e
          omega

theorem cnt_spec : ∀ (n : Nd) (d : Nat) (m : Int), 1 ≤ d → (∀ c, cnt n d m = some c → 1 ≤ c ∧ (c ≤ m → c = n.nodes ∧ d + n.deep ≤ 5)) ∧ ((n.nodes : Int) ≤ m → d + n.deep ≤ 5 → cnt n d m = some (n.nodes : Int)) ∧ (cnt n d m = none → 5 < d + n.deep) := by
  refine Nd.ind fun k a f no ks ih => ?_
  intro d m hd
  simp only [cnt, Nd.nodes, Nd.deep]
  by_cases h : 4 < d
  · rw [if_pos h]
    exact ⟨fun c hc => (by cases hc), fun _ h2 => by omega, fun _ => by omega⟩
  · rw [if_neg h]
    obtain ⟨r1, r2, r3⟩ := cntL_spec ih d m 1 hd (by omega) (by omega)
    refine ⟨?_, ?_, ?_⟩
    · intro c hc
      obtain ⟨q1, q2⟩ := r1 c hc
      refine ⟨q1, fun h => ?_⟩
      obtain ⟨p1, p2⟩ := q2 h
      omega
    · intro h1 h2
      rw [r2 (by omega) (by omega)]
      congr 1
    · intro h
      have := r3 h
      omega

theorem cntL_le {ks : List Nd} (ih : ∀ x ∈ ks, ∀ (d : Nat) (m c : Int), 0 ≤ m → cnt x d m = some c → c ≤ m + 1) :
    ∀ (d : Nat) (m all c : Int), all ≤ m + 1 → cntL ks d m all = some c → c ≤ m + 1 := by
  induction ks with
  | nil => intro d m all c h1 h; simp only [cntL, Option.some.injEq] at h; omega
  | cons k r ihr =>
    intro d m all c h1 h
    simp only [cntL] at h
    split at h
    · simp only [Option.some.injEq] at h; omega
    · split at h
      · cases h
      · rename_i c' hc'
        have := ih k (List.mem_cons_self ..) _ _ _ (by omega) hc'
        exact ihr (fun x hx => ih x (List.mem_cons_of_mem _ hx)) d m _ c (by omega) h
theorem cnt_le : ∀ (n : Nd) (d : Nat) (m c : Int), 0 ≤ m → cnt n d m = some c → c ≤ m + 1 := by
  refine Nd.ind fun k a f no ks ih => ?_
  intro d m c hm h
  simp only [cnt] at h
  split at h
  · cases h
  · exact cntL_le ih d m 1 c (by omega) h

def tooMany (n : Nd) : Prop := 4 < n.deep ∨ 20 < n.nodes
instance (n : Nd) : Decidable (tooMany n) := by unfold tooMany; exact inferInstance
theorem cnt_many (n : Nd) : (∀ c, cnt n 1 20 = some c → (20 < c ↔ tooMany n)) ∧ (cnt n 1 20 = none → tooMany n) := by
  obtain ⟨r1, r2, r3⟩ := cnt_spec n 1 20 (by omega)
  unfold tooMany
  refine ⟨?_, ?_⟩
  · intro c hc
    obtain ⟨q1, q2⟩ := r1 c hc
    constructor
    · intro h
      by_cases h1 : (n.nodes : Int) ≤ 20 ∧ 1 + n.deep ≤ 5
      · have := r2 h1.1 h1.2
        rw [hc] at this
        simp only [Option.some.injEq] at this
        omega
      · omega
    · intro h
      by_cases h1 : c ≤ 20
      · obtain ⟨p1, p2⟩ := q2 h1
        omega
      · omega
  · intro h
    have := r3 h
    omega

/-! ### what a need must be -/
def leafK (k : Int) : Bool := decide (k = 1 ∨ k = 2)
mutual
def ckNd : Nd → Int
  | .mk k a f no ks =>
    if k < 1 ∨ 5 < k then 4
    else if leafK k = true ∧ ks.length ≠ 0 then 4
    else if leafK k = false ∧ a ≠ At.zero then 4
    else if k ≠ 5 ∧ (f ≠ [] ∨ no = true) then 4
    else if k = 5 ∧ isName f = false then 1
    else if leafK k = true then ckAtom a
    else ckKids ks
def ckKids : List Nd → Int
  | [] => 0
  | k :: r => if ckNd k = 0 then ckKids r else ckNd k
end
def ckNeed (n : Nd) : Int := if tooMany n then 2 else ckNd n

theorem ckKids_zero : ∀ {ks : List Nd}, ckKids ks = 0 ↔ ∀ x ∈ ks, ckNd x = 0
  | [] => by simp [ckKids]
  | k :: r => by
    simp only [ckKids, List.forall_mem_cons]
    by_cases h : ckNd k = 0
    · rw [if_pos h, ckKids_zero]; simp [h]
    · rw [if_neg h]; simp [h]

/-! ### words -/
def prAtom (a : At) : W := if ckAtom a = 0 then textOf a else []
def headW (k : Int) (f : W) (no : Bool) : List W := if k = 4 then [[124, 124]] else if k = 5 then [(if no then [33] else []) ++ (f ++ [63])] else []
mutual
def wordsN : Nd → List W
  | .mk k a f no ks => if k = 1 then [prAtom a] else if k = 2 then [33 :: prAtom a] else headW k f no ++ [40] :: (wordsL ks ++ [[41]])
def wordsL : List Nd → List W
  | [] => []
  | k :: r => wordsN k ++ wordsL r
end

def joinB (c : UInt8) : List W → W
  | [] => []
  | w :: r => match r with
    | [] => w
    | _ => w ++ c :: joinB c r
def splitGo (c : UInt8) : W → W → List W
  | acc, [] => [acc]
  | acc, x :: r => if x = c then acc :: splitGo c [] r else splitGo c (acc ++ [x]) r
def splitB (c : UInt8) (l : W) : List W := splitGo c [] l

def ndText (n : Nd) : W := joinB 32 (wordsN n)
def printNdE (n : Nd) : Int := ckNeed n
def printNd (n : Nd) : W := if ckNeed n = 0 then ndText n else []

/-! ### reading -/
def readKids (rd : List W → Option (Nd × List W)) : Nat → List W → Option (List Nd × List W)
  | 0, _ => none
  | f + 1, ws => match ws with
    | [] => some ([], [])
    | w :: r => if w = [41] then some ([], w :: r) else match rd (w :: r) with
      | none => none
      | some (k, ws') => match readKids rd f ws' with
        | none => none
        | some (ks, ws'') => some (k :: ks, ws'')
def closeB (k : Int) (fl : W) (no : Bool) : Option (List Nd × List W) → Option (Nd × List W)
  | none => none
  | some (ks, ws') => match ws' with
    | [] => none
    | w :: r => if w = [41] then some (.mk k At.zero fl no ks, r) else none
def readBody (rd : List W → Option (Nd × List W)) (k : Int) (fl : W) (no : Bool) (ws : List W) : Option (Nd × List W) :=
  closeB k fl no (readKids rd (ws.length + 1) ws)
def openB (rd : List W → Option (Nd × List W)) (k : Int) (fl : W) (no : Bool) : List W → Option (Nd × List W)
  | [] => none
  | w :: r => if w = [40] then readBody rd k fl no r else none
def cutBang : W → W × Bool
  | [] => ([], false)
  | c :: r => if c = 33 then (r, true) else (c :: r, false)
def leafB (t : W) (b : Bool) (r : List W) : Option (Nd × List W) :=
  if (parseAt t).2 = 0 then some (.mk (if b then 2 else 1) (parseAt t).1 [] false [], r) else none
def readS (rd : List W → Option (Nd × List W)) (s : W) (r : List W) : Option (Nd × List W) :=
  if s = [40] then readBody rd 3 [] false r
  else if s = [124, 124] then openB rd 4 [] false r
  else if s.getLast? = some 63 then
    (if isName (cutBang s.dropLast).1 then openB rd 5 (cutBang s.dropLast).1 (cutBang s.dropLast).2 r else none)
  else leafB (cutBang s).1 (cutBang s).2 r
def readN : Nat → List W → Option (Nd × List W)
  | 0, _ => none
  | d + 1, ws => readS (readN d) (ws.headD []) ws.tail
theorem readN_cons (d : Nat) (s : W) (r : List W) : readN (d + 1) (s :: r) = readS (readN d) s r := rfl

def finNd (n : Nd) : Nd × Int := if ckNeed n = 0 then (n, 0) else (Nd.zero, ckNeed n)
def toldNd : Option (Nd × List W) → Nd × Int
  | some (n, []) => finNd n
  | _ => (Nd.zero, 1)
def parseNd (l : W) : Nd × Int := if 20000 < l.length then (Nd.zero, 2) else toldNd (readN 4 (splitB 32 l))
end Qm
