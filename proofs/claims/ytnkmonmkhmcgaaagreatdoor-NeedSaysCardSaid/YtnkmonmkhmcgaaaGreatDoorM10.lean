/- Parts of the proof: walks and plain laws, side by side. -/
import Derived.Test.YtnkmonmkhmcgaaaGreatDoorM2
import Derived.Test.YtnkmonmkhmcgaaaGreatDoorM4
import Derived.Lib.SlicesCompact
import Derived.WalkLawsBesides
import Derived.Sort.Walk0
import Derived.Test.YtnkmonmkhmcgaaaGreatDoorM9
import Derived.Test.YtnkmonmkhmcgaaaGreatDoorShelf
import Derived.Test.YtnkmonmkhmcgaaaGreatDoorM3
import Derived.Test.YtnkmonmkhmcgaaaGreatDoorM1
import Derived.Test.YtnkmonmkhmcgaaaGreatDoorM5
import Derived.Test.YtnkmonmkhmcgaaaGreatDoorM6
import Derived.Test.YtnkmonmkhmcgaaaGreatDoorM7
import Derived.Test.YtnkmonmkhmcgaaaGreatDoorM8
set_option linter.unusedVariables false
set_option linter.unusedSimpArgs false
set_option linter.unusedSectionVars false
namespace Qm
open Go

/-! Trees, in plain words: no program in sight. -/

structure Pk where
  nm : W
  ver : Int
  slot : Int
  fs : List W
  nd : Nd

def badNext : Option W → W → Bool
  | none, _ => false
  | some p, f => decide (f ≤ p)
def ckFlags : Option W → List W → Int
  | _, [] => 0
  | prev, f :: r => if isName f = false then 1 else if badNext prev f = true then 6 else ckFlags (some f) r
def ckPk (p : Pk) : Int :=
  if isName p.nm = false then 1
  else if p.ver < 1 ∨ 99 < p.ver ∨ p.slot < 1 ∨ 9 < p.slot then 3
  else if 2 < p.fs.length then 2
  else if ckFlags none p.fs ≠ 0 then ckFlags none p.fs
  else if p.nd.kind ≠ 3 then 4
  else if ckNeed p.nd ≠ 0 then ckNeed p.nd
  else if (flagsN p.nd).all (fun f => p.fs.contains f) = true then 0 else 5
def beforeP (a b : Pk) : Bool := decide (a.nm < b.nm) || (decide (a.nm = b.nm) && decide (a.ver < b.ver))
def badPk : Option Pk → Pk → Bool
  | none, _ => false
  | some q, p => !beforeP q p
def ckT : Option Pk → Nat → List Pk → Int
  | _, _, [] => 0
  | prev, n, p :: r => if ckPk p ≠ 0 then ckPk p else if badPk prev p = true then 6 else if 14 < n + p.fs.length then 2 else ckT (some p) (n + p.fs.length) r
def ckTree (ps : List Pk) : Int := if 8 < ps.length then 2 else ckT none ps.length ps

/-! ### text -/
def pkLine (p : Pk) : W := p.nm ++ (32 :: Lib.itoa p.ver ++ (32 :: Lib.itoa p.slot ++ (32 :: joinB 44 p.fs ++ (32 :: ndText p.nd))))
def treeText : List Pk → W
  | [] => []
  | p :: r => pkLine p ++ 10 :: treeText r

/-! ### reading -/
def cut4 (l : W) : Option (W × W × W × W × W) :=
  match cutAt (· == 32) l with
  | none => none
  | some (a, _, l1) => match cutAt (· == 32) l1 with
    | none => none
    | some (b, _, l2) => match cutAt (· == 32) l2 with
      | none => none
      | some (c, _, l3) => match cutAt (· == 32) l3 with
        | none => none
        | some (d, _, e) => some (a, b, c, d, e)
def fsOf (d : W) : List W := if d = [] then [] else splitB 44 d
def parseLine (l : W) : Except Int Pk :=
  match cut4 l with
  | none => .error 1
  | some (a, b, c, d, e) => match number b, number c with
    | some v, some k => if (parseNd e).2 = 1 then .error 1 else if (parseNd e).2 ≠ 0 then .error (parseNd e).2 else .ok ⟨a, v, k, fsOf d, (parseNd e).1⟩
    | _, _ => .error 1
/-- Line by line: what is read, or the line and its error. -/
def parseLines : Nat → Nat → W → Except (Nat × Int) (List Pk)
  | 0, _, _ => .ok []
  | f + 1, i, s => if s = [] then .ok [] else match cutAt (· == 10) s with
    | none => .error (i, 1)
    | some (l, _, rest) => match parseLine l with
      | .error e => .error (i, e)
      | .ok p => match parseLines f (i + 1) rest with
        | .error e => .error e
        | .ok ps => .ok (p :: ps)
def parseTree (s : W) : List Pk × Nat × Int :=
  if 20000 < s.length then ([], 0, 2) else match parseLines (s.length + 1) 0 s with
    | .error (i, e) => ([], i, e)
    | .ok ps => if ckTree ps = 0 then (ps, 0, 0) else ([], 0, ckTree ps)

/-! ### what a right tree is -/
theorem ckT_mem : ∀ {ps : List Pk} {prev : Option Pk} {n : Nat}, ckT prev n ps = 0 → ∀ p ∈ ps, ckPk p = 0
  | [], _, _, _, p, hp => by cases hp
  | q :: r, prev, n, h, p, hp => by
    simp only [ckT] at h
    by_cases h1 : ckPk q = 0
    · rw [if_neg (by simpa using h1)] at h
      split at h
      · cases h
      · split at h
        · cases h
        · rcases List.mem_cons.1 hp with rfl | hp
          · exact h1
          · exact ckT_mem h p hp
    · rw [if_pos h1] at h
      exact absurd h h1
theorem ckTree_mem {ps : List Pk} (h : ckTree ps = 0) : ∀ p ∈ ps, ckPk p = 0 := by
  unfold ckTree at h
  split at h
  · cases h
  · exact ckT_mem h
structure PkOk (p : Pk) : Prop where
  nm : isName p.nm = true
  ver : 1 ≤ p.ver ∧ p.ver ≤ 99
  slot : 1 ≤ p.slot ∧ p.slot ≤ 9
  len : p.fs.length ≤ 2
  fs : ckFlags none p.fs = 0
  kind : p.nd.kind = 3
  nd : ckNeed p.nd = 0
  sub : ∀ f ∈ flagsN p.nd, f ∈ p.fs
theorem pkOk {p : Pk} (h : ckPk p = 0) : PkOk p := by
  unfold ckPk at h
  split at h
  · cases h
  split at h
  · cases h
  split at h
  · cases h
  split at h
  · rename_i h4; exact absurd h h4
  split at h
  · cases h
  split at h
  · rename_i h6; exact absurd h h6
  split at h
  · rename_i h1 h2 h3 h4 h5 h6 h7
    refine ⟨by simpa using h1, by omega, by omega, by omega, by simpa using h4, by simpa using h5, by simpa using h6, fun f hf => ?_⟩
    have := List.all_eq_true.1 h7 f hf
    simpa using this
  · cases h
theorem ckFlags_names : ∀ {fs : List W} {prev : Option W}, ckFlags prev fs = 0 → ∀ f ∈ fs, isName f = true
  | [], _, _, f, hf => by cases hf
  | g :: r, prev, h, f, hf => by
    simp only [ckFlags] at h
    split at h
    · cases h
    · rename_i h1
      split at h
      · cases h
      · rcases List.mem_cons.1 hf with rfl | hf
        · simpa using h1
        · exact ckFlags_names h f hf

/-! ### what is printed is read -/
theorem name_no {l : W} (h : isName l = true) (d : UInt8) (hd : plainB d = false) : ∀ x ∈ l, (x == d) = false := fun x hx => by
  rw [beq_eq_false_iff_ne]; exact plain_ne (name_plain h x hx) hd
theorem itoa_no {n : Int} (h : 0 ≤ n) (d : UInt8) (hd : plainB d = false) : ∀ x ∈ Lib.itoa n, (x == d) = false := fun x hx => by
  rw [beq_eq_false_iff_ne]; exact plain_ne (low_plain (.inr (itoa_mem h x hx))) hd
theorem join_no {fs : List W} (h : ∀ f ∈ fs, isName f = true) (d : UInt8) (hd : plainB d = false) (h44 : d ≠ 44) : ∀ x ∈ joinB 44 fs, (x == d) = false := by
  induction fs with
  | nil => intro x hx; cases hx
  | cons f r ih =>
    intro x hx
    cases r with
    | nil => exact name_no (h f (List.mem_cons_self ..)) d hd x hx
    | cons g r =>
      rw [join_cons (by simp)] at hx
      rcases List.mem_append.1 hx with hx | hx
      · exact name_no (h f (List.mem_cons_self ..)) d hd x hx
      · rcases List.mem_cons.1 hx with rfl | hx
        · rw [beq_eq_false_iff_ne]; exact fun e => h44 e.symm
        · exact ih (fun y hy => h y (List.mem_cons_of_mem _ hy)) x hx
theorem fsOf_join {fs : List W} (h : ∀ f ∈ fs, isName f = true) : fsOf (joinB 44 fs) = fs := by
  cases fs with
  | nil => rfl
  | cons f r =>
    have hf := h f (List.mem_cons_self ..)
    have hne : joinB 44 (f :: r) ≠ [] := by
      have hl := (isName_len hf).1
      cases r with
      | nil => intro e; change f = [] at e; rw [e] at hl; simp at hl
      | cons g r => rw [join_cons (by simp)]; simp
    unfold fsOf
    rw [if_neg hne]
    exact split_join (by simp) fun w hw x hx => by
      have := name_no (h w hw) 44 rfl x hx
      simpa using this
theorem cut4_line {p : Pk} (h : PkOk p) : cut4 (pkLine p) = some (p.nm, Lib.itoa p.ver, Lib.itoa p.slot, joinB 44 p.fs, ndText p.nd) := by
  have hv := h.ver
  have hs := h.slot
  unfold cut4 pkLine
  simp only [List.cons_append]
  rw [cutAt_some (c := 32) rfl (name_no h.nm 32 rfl)]
  simp only []
  rw [cutAt_some (c := 32) rfl (itoa_no (by omega) 32 rfl)]
  simp only []
  rw [cutAt_some (c := 32) rfl (itoa_no (by omega) 32 rfl)]
  simp only []
  rw [cutAt_some (c := 32) rfl (join_no (ckFlags_names h.fs) 32 rfl (by decide))]
theorem parseLine_line {p : Pk} (h : PkOk p) : parseLine (pkLine p) = .ok p := by
  have hv := h.ver
  have hs := h.slot
  unfold parseLine
  rw [cut4_line h]
  simp only []
  rw [number_nat (n := p.ver) (by omega) (by omega), number_nat (n := p.slot) (by omega) (by omega), parseNd_text h.nd, fsOf_join (ckFlags_names h.fs)]
  rfl
theorem nd_no {n : Nd} (h : ckNeed n = 0) : ∀ x ∈ ndText n, (x == 10) = false := by
  have hp := wordsN_plain (ckNeed_zero h).2.2
  have : ∀ (ws : List W), (∀ w ∈ ws, ∀ x ∈ w, x ≠ 32 ∧ x ≠ 10) → ∀ x ∈ joinB 32 ws, x ≠ 10 := by
    intro ws
    induction ws with
    | nil => intro _ x hx; cases hx
    | cons w r ih =>
      intro hw x hx
      cases r with
      | nil => exact (hw w (List.mem_cons_self ..) x hx).2
      | cons v r =>
        rw [join_cons (by simp)] at hx
        rcases List.mem_append.1 hx with hx | hx
        · exact (hw w (List.mem_cons_self ..) x hx).2
        · rcases List.mem_cons.1 hx with rfl | hx
          · decide
          · exact ih (fun y hy => hw y (List.mem_cons_of_mem _ hy)) x hx
  intro x hx
  rw [beq_eq_false_iff_ne]
  exact this _ hp x hx
theorem line_no {p : Pk} (h : PkOk p) : ∀ x ∈ pkLine p, (x == 10) = false := by
  have hv := h.ver
  have hs := h.slot
  intro x hx
  unfold pkLine at hx
  simp only [List.cons_append, List.mem_append, List.mem_cons] at hx
  rcases hx with hx | rfl | hx | rfl | hx | rfl | hx | rfl | hx
  · exact name_no h.nm 10 rfl x hx
  · rfl
  · exact itoa_no (by omega) 10 rfl x hx
  · rfl
  · exact itoa_no (by omega) 10 rfl x hx
  · rfl
  · exact join_no (ckFlags_names h.fs) 10 rfl (by decide) x hx
  · rfl
  · exact nd_no h.nd x hx
theorem parseLines_step {s l rest : W} {x : UInt8} {p : Pk} {ps : List Pk} {f i : Nat} (h : s ≠ []) (hc : cutAt (· == 10) s = some (l, x, rest)) (hp : parseLine l = .ok p)
    (hr : parseLines f (i + 1) rest = .ok ps) : parseLines (f + 1) i s = .ok (p :: ps) := by
  unfold parseLines
  rw [if_neg h, hc]
  simp only []
  rw [hp]
  simp only []
  rw [hr]
theorem parseLine_error {l : W} {e : Int} (h : parseLine l = .error e) : e ≠ 0 := by
  unfold parseLine at h
  split at h
  · simp only [Except.error.injEq] at h; omega
  · split at h
    · split at h
      · simp only [Except.error.injEq] at h; omega
      · split at h
        · rename_i h1
          simp only [Except.error.injEq] at h; omega
        · cases h
    · simp only [Except.error.injEq] at h; omega
theorem parseLines_error : ∀ {f i : Nat} {s : W} {j : Nat} {e : Int}, parseLines f i s = .error (j, e) → e ≠ 0
  | 0, _, _, _, _, h => by cases h
  | f + 1, i, s, j, e, h => by
    unfold parseLines at h
    split at h
    · cases h
    · split at h
      · simp only [Except.error.injEq, Prod.mk.injEq] at h; omega
      · split at h
        · rename_i hp
          simp only [Except.error.injEq, Prod.mk.injEq] at h
          have := parseLine_error hp
          omega
        · split at h
          · rename_i hr
            simp only [Except.error.injEq] at h
            subst h
            exact parseLines_error hr
          · cases h
theorem parseLines_text : ∀ {ps : List Pk} {f i : Nat}, (∀ p ∈ ps, PkOk p) → (treeText ps).length < f → parseLines f i (treeText ps) = .ok ps
  | [], f + 1, i, _, _ => by simp [parseLines, treeText]
  | [], 0, i, _, h => by simp [treeText] at h
  | p :: r, 0, i, _, h => by simp at h
  | p :: r, f + 1, i, h, hl => by
    have hp := h p (List.mem_cons_self ..)
    have ih := parseLines_text (ps := r) (f := f) (i := i + 1) (fun q hq => h q (List.mem_cons_of_mem _ hq)) (by simp [treeText] at hl; omega)
    exact parseLines_step (by simp [treeText]) (by rw [treeText]; exact cutAt_some (c := 10) rfl (line_no hp)) (parseLine_line hp) ih
theorem parseTree_text {ps : List Pk} (h : ckTree ps = 0) (hl : (treeText ps).length ≤ 20000) : parseTree (treeText ps) = (ps, 0, 0) := by
  unfold parseTree
  rw [if_neg (by omega), parseLines_text (fun p hp => pkOk (ckTree_mem h p hp)) (by omega)]
  simp only []
  rw [if_pos h]

/-! ### and back -/
theorem fsOf_back {d : W} : joinB 44 (fsOf d) = d := by
  unfold fsOf
  split
  · rename_i h; rw [h]; rfl
  · exact join_split d []
theorem cut4_back {l a b c d e : W} (h : cut4 l = some (a, b, c, d, e)) : l = a ++ (32 :: b ++ (32 :: c ++ (32 :: d ++ (32 :: e)))) := by
  unfold cut4 at h
  split at h
  · cases h
  · rename_i a' x1 l1 h1
    split at h
    · cases h
    · rename_i b' x2 l2 h2
      split at h
      · cases h
      · rename_i c' x3 l3 h3
        split at h
        · cases h
        · rename_i d' x4 l4 h4
          simp only [Option.some.injEq, Prod.mk.injEq] at h
          obtain ⟨rfl, rfl, rfl, rfl, rfl⟩ := h
          obtain ⟨e1, p1, _⟩ := of_cutAt_some h1
          obtain ⟨e2, p2, _⟩ := of_cutAt_some h2
          obtain ⟨e3, p3, _⟩ := of_cutAt_some h3
          obtain ⟨e4, p4, _⟩ := of_cutAt_some h4
          have p1' : x1 = 32 := by simpa using p1
          have p2' : x2 = 32 := by simpa using p2
          have p3' : x3 = 32 := by simpa using p3
          have p4' : x4 = 32 := by simpa using p4
          subst p1' p2' p3' p4'
          rw [e1, e2, e3, e4]
          simp
theorem parseLine_back {l : W} {p : Pk} (h : parseLine l = .ok p) : pkLine p = l := by
  unfold parseLine at h
  split at h
  · cases h
  · rename_i a b c d e hc
    split at h
    · rename_i v k hv hk
      split at h
      · cases h
      · split at h
        · cases h
        · rename_i h1 h2
          simp only [Except.ok.injEq] at h
          subst h
          have h0 : (parseNd e).2 = 0 := by simpa using h2
          have hb := (parseNd_back (l := e) (n := (parseNd e).1) (by rw [← h0])).2
          rw [cut4_back hc]
          unfold pkLine
          simp only [of_number hv, of_number hk, fsOf_back, hb]
    · cases h
theorem parseLines_back : ∀ {f i : Nat} {s : W} {ps : List Pk}, s.length < f → parseLines f i s = .ok ps → treeText ps = s
  | 0, _, _, _, h, _ => by omega
  | f + 1, i, s, ps, hl, h => by
    unfold parseLines at h
    by_cases hs : s = []
    · rw [if_pos hs] at h
      simp only [Except.ok.injEq] at h
      subst h; rw [hs]; rfl
    · rw [if_neg hs] at h
      split at h
      · cases h
      · rename_i l x rest hc
        split at h
        · cases h
        · rename_i p hp
          split at h
          · cases h
          · rename_i qs hq
            simp only [Except.ok.injEq] at h
            subst h
            obtain ⟨e, hx, _⟩ := of_cutAt_some hc
            have hx' : x = 10 := by simpa using hx
            subst hx'
            have := parseLines_back (s := rest) (by rw [e] at hl; simp at hl; omega) hq
            rw [e, treeText, this, parseLine_back hp]
theorem parseTree_back {s : W} {ps : List Pk} {i : Nat} (h : parseTree s = (ps, i, 0)) : ckTree ps = 0 ∧ treeText ps = s := by
  unfold parseTree at h
  split at h
  · simp at h
  · split at h
    · rename_i i e hq
      simp only [Prod.mk.injEq] at h
      obtain ⟨_, _, rfl⟩ := h
      exact absurd rfl (parseLines_error hq)
    · rename_i qs hq
      split at h
      · rename_i hk
        simp only [Prod.mk.injEq] at h
        obtain ⟨rfl, _, _⟩ := h
        exact ⟨hk, parseLines_back (by omega) hq⟩
      · rename_i hk
        simp only [Prod.mk.injEq] at h
        exact absurd h.2.2 hk
end Qm

/-
  Rows of structs in memory (whatever the structs read as); packages and trees in memory.
-/
namespace Go.Proofs.YtnkmonmkhmcgaaaGreatDoor
open Go.RowKit Qm

theorem flatG {K : Nat} {cs : List (List Value)} (h : ∀ x ∈ cs, x.length = K) : ∀ {j : Nat} {x : List Value}, cs[j]? = some x → ∀ i, i < K → cs.flatten[j * K + i]? = x[i]? := by
  induction cs with
  | nil => intro j x hj; simp at hj
  | cons c r ih =>
    intro j x hj i hi
    have hc := h c (List.mem_cons_self ..)
    rw [List.flatten_cons]
    cases j with
    | zero =>
      simp only [List.getElem?_cons_zero, Option.some.injEq] at hj
      subst hj
      rw [List.getElem?_append_left (by omega)]; congr 1; omega
    | succ j =>
      rw [List.getElem?_cons_succ] at hj
      have he : (j + 1) * K = j * K + K := Nat.succ_mul j K
      rw [List.getElem?_append_right (by omega)]
      rw [← ih (fun y hy => h y (List.mem_cons_of_mem _ hy)) hj i hi]
      congr 1; omega

/-- n elements of K cells each; R says how an element's cells read. -/
def RSeq {α : Type} (K : Nat) (R : List Value → α → Prop) (w : World) (S : Nat → Prop) (A : Option Addr) (n : Nat) (ys : List α) : Prop :=
  ∃ cs : List (List Value), ys.length = n ∧ cs.length = n ∧ Row w S A (n * K) cs.flatten ∧ (∀ x ∈ cs, x.length = K) ∧ ∀ (j : Nat) (x : List Value) (y : α), cs[j]? = some x → ys[j]? = some y → R x y
section
variable {α : Type} {K : Nat} {R R' : List Value → α → Prop} {w w' : World} {S S' : Nat → Prop} {A : Option Addr} {n : Nat} {ys : List α}
theorem RSeq.len (h : RSeq K R w S A n ys) : ys.length = n := by obtain ⟨_, h, _⟩ := h; exact h
theorem RSeq.nil_ : RSeq K R w S A 0 [] := ⟨[], rfl, rfl, by rw [Nat.zero_mul]; exact Row.nil_, fun x h => by simp at h, fun j x y h _ => by simp at h⟩
theorem RSeq.keep (h : RSeq K R w S A n ys) (hw : ∀ p : Addr, S p.block → w'.cell? p = w.cell? p) (hR : ∀ x y, R x y → R' x y) : RSeq K R' w' S A n ys := by
  obtain ⟨cs, hk, hcs, hrow, hK, hr⟩ := h
  exact ⟨cs, hk, hcs, hrow.keep hw, hK, fun j x y h1 h2 => hR x y (hr j x y h1 h2)⟩
theorem RSeq.more (hS : ∀ k, S k → S' k) (h : RSeq K R w S A n ys) (hR : ∀ x y, R x y → R' x y) : RSeq K R' w S' A n ys := by
  obtain ⟨cs, hk, hcs, hrow, hK, hr⟩ := h
  exact ⟨cs, hk, hcs, hrow.more hS, hK, fun j x y h1 h2 => hR x y (hr j x y h1 h2)⟩
/-- The element at a place. -/
theorem RSeq.at_ (h : RSeq K R w S A n ys) {j : Nat} (hj : j < n) (hK0 : 0 < K) :
    ∃ b o x y, A = some ⟨b, o, none⟩ ∧ S b ∧ ys[j]? = some y ∧ R x y ∧ x.length = K ∧ ∀ i, i < K → w.cell? ⟨b, o + j * K + i, none⟩ = x[i]? := by
  obtain ⟨cs, hk, hcs, hrow, hK, hr⟩ := h
  have hjK : j * K + K ≤ n * K := by rw [← Nat.succ_mul]; exact Nat.mul_le_mul_right K hj
  obtain ⟨b, o, hA, hb, hc⟩ := hrow.2 (by omega)
  have e1 : cs[j]? = some (cs[j]'(by omega)) := List.getElem?_eq_getElem (by omega)
  have e2 : ys[j]? = some (ys[j]'(by omega)) := List.getElem?_eq_getElem (by omega)
  refine ⟨b, o, _, _, hA, hb, e2, hr j _ _ e1 e2, hK _ (List.getElem_mem _), fun i hi => ?_⟩
  rw [Nat.add_assoc, hc (j * K + i) (by omega)]
  exact flatG hK e1 i hi
end

/-- The fourteen cells of a package. -/
def pkRow (p : Pk) (A : Option Addr) (n c : Nat) (x : List Value) : List Value := .string ⟨p.nm.toArray⟩ :: .int .i64 p.ver :: .int .i64 p.slot :: .slice A n c :: x
/-- Words in memory, each of a length that there may be. -/
structure RWords (w : World) (S : Nat → Prop) (A : Option Addr) (n : Nat) (fs : List Qm.W) : Prop where
  row : Row w S A n (strs fs)
  small : ∀ f ∈ fs, f.length ≤ maxLen
theorem RWords.len {w : World} {S : Nat → Prop} {A : Option Addr} {n : Nat} {fs : List Qm.W} (h : RWords w S A n fs) : fs.length = n := by have := h.row.len; simpa [strs] using this
theorem RWords.keep {w w' : World} {S : Nat → Prop} {A : Option Addr} {n : Nat} {fs : List Qm.W} (h : RWords w S A n fs) (hw : ∀ p : Addr, S p.block → w'.cell? p = w.cell? p) : RWords w' S A n fs := ⟨h.row.keep hw, h.small⟩
theorem RWords.more {w : World} {S S' : Nat → Prop} (hS : ∀ k, S k → S' k) {A : Option Addr} {n : Nat} {fs : List Qm.W} (h : RWords w S A n fs) : RWords w S' A n fs := ⟨h.row.more hS, h.small⟩
theorem RWords.under {w w' : World} {S : Nat → Prop} {B : Nat} {A : Option Addr} {n : Nat} {fs : List Qm.W} (h : RWords w S A n fs) (hb : Below B w w') (hS : ∀ k, S k → k < B) : RWords w' S A n fs := h.keep fun _ hp => hb.cell (hS _ hp)
theorem RWords.nil_ {w : World} {S : Nat → Prop} {A : Option Addr} : RWords w S A 0 [] := ⟨Row.nil_, fun _ h => by cases h⟩
theorem RWords.at_ {w : World} {S : Nat → Prop} {A : Option Addr} {n : Nat} {fs : List Qm.W} (h : RWords w S A n fs) {j : Nat} (hj : j < n) :
    ∃ b o f, A = some ⟨b, o, none⟩ ∧ S b ∧ fs[j]? = some f ∧ f.length ≤ maxLen ∧ w.cell? ⟨b, o + j, none⟩ = some (.string ⟨f.toArray⟩) := by
  have hl := h.len
  obtain ⟨b, o, hA, hb, hc⟩ := h.row.at_ hj
  have e : fs[j]? = some (fs[j]'(by omega)) := List.getElem?_eq_getElem (by omega)
  refine ⟨b, o, _, hA, hb, e, h.small _ (List.getElem_mem _), ?_⟩
  rw [hc]
  simp only [strs, List.getElem?_map, e, Option.map_some]

structure PkAt (w : World) (S : Nat → Prop) (p : Pk) (A : Option Addr) (n c : Nat) (x : List Value) : Prop where
  cap : n ≤ c
  max : c ≤ maxLen
  nm : p.nm.length ≤ maxLen
  fs : RWords w S A n p.fs
  nd : RNd w S x p.nd
def RPk (w : World) (S : Nat → Prop) (cs : List Value) (p : Pk) : Prop := ∃ A n c x, cs = pkRow p A n c x ∧ PkAt w S p A n c x
theorem PkAt.keep {w w' : World} {S : Nat → Prop} {p : Pk} {A : Option Addr} {n c : Nat} {x : List Value} (h : PkAt w S p A n c x) (hw : ∀ p : Addr, S p.block → w'.cell? p = w.cell? p) : PkAt w' S p A n c x :=
  ⟨h.cap, h.max, h.nm, h.fs.keep hw, h.nd.keep hw⟩
theorem PkAt.more {w : World} {S S' : Nat → Prop} (hS : ∀ k, S k → S' k) {p : Pk} {A : Option Addr} {n c : Nat} {x : List Value} (h : PkAt w S p A n c x) : PkAt w S' p A n c x :=
  ⟨h.cap, h.max, h.nm, h.fs.more hS, h.nd.more hS⟩
theorem PkAt.under {w w' : World} {S : Nat → Prop} {B : Nat} {p : Pk} {A : Option Addr} {n c : Nat} {x : List Value} (h : PkAt w S p A n c x) (hb : Below B w w') (hS : ∀ k, S k → k < B) : PkAt w' S p A n c x := h.keep fun _ hp => hb.cell (hS _ hp)
theorem RPk.keep {w w' : World} {S : Nat → Prop} {x : List Value} {p : Pk} (h : RPk w S x p) (hw : ∀ p : Addr, S p.block → w'.cell? p = w.cell? p) : RPk w' S x p := by
  obtain ⟨A, n, c, y, rfl, h⟩ := h; exact ⟨A, n, c, y, rfl, h.keep hw⟩
theorem RPk.more {w : World} {S S' : Nat → Prop} (hS : ∀ k, S k → S' k) {x : List Value} {p : Pk} (h : RPk w S x p) : RPk w S' x p := by
  obtain ⟨A, n, c, y, rfl, h⟩ := h; exact ⟨A, n, c, y, rfl, h.more hS⟩
theorem RPk.under {w w' : World} {S : Nat → Prop} {B : Nat} {x : List Value} {p : Pk} (h : RPk w S x p) (hb : Below B w w') (hS : ∀ k, S k → k < B) : RPk w' S x p := h.keep fun _ hp => hb.cell (hS _ hp)
theorem RPk.len {w : World} {S : Nat → Prop} {x : List Value} {p : Pk} (h : RPk w S x p) : x.length = 14 := by
  obtain ⟨A, n, c, y, rfl, h⟩ := h; simp [pkRow, h.nd.ten]

/-- Packages in memory. -/
def RTree (w : World) (S : Nat → Prop) (A : Option Addr) (n : Nat) (ps : List Pk) : Prop := RSeq 14 (RPk w S) w S A n ps
section
variable {w w' : World} {S S' : Nat → Prop} {A : Option Addr} {n : Nat} {ps : List Pk}
theorem RTree.len (h : RTree w S A n ps) : ps.length = n := RSeq.len h
theorem RTree.nil_ : RTree w S A 0 [] := RSeq.nil_
theorem RTree.keep (h : RTree w S A n ps) (hw : ∀ p : Addr, S p.block → w'.cell? p = w.cell? p) : RTree w' S A n ps := RSeq.keep h hw fun _ _ h => h.keep hw
theorem RTree.more (hS : ∀ k, S k → S' k) (h : RTree w S A n ps) : RTree w S' A n ps := RSeq.more hS h fun _ _ h => h.more hS
theorem RTree.under {B : Nat} (h : RTree w S A n ps) (hb : Below B w w') (hS : ∀ k, S k → k < B) : RTree w' S A n ps := h.keep fun _ hp => hb.cell (hS _ hp)
/-- The package at a place, its cells spelt out. -/
theorem RTree.at_ (h : RTree w S A n ps) {j : Nat} (hj : j < n) :
    ∃ b o p B m c k a f no D q d, A = some ⟨b, o, none⟩ ∧ S b ∧ ps[j]? = some p ∧ PkAt w S p B m c (ndRow k a f no D q d) ∧ ∀ i, i < 14 → w.cell? ⟨b, o + j * 14 + i, none⟩ = (pkRow p B m c (ndRow k a f no D q d))[i]? := by
  obtain ⟨b, o, x, p, hA, hb, hp, ⟨B, m, c, y, rfl, hR⟩, _, hc⟩ := RSeq.at_ h hj (by decide)
  obtain ⟨k, a, f, no, ks⟩ : Nd := p.nd
  have := hR.nd
  rcases p with ⟨nm, ver, slot, fs, ⟨k, a, f, no, ks⟩⟩
  obtain ⟨D, q, d, rfl, -⟩ := this.open_
  exact ⟨b, o, _, B, m, c, k, a, f, no, D, q, d, hA, hb, hp, hR, hc⟩
end
end Go.Proofs.YtnkmonmkhmcgaaaGreatDoor

namespace Qm
open Go

/-! Sorted, and each once: the same members. Flags, step by step. -/

section
variable {α : Type} [Inhabited α] [DecidableEq α]
theorem mem_compactUpTo {d : Array α} {x : α} : ∀ {m : Nat}, m ≤ d.size → (x ∈ Lib.compactUpTo d m ↔ ∃ j, j < m ∧ d[j]! = x)
  | 0, _ => by simp [Lib.compactUpTo]
  | m + 1, h => by
    have ih := mem_compactUpTo (d := d) (x := x) (m := m) (by omega)
    rw [Lib.compactUpTo_succ, List.mem_append, ih]
    by_cases hk : Lib.keeps d m = true
    · rw [if_pos hk, List.mem_singleton]
      constructor
      · rintro (⟨j, hj, rfl⟩ | rfl)
        · exact ⟨j, by omega, rfl⟩
        · exact ⟨m, by omega, rfl⟩
      · rintro ⟨j, hj, rfl⟩
        by_cases hjm : j = m
        · right; rw [hjm]
        · left; exact ⟨j, by omega, rfl⟩
    · rw [if_neg hk]
      have hk' : m ≠ 0 ∧ d[m]! = d[m - 1]! := by
        simp only [Lib.keeps, decide_eq_true_eq, not_or, Decidable.not_not] at hk
        exact hk
      constructor
      · rintro (⟨j, hj, rfl⟩ | h)
        · exact ⟨j, by omega, rfl⟩
        · cases h
      · rintro ⟨j, hj, rfl⟩
        left
        by_cases hjm : j = m
        · exact ⟨m - 1, by omega, by rw [hjm, hk'.2]⟩
        · exact ⟨j, by omega, rfl⟩
theorem mem_compact {l : List α} {x : α} : x ∈ Lib.compact l ↔ x ∈ l := by
  unfold Lib.compact
  rw [mem_compactUpTo (by simp), List.mem_iff_getElem]
  constructor
  · rintro ⟨j, hj, h⟩
    refine ⟨j, hj, ?_⟩
    rw [← h]
    simp [hj]
  · rintro ⟨j, hj, h⟩
    refine ⟨j, hj, ?_⟩
    rw [← h]
    simp [hj]
end
theorem all_mem {α : Type} {a b : List α} (p : α → Bool) (h : ∀ x, x ∈ a ↔ x ∈ b) : a.all p = b.all p := by
  rw [Bool.eq_iff_iff, List.all_eq_true, List.all_eq_true]
  exact ⟨fun k x hx => k x ((h x).2 hx), fun k x hx => k x ((h x).1 hx)⟩

/-- What stands ahead of a place. -/
def prevOf {α : Type} (l : List α) (j : Nat) : Option α := if j = 0 then none else l[j - 1]?
theorem prevOf_zero {α : Type} (l : List α) : prevOf l 0 = none := rfl
theorem prevOf_succ {α : Type} {l : List α} {j : Nat} {x : α} (h : l[j]? = some x) : prevOf l (j + 1) = some x := by unfold prevOf; rw [if_neg (by omega)]; exact h
theorem ckFlags_step {fs : List W} {j : Nat} {f : W} (h : fs[j]? = some f) :
    ckFlags (prevOf fs j) (fs.drop j) = if isName f = false then 1 else if badNext (prevOf fs j) f = true then 6 else ckFlags (prevOf fs (j + 1)) (fs.drop (j + 1)) := by
  rw [prevOf_succ h]
  obtain ⟨hj, rfl⟩ := List.getElem?_eq_some_iff.1 h
  rw [List.drop_eq_getElem_cons hj]
  rfl
theorem ckFlags_done {fs : List W} {j : Nat} (h : fs.length ≤ j) {p : Option W} : ckFlags p (fs.drop j) = 0 := by
  rw [List.drop_eq_nil_of_le h]; rfl
theorem ckT_step {ps : List Pk} {j n : Nat} {p : Pk} (h : ps[j]? = some p) :
    ckT (prevOf ps j) n (ps.drop j) = if ckPk p ≠ 0 then ckPk p else if badPk (prevOf ps j) p = true then 6 else if 14 < n + p.fs.length then 2 else ckT (prevOf ps (j + 1)) (n + p.fs.length) (ps.drop (j + 1)) := by
  rw [prevOf_succ h]
  obtain ⟨hj, rfl⟩ := List.getElem?_eq_some_iff.1 h
  rw [List.drop_eq_getElem_cons hj]
  rfl
theorem ckT_done {ps : List Pk} {j n : Nat} (h : ps.length ≤ j) {p : Option Pk} : ckT p n (ps.drop j) = 0 := by
  rw [List.drop_eq_nil_of_le h]; rfl
end Qm

/- tree.before, walked. -/
namespace Go.Proofs.YtnkmonmkhmcgaaaGreatDoor
open Go.RowKit Qm

end Go.Proofs.YtnkmonmkhmcgaaaGreatDoor

/- slices.Equal of words. -/
namespace Go.Proofs.YtnkmonmkhmcgaaaGreatDoor
open Go.RowKit Qm

def EqS (a b : List Qm.W) (w : World) (e : Ending) (w' : World) : Prop := e = .returned (.bool (decide (a = b))) ∧ ∃ q, w' = w.drewN q
theorem equalS_any (A B : Option Addr) (n c m d : Nat) (xs ys : List Qm.W) (w : World) (S T : Nat → Prop) (hx : Row w S A n (strs xs)) (hy : Row w T B m (strs ys)) (hn : n ≤ maxLen) (hm : m ≤ maxLen) :
    Calls Tryz.prog 14 #[.slice A n c, .slice B m d] w (EqS xs ys w) := by
  have hxl : xs.length = n := by have := hx.len; simpa [strs] using this
  have hyl : ys.length = m := by have := hy.len; simpa [strs] using this
  unfold maxLen at hn hm
  by_cases hnm : n = m
  · subst hnm
    by_cases h0 : n = 0
    · subst h0
      obtain rfl := List.eq_nil_of_length_eq_zero hxl
      obtain rfl := List.eq_nil_of_length_eq_zero hyl
      exact (Tryz.slices_Equal_string_empty A B c 0 d w (by omega)).mono fun e w' ⟨he, hw⟩ => ⟨by simpa using he, 0, hw⟩
    · obtain ⟨b, o, rfl, _⟩ := hx.some_lit (by omega)
      obtain ⟨b', o', rfl, _⟩ := hy.some_lit (by omega)
      have h := Tryz.slices_Equal_string b o n c b' o' n d (bas xs) (bas ys) w (by simp [bas, hxl]) (by simp [bas, hyl]) (by omega) (by omega) (strs_cell (by rw [hxl]; exact hx)) (strs_cell (by rw [hyl]; exact hy))
      refine h.mono fun e w' ⟨he, hw⟩ => ⟨?_, hw⟩
      rw [he, List.take_of_length_le (by simp [bas, hxl]), List.take_of_length_le (by simp [bas, hyl])]
      congr 2
      exact decide_eq_decide.2 bas_inj
  · refine (Tryz.slices_Equal_string_lens A B n c m d w hnm).mono fun e w' ⟨he, hw⟩ => ⟨?_, 0, hw⟩
    rw [he, decide_eq_false (fun h => hnm (by rw [← hxl, ← hyl, h]))]

end Go.Proofs.YtnkmonmkhmcgaaaGreatDoor

/- quartermasterlaw.needed, walked: it returns true. -/
namespace Go.Proofs.YtnkmonmkhmcgaaaGreatDoor
open Go.RowKit Qm

theorem NParsePost.lit {w w' : World} {l : Qm.W} {e : Ending} (h : NParsePost w l e w') {k : Int} {a : At} {f : Qm.W} {no : Bool} {ks : List Nd} {q : Int} (hp : parseNd l = (.mk k a f no ks, q)) :
    ∃ A n c, e = .returned (.tuple #[.agg (ndRow k a f no A n c).toArray, .int .i64 q]) ∧ RNd w' (fun i => w.heap.size ≤ i ∧ i < w'.heap.size) (ndRow k a f no A n c) (.mk k a f no ks) ∧ n = ks.length ∧ Below w.heap.size w w' := by
  obtain ⟨k', a', f', no', A', n', c', rfl, hr, hb⟩ := h
  rw [hp] at hr ⊢
  obtain ⟨A, n, c, he, _, _, _, _, _, hk⟩ := hr.open_
  rw [he] at hr ⊢
  exact ⟨A, n, c, rfl, hr, hk.len.symm, hb⟩

def needB : Qm.W := [40, 32, 98, 32, 124, 124, 32, 40, 32, 99, 32, 100, 32, 41, 32, 33, 120, 63, 32, 40, 32, 33, 101, 32, 41, 32, 41]
def leafN (k : Int) (c : UInt8) : Nd := .mk k ⟨[c], 0, 0, 0, [], false⟩ [] false []
def needN : Nd := .mk 3 At.zero [] false [leafN 1 98, .mk 4 At.zero [] false [leafN 1 99, leafN 1 100], .mk 5 At.zero [120] true [leafN 2 101]]
theorem need_ck : ckNeed needN = 0 := by decide +kernel
theorem need_text : ndText needN = needB := by decide +kernel
theorem need_parse : parseNd needB = (needN, 0) := by
  have := parseNd_text need_ck
  rwa [need_text] at this
theorem need_print : printNd needN = needB := by unfold printNd; rw [if_pos need_ck, need_text]
theorem need_flags : flP needN = [[120]] := by
  unfold flP
  rw [if_pos need_ck]
  have : flagsN needN = [[120]] := by decide +kernel
  rw [this]
  simp [sortW, Lib.compact, Lib.compactUpTo, Lib.keeps]
set_option maxRecDepth 100000 in
set_option maxHeartbeats 3200000 in
theorem needed_any (w : World) (hL : LaidV w) (hM : MaxW w) :
    Calls Tryz.prog 6 #[] w fun e w' => e = .returned (.bool true) ∧ Below w.heap.size w w' := by
  have hpa := nparse_any ⟨needB.toArray⟩ w (by decide) hL hM
  rw [show (⟨needB.toArray⟩ : ByteArray).data.toList = needB from rfl] at hpa
  have hpa2 := hpa.mono (R' := fun e w' => ∃ b o c, e = .returned (.tuple #[.agg (ndRow 3 At.zero [] false (some ⟨b, o, none⟩) 3 c).toArray, .int .i64 0]) ∧ RNd w' (fun i => w.heap.size ≤ i ∧ i < w'.heap.size) (ndRow 3 At.zero [] false (some ⟨b, o, none⟩) 3 c) needN ∧
      b < w'.heap.size ∧ w'.cell? ⟨b, o + 28, none⟩ = some (.bool true) ∧ Below w.heap.size w w') (fun e w' h => by
    obtain ⟨A, n, c, h1, h2, h3, h4⟩ := h.lit need_parse
    obtain rfl : n = 3 := h3
    obtain ⟨A', n', c', he, _, _, _, _, _, hk⟩ := h2.open_
    have hA : A = A' := by simp only [ndRow, List.cons.injEq, Value.slice.injEq] at he; exact he.2.2.2.2.2.2.2.2.2.1.1
    have hn : 3 = n' := by simp only [ndRow, List.cons.injEq, Value.slice.injEq] at he; exact he.2.2.2.2.2.2.2.2.2.1.2.1
    subst hA hn
    obtain ⟨b, o, x, y, rfl, hb, hy, hxy, hcell⟩ := hk.at_ (j := 2) (by decide)
    simp only [needN, List.getElem?_cons_succ, List.getElem?_cons_zero, Option.some.injEq] at hy
    subst hy
    obtain ⟨A2, n2, c2, rfl, -⟩ := hxy.open_
    have h8 := hcell 8 (by decide)
    exact ⟨b, o, c, h1, h2, hb.2, h8, h4⟩)
  have hpr := fun S x wx h1 h2 => nprint_any needN S x wx h1 h2
  have hfl := fun S x wx h1 h2 => nflags_any needN S x wx h1 h2
  unfold FlagsPost at hfl
  rw [need_print, need_ck] at hpr
  rw [need_flags, need_ck] at hfl
  have Hpr := Lib.hid hpr; have Hfl := Lib.hid hfl
  have Hpa := Lib.hid hpa2
  clear hpa hpa2 hpr hfl hL hM
  unfold ndRow At.zero needB at Hpa
  unfold needB at Hpr
  go_enter Tryz.func6, Tryz.ntmps6
  go_wp2_with (first | (go_at_call 8; refine Hpa.out.mono ?_; rintro e w1 ⟨b, o, c, rfl, hrn, hbl, h28, hb1⟩; refine Hid.out ?_))
  refine Lib.hid ?_
  have hal : Below w1.heap.size w1 (w1.alloc (.cells (ndRow 3 At.zero [] false (some ⟨b, o, none⟩) 3 c).toArray 26)) := (Below.refl _ _).alloc (Nat.le_refl _) _
  have HB2 := Lib.hid (hb1.trans (hal.mono hb1.size))
  have HN2 := Lib.hid (Whole.new w1 _ 26 (ndRow 3 At.zero [] false (some ⟨b, o, none⟩) 3 c) rfl)
  have HR2 := Lib.hid (hrn.under hal fun q hq => hq.2)
  have h28' := (hal.cell (p := ⟨b, o + 28, none⟩) hbl).trans h28
  have H28 := Lib.hid h28'
  have hbl2 := Nat.lt_of_lt_of_le hbl hal.size
  have HS2 : Hid (∀ q, (w.heap.size ≤ q ∧ q < w1.heap.size) → q < (w1.alloc (.cells (ndRow 3 At.zero [] false (some ⟨b, o, none⟩) 3 c).toArray 26)).heap.size) := Lib.hid fun q hq => Nat.lt_of_lt_of_le hq.2 hal.size
  clear hrn hbl h28 h28' hb1 hal
  unfold ndRow At.zero at HB2 HN2 HR2 H28 HS2 hbl2
  go_wp2_with (first | (go_at_call 5; refine (Hpr.out _ _ _ HR2.out HS2.out).mono ?_; rintro e w3 ⟨rfl, hb3⟩; refine Hid.out ?_))
  refine Lib.hid ?_
  have HB3 := Lib.hid (HB2.out.trans (hb3.mono HB2.out.size))
  have HN3 := Lib.hid (HN2.out.below hb3 HN2.out.lt)
  have HR3 := Lib.hid (HR2.out.under hb3 HS2.out)
  have H283 := Lib.hid ((hb3.cell (p := ⟨b, o + 28, none⟩) hbl2).trans H28.out)
  have hbl3 := Nat.lt_of_lt_of_le hbl2 hb3.size
  have HS3 := Lib.hid (fun q hq => Nat.lt_of_lt_of_le (HS2.out q hq) hb3.size)
  clear hb3 HB2 HR2 H28 HS2 hbl2 HN2
  have n0 := HN3.out.cell 0; have n1 := HN3.out.cell 1; have n2 := HN3.out.cell 2; have n3 := HN3.out.cell 3; have n4 := HN3.out.cell 4; have n5 := HN3.out.cell 5; have n6 := HN3.out.cell 6; have n7 := HN3.out.cell 7; have n8 := HN3.out.cell 8; have n9 := HN3.out.cell 9
  simp only [List.getElem?_cons_zero, List.getElem?_cons_succ] at n0 n1 n2 n3 n4 n5 n6 n7 n8 n9
  go_wp2_with (first | (go_at_call 9; refine (Hfl.out _ _ _ HR3.out HS3.out).mono ?_; rintro e w4 ⟨Af, cf, rfl, hrf, hf1, hf2, hb4⟩; refine Hid.out ?_))
  refine Lib.hid ?_
  have HB4 := Lib.hid (HB3.out.trans (hb4.mono HB3.out.size))
  have HN4 := Lib.hid (HN3.out.below hb4 HN3.out.lt)
  have r8 := (hb4.cell (p := ⟨b, o + 28, none⟩) hbl3).trans H283.out
  clear n0 n1 n2 n3 n4 n5 n6 n7 n8 n9
  have n9 := HN4.out.cell 9
  simp only [List.getElem?_cons_zero, List.getElem?_cons_succ] at n9
  clear hb4 HB3 HN3 HR3 H283 hbl3 HS3
  have hnew := Whole.new w4 w4.heap.size 9 (strs [[120]]) rfl
  have heq := equalS_any Af (some ⟨w4.heap.size, 0, none⟩) 1 cf 1 1 [[120]] [[120]] (w4.alloc (.cells #[.string ⟨#[120]⟩] 9)) _ _ (hrf.below ((Below.refl _ w4).alloc (Nat.le_refl _) _) fun q hq => hq.2) (Whole.row (S := fun q => q = w4.heap.size) hnew rfl rfl) (by decide) (by decide)
  unfold EqS at heq
  rw [decide_eq_true rfl] at heq
  have Heq := Lib.hid heq
  clear heq hnew hrf
  go_wp2_with (first | (go_at_call 14; refine Heq.out.mono ?_; rintro e w5 ⟨rfl, q5, rfl⟩; refine Hid.out ?_))
  refine Lib.hid ?_
  go_wp2
  go_ret
  exact ⟨rfl, below_drewN (HB4.out.alloc HB4.out.size _) _⟩
end Go.Proofs.YtnkmonmkhmcgaaaGreatDoor

/- need.Same, walked. -/
namespace Go.Proofs.YtnkmonmkhmcgaaaGreatDoor
open Go.RowKit Qm

/-- A function value over two needs that answers whether they are alike. -/
def AsksSame (w : World) (S : Nat → Prop) (F : FuncId) (ks : List Nd) : Prop :=
  (∀ (args : Array Value) (W : World), (callFunc F args).run Tryz.prog W = .ok (.enter F args) W) ∧
    ∀ x ∈ ks, ∀ (y : Nd) (cx cy : List Value) (W : World), Below w.heap.size w W → RNd W S cx x → RNd W S cy y → (∀ k, S k → k < W.heap.size) → Calls Tryz.prog F #[.agg cx.toArray, .agg cy.toArray] W fun e w' => e = .returned (.bool (sameNd x y)) ∧ Below W.heap.size W w'

set_option maxRecDepth 100000 in
set_option maxHeartbeats 3200000 in
theorem equalFuncNd_any (A B : Option Addr) (n c m d : Nat) (ks ls : List Nd) (F : FuncId) (w : World) (S : Nat → Prop) (hK : RKids w S A n ks) (hL : RKids w S B m ls) (hS : ∀ k, S k → k < w.heap.size) (hn : n ≤ maxLen) (hm : m ≤ maxLen) (hF : AsksSame w S F ks) :
    Calls Tryz.prog 19 #[.slice A n c, .slice B m d, .func (.func F) #[] #[]] w fun e w' => e = .returned (.bool (sameL ks ls)) ∧ Below w.heap.size w w' := by
  unfold maxLen at hn hm
  have HK := Lib.hid hK; have HL := Lib.hid hL; have HS := Lib.hid hS; have HF := Lib.hid hF; clear hK hL hS hF
  by_cases hnm : n = m
  · subst hnm
    go_enter Tryz.func19, Tryz.ntmps19
    go_wp2
    go_loopg [17] n (fun g iv wr => ∃ (j : Nat), Hid (j + g = n) ∧ iv = .int .i64 j ∧ Hid (sameL ks ls = sameL (ks.drop j) (ls.drop j)) ∧ Below w.heap.size w wr)
    case atStart => exact ⟨0, Lib.hid (Nat.zero_add _), rfl, Lib.hid rfl, Below.refl _ _⟩
    case round =>
      obtain ⟨j, Hj, rfl, Hcl, hb⟩ := hrel
      have HBr := Lib.hid hb; clear hb
      by_cases hj : j < n
      · obtain ⟨b, o, x, y, rfl, hb, hy, hxy, hcell⟩ := (HK.out.under HBr.out HS.out).at_ hj
        obtain ⟨b', o', x', y', rfl, hb', hy', hxy', hcell'⟩ := (HL.out.under HBr.out HS.out).at_ hj
        have Hdr : Hid (sameL (ks.drop j) (ls.drop j) = (sameNd y y' && sameL (ks.drop (j + 1)) (ls.drop (j + 1)))) := Lib.hid (by rw [drop_step hy, drop_step hy']; rfl)
        have hmem := List.mem_of_getElem? hy
        have hbl := HS.out _ hb'
        have hlt : b' < wr.heap.size := Nat.lt_of_lt_of_le hbl HBr.out.size
        obtain ⟨yk, ya, yf, yn, yks⟩ := y
        obtain ⟨A', n', c', rfl, -⟩ := hxy.open_
        have g0 := hcell 0 (by omega); have g1 := hcell 1 (by omega); have g2 := hcell 2 (by omega); have g3 := hcell 3 (by omega); have g4 := hcell 4 (by omega)
        have g5 := hcell 5 (by omega); have g6 := hcell 6 (by omega); have g7 := hcell 7 (by omega); have g8 := hcell 8 (by omega); have g9 := hcell 9 (by omega)
        clear hcell
        unfold ndRow at g0 g1 g2 g3 g4 g5 g6 g7 g8 g9
        simp only [List.getElem?_cons_zero, List.getElem?_cons_succ, Nat.add_zero] at g0 g1 g2 g3 g4 g5 g6 g7 g8 g9
        obtain ⟨zk, za, zf, zn, zks⟩ := y'
        obtain ⟨A'', n'', c'', rfl, -⟩ := hxy'.open_
        have k0 := hcell' 0 (by omega); have k1 := hcell' 1 (by omega); have k2 := hcell' 2 (by omega); have k3 := hcell' 3 (by omega); have k4 := hcell' 4 (by omega)
        have k5 := hcell' 5 (by omega); have k6 := hcell' 6 (by omega); have k7 := hcell' 7 (by omega); have k8 := hcell' 8 (by omega); have k9 := hcell' 9 (by omega)
        clear hcell'
        unfold ndRow at k0 k1 k2 k3 k4 k5 k6 k7 k8 k9
        simp only [List.getElem?_cons_zero, List.getElem?_cons_succ, Nat.add_zero] at k0 k1 k2 k3 k4 k5 k6 k7 k8 k9
        clear hy hy'
        have hW1 : Below wr.heap.size wr ((wr.alloc (.cells #[.int .i64 yk, .string ⟨ya.nm.toArray⟩, .int .i64 ya.op, .int .i64 ya.ver, .int .i64 ya.slot, .string ⟨ya.fl.toArray⟩, .bool ya.on, .string ⟨yf.toArray⟩, .bool yn, .slice A' n' c'] 26)).alloc (.cells #[.int .i64 zk, .string ⟨za.nm.toArray⟩, .int .i64 za.op, .int .i64 za.ver, .int .i64 za.slot, .string ⟨za.fl.toArray⟩, .bool za.on, .string ⟨zf.toArray⟩, .bool zn, .slice A'' n'' c''] 26)) := ((Below.refl _ wr).alloc (Nat.le_refl _) _).alloc (by simp) _
        have hsr : ∀ q, S q → q < wr.heap.size := fun q hq => Nat.lt_of_lt_of_le (HS.out q hq) HBr.out.size
        have hcall := HF.out.2 _ hmem _ _ _ _ (HBr.out.trans (hW1.mono HBr.out.size)) (hxy.under hW1 hsr) (hxy'.under hW1 hsr) (fun q hq => Nat.lt_of_lt_of_le (hsr q hq) hW1.size)
        have henter := HF.out.1
        unfold ndRow at hcall
        have HB2 := Lib.hid (HBr.out.trans (hW1.mono HBr.out.size))
        clear hW1 hsr hxy hxy'
        generalize sameNd _ _ = q at hcall Hdr
        have Hcall := Lib.hid hcall; clear hcall
        cases q
        · go_wp2_with fail
          refine Hcall.out.mono ?_
          rintro e w' ⟨rfl, hb'⟩
          have HB3 := Lib.hid (HB2.out.trans (hb'.mono HB2.out.size)); clear hb'
          go_wp2_with fail
          go_ret
          exact ⟨ret_bool (by rw [Hcl.out, Hdr.out]; rfl), HB3.out⟩
        · go_wp2_with fail
          refine Hcall.out.mono ?_
          rintro e w' ⟨rfl, hb'⟩
          have HB3 := Lib.hid (HB2.out.trans (hb'.mono HB2.out.size)); clear hb'
          go_wp2_with fail
          go_roundg (gk - 1)
          case measure => have := Hj.out; omega
          case rel => exact ⟨j + 1, Lib.hid (by have := Hj.out; omega), by go_num, Lib.hid (by rw [Hcl.out, Hdr.out, Bool.true_and]), HB3.out⟩
      · go_wp2_with fail
        go_ret
        refine ⟨ret_bool ?_, HBr.out⟩
        rw [Hcl.out, List.drop_of_length_le (by have := HK.out.len; omega), List.drop_of_length_le (by have := HL.out.len; omega)]; rfl
  · have e1 : ((n : Int) != (m : Int)) = true := by simp; omega
    have e2 : ((n : Int) == (m : Int)) = false := by simp; omega
    have HE : Hid (sameL ks ls = false) := Lib.hid (sameL_len (by have := HK.out.len; have := HL.out.len; omega))
    go_enter Tryz.func19, Tryz.ntmps19
    go_wp2
    go_ret
    exact ⟨ret_bool HE.out.symm, Below.refl _ _⟩

set_option maxRecDepth 100000 in
set_option maxHeartbeats 3200000 in
theorem same_any : ∀ (y z : Nd) (S : Nat → Prop) (cx cy : List Value) (w : World), RNd w S cx y → RNd w S cy z → (∀ k, S k → k < w.heap.size) →
    Calls Tryz.prog 7 #[.agg cx.toArray, .agg cy.toArray] w fun e w' => e = .returned (.bool (sameNd y z)) ∧ Below w.heap.size w w' := by
  refine Nd.ind fun k a f no ks ih => ?_
  intro z S cx cy w hx hy hS
  obtain ⟨k', a', f', no', ks'⟩ := z
  obtain ⟨A, n, c, rfl, hnc, hc, _, _, _, hK⟩ := hx.open_
  obtain ⟨B, m, d, rfl, hmd, hd, _, _, _, hL⟩ := hy.open_
  have hbl := (((Below.refl _ w).alloc (Nat.le_refl _) (.cells (ndRow k a f no A n c).toArray 26)).alloc (by simp) (.cells (ndRow k' a' f' no' B m d).toArray 26))
  have hE := equalFuncNd_any A B n c m d ks ks' 7 _ S (hK.under hbl hS) (hL.under hbl hS) (fun q hq => Nat.lt_of_lt_of_le (hS q hq) hbl.size) (Nat.le_trans hnc hc) (Nat.le_trans hmd hd) ⟨fun args W => by kernel_rfl, fun x hx y cx cy W hb h1 h2 h3 => ih x hx y S cx cy W h1 h2 h3⟩
  have HC : Hid (sameNd (.mk k a f no ks) (.mk k' a' f' no' ks') = (decide (k = k') && (decide (a = a') && (decide (f = f') && (decide (no = no') && sameL ks ks'))))) := Lib.hid rfl
  generalize sameNd (.mk k a f no ks) (.mk k' a' f' no' ks') = R at HC ⊢
  generalize sameL ks ks' = q at hE HC
  have HB := Lib.hid hbl
  clear hx hy hK hL hS ih hbl
  obtain ⟨nm, op, ver, slot, fl, on⟩ := a
  obtain ⟨nm', op', ver', slot', fl', on'⟩ := a'
  unfold ndRow at hE HB ⊢
  simp only [] at hE HB ⊢
  have HE0 := Lib.hid hE; clear hE
  by_cases c0 : k = k'
  · subst c0
    by_cases c1 : nm = nm'
    · subst c1
      by_cases c2 : op = op'
      · subst c2
        by_cases c3 : ver = ver'
        · subst c3
          by_cases c4 : slot = slot'
          · subst c4
            by_cases c5 : fl = fl'
            · subst c5
              by_cases c6 : on = on'
              · subst c6
                by_cases c7 : f = f'
                · subst c7
                  by_cases c8 : no = no'
                  · subst c8
                    have HE : Hid (R = q) := Lib.hid (by rw [HC.out]; simp)
                    clear HC
                    go_enter Tryz.func7, Tryz.ntmps7
                    go_wp2_with (first | (go_at_call 19; refine HE0.out.mono ?_; rintro e w1 ⟨rfl, hb1⟩; refine Hid.out ?_))
                    refine Lib.hid ?_
                    have HB1 := Lib.hid (HB.out.trans (hb1.mono HB.out.size)); clear hb1
                    go_wp2
                    go_ret
                    exact ⟨ret_bool HE.out.symm, HB1.out⟩
                  · have HE : Hid (R = false) := Lib.hid (by rw [HC.out]; simp [c8])
                    have c8' : (no == no') = false := by simpa using c8
                    go_enter Tryz.func7, Tryz.ntmps7
                    go_wp2
                    go_ret
                    exact ⟨ret_bool HE.out.symm, HB.out⟩
                · have HE : Hid (R = false) := Lib.hid (by rw [HC.out]; simp [c7])
                  go_enter Tryz.func7, Tryz.ntmps7
                  go_wp2
                  go_ret
                  exact ⟨ret_bool HE.out.symm, HB.out⟩
              · have HE : Hid (R = false) := Lib.hid (by rw [HC.out]; simp [c6])
                have c6' : (on == on') = false := by simpa using c6
                go_enter Tryz.func7, Tryz.ntmps7
                go_wp2
                go_ret
                exact ⟨ret_bool HE.out.symm, HB.out⟩
            · have HE : Hid (R = false) := Lib.hid (by rw [HC.out]; simp [c5])
              go_enter Tryz.func7, Tryz.ntmps7
              go_wp2
              go_ret
              exact ⟨ret_bool HE.out.symm, HB.out⟩
          · have HE : Hid (R = false) := Lib.hid (by rw [HC.out]; simp [c4])
            go_enter Tryz.func7, Tryz.ntmps7
            go_wp2
            go_ret
            exact ⟨ret_bool HE.out.symm, HB.out⟩
        · have HE : Hid (R = false) := Lib.hid (by rw [HC.out]; simp [c3])
          go_enter Tryz.func7, Tryz.ntmps7
          go_wp2
          go_ret
          exact ⟨ret_bool HE.out.symm, HB.out⟩
      · have HE : Hid (R = false) := Lib.hid (by rw [HC.out]; simp [c2])
        go_enter Tryz.func7, Tryz.ntmps7
        go_wp2
        go_ret
        exact ⟨ret_bool HE.out.symm, HB.out⟩
    · have HE : Hid (R = false) := Lib.hid (by rw [HC.out]; simp [c1])
      go_enter Tryz.func7, Tryz.ntmps7
      go_wp2
      go_ret
      exact ⟨ret_bool HE.out.symm, HB.out⟩
  · have HE : Hid (R = false) := Lib.hid (by rw [HC.out]; simp [c0])
    go_enter Tryz.func7, Tryz.ntmps7
    go_wp2
    go_ret
    exact ⟨ret_bool HE.out.symm, HB.out⟩
end Go.Proofs.YtnkmonmkhmcgaaaGreatDoor
