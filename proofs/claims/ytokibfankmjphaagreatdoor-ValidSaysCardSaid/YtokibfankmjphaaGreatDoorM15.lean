/- Parts of the proof: walks and plain laws, side by side. -/
import Derived.Test.YtokibfankmjphaaGreatDoorM4
import Derived.Test.YtokibfankmjphaaGreatDoorM14
import Derived.Test.YtokibfankmjphaaGreatDoorM12
import Derived.Test.YtokibfankmjphaaGreatDoorShelf
import Derived.Test.YtokibfankmjphaaGreatDoorM10
import Derived.Deep.QuietTactic
import Derived.BigQuiet
import Derived.Deep.LoopGhost
import Derived.Test.YtokibfankmjphaaGreatDoorProg
set_option linter.unusedVariables false
set_option linter.unusedSimpArgs false
set_option linter.unusedSectionVars false
/- Sets of members, and what may be: in plain words (no program in sight). -/
namespace Go.Proofs.YtokibfankmjphaaGreatDoor
open Go.RowKit Qm

structure Mem where
  pl : Int
  on : List Bool
deriving DecidableEq

/-- The package at a place. -/
def pkOf (ps : List Pk) (i : Int) : Pk := ps.getD i.toNat ⟨[], 0, 0, [], Nd.zero⟩
def badPl : Option Int → Int → Bool
  | none, _ => false
  | some q, p => decide (p ≤ q)
def ckMs (ps : List Pk) : Option Int → List Mem → Int
  | _, [] => 0
  | prev, m :: r => if m.pl < 0 ∨ (ps.length : Int) ≤ m.pl then 5 else if badPl prev m.pl = true then 6 else if m.on.length ≠ (pkOf ps m.pl).fs.length then 4 else ckMs ps (some m.pl) r
def ckSet (ps : List Pk) (l : List Mem) : Int := if ckTree ps ≠ 0 then ckTree ps else ckMs ps none l

theorem ckMs_step {ps : List Pk} {l : List Mem} {j : Nat} {m : Mem} (h : l[j]? = some m) :
    ckMs ps (prevOf (l.map Mem.pl) j) (l.drop j) = if m.pl < 0 ∨ (ps.length : Int) ≤ m.pl then 5 else if badPl (prevOf (l.map Mem.pl) j) m.pl = true then 6 else if m.on.length ≠ (pkOf ps m.pl).fs.length then 4 else ckMs ps (prevOf (l.map Mem.pl) (j + 1)) (l.drop (j + 1)) := by
  rw [prevOf_succ (l := l.map Mem.pl) (x := m.pl) (by rw [List.getElem?_map, h]; rfl)]
  obtain ⟨hj, rfl⟩ := List.getElem?_eq_some_iff.1 h
  rw [List.drop_eq_getElem_cons hj]
  rfl
theorem ckMs_done {ps : List Pk} {l : List Mem} {j : Nat} (h : l.length ≤ j) {p : Option Int} : ckMs ps p (l.drop j) = 0 := by
  rw [List.drop_eq_nil_of_le h]; rfl
/-- A right member. -/
def MemOk (ps : List Pk) (m : Mem) : Prop := 0 ≤ m.pl ∧ m.pl < ps.length ∧ m.on.length = (pkOf ps m.pl).fs.length
theorem ckMs_mem {ps : List Pk} : ∀ {l : List Mem} {prev : Option Int}, ckMs ps prev l = 0 → ∀ m ∈ l, MemOk ps m
  | [], _, _, m, hm => by cases hm
  | x :: r, prev, h, m, hm => by
    simp only [ckMs] at h
    split at h
    · cases h
    · rename_i h1
      split at h
      · cases h
      · split at h
        · cases h
        · rename_i h3
          rcases List.mem_cons.1 hm with rfl | hm
          · exact ⟨by omega, by omega, by simpa using h3⟩
          · exact ckMs_mem h m hm
/-! ### what an atom asks of a member -/
def ixOf (f : Qm.W) : List Qm.W → Option Nat
  | [] => none
  | g :: r => if g = f then some 0 else (ixOf f r).map (· + 1)
def onOf (on : List Bool) (k : Nat) : Bool := on.getD k false
def flagIs (p : Pk) (m : Mem) (a : At) : Bool := match ixOf a.fl p.fs with
  | some k => onOf m.on k == a.on
  | none => false
def isA (ps : List Pk) (m : Mem) (a : At) : Bool :=
  decide ((pkOf ps m.pl).nm = a.nm) && (fitsP a (pkOf ps m.pl).ver (pkOf ps m.pl).slot && (decide (a.fl = []) || flagIs (pkOf ps m.pl) m a))
theorem ixOf_lt {f : Qm.W} : ∀ {l : List Qm.W} {k : Nat}, ixOf f l = some k → k < l.length
  | [], k, h => by cases h
  | g :: r, k, h => by
    simp only [ixOf] at h
    split at h
    · simp only [Option.some.injEq] at h; subst h; simp
    · cases hr : ixOf f r with
      | none => rw [hr] at h; cases h
      | some j =>
        rw [hr] at h
        simp only [Option.map_some, Option.some.injEq] at h
        have := ixOf_lt hr
        simp only [List.length_cons]; omega
theorem ixOf_none {f : Qm.W} : ∀ {l : List Qm.W}, ixOf f l = none ↔ f ∉ l
  | [] => by simp [ixOf]
  | g :: r => by
    simp only [ixOf]
    by_cases hg : g = f
    · rw [if_pos hg]; simp [hg]
    · rw [if_neg hg]
      have := ixOf_none (f := f) (l := r)
      simp only [Option.map_eq_none_iff, List.mem_cons, not_or, this]
      exact ⟨fun h => ⟨fun e => hg e.symm, h⟩, fun h => h.2⟩

/-! ### whether a need holds -/
def blockB (q : Mem → Bool) (k : Nat) : Nat → List Mem → Bool
  | _, [] => true
  | i, m :: r => if i ≠ k ∧ q m = true then false else blockB q k (i + 1) r
def ifOff (ps : List Pk) (m : Mem) (f : Qm.W) (no : Bool) : Bool := match ixOf f (pkOf ps m.pl).fs with
  | some j => onOf m.on j == no
  | none => false
mutual
def holdsN (ps : List Pk) (l : List Mem) (k : Nat) (me : Mem) : Nd → Bool
  | .mk kd a f no ks =>
    if kd = 1 then l.any (fun m => isA ps m a)
    else if kd = 2 then blockB (fun m => isA ps m a) k 0 l
    else if kd = 4 then someN ps l k me ks
    else if kd = 5 ∧ ifOff ps me f no = true then true
    else allN ps l k me ks
def someN (ps : List Pk) (l : List Mem) (k : Nat) (me : Mem) : List Nd → Bool
  | [] => false
  | x :: r => holdsN ps l k me x || someN ps l k me r
def allN (ps : List Pk) (l : List Mem) (k : Nat) (me : Mem) : List Nd → Bool
  | [] => true
  | x :: r => holdsN ps l k me x && allN ps l k me r
end
theorem someN_eq {ps : List Pk} {l : List Mem} {k : Nat} {me : Mem} : ∀ {ks : List Nd}, someN ps l k me ks = ks.any (holdsN ps l k me)
  | [] => rfl
  | x :: r => by rw [someN, someN_eq, List.any_cons]
theorem allN_eq {ps : List Pk} {l : List Mem} {k : Nat} {me : Mem} : ∀ {ks : List Nd}, allN ps l k me ks = ks.all (holdsN ps l k me)
  | [] => rfl
  | x :: r => by rw [allN, allN_eq, List.all_cons]

def memAt (l : List Mem) (k : Nat) : Mem := l.getD k ⟨0, []⟩
def holdsAt (ps : List Pk) (l : List Mem) (k : Nat) : Bool := holdsN ps l k (memAt l k) (pkOf ps (memAt l k).pl).nd
/-- No earlier one has its name and slot. -/
def loneB (ps : List Pk) (p : Pk) : List Mem → Bool
  | [] => true
  | o :: r => if (pkOf ps o.pl).nm = p.nm ∧ (pkOf ps o.pl).slot = p.slot then false else loneB ps p r
def oneOk (ps : List Pk) (masked : List Int) (l : List Mem) (i : Nat) : Bool :=
  !masked.contains (memAt l i).pl && (holdsAt ps l i && loneB ps (pkOf ps (memAt l i).pl) (l.take i))
def allOk (ps : List Pk) (masked : List Int) (l : List Mem) : Nat → Bool
  | 0 => true
  | i + 1 => allOk ps masked l i && oneOk ps masked l i
def validP (ps : List Pk) (ts : List At) (masked : List Int) (l : List Mem) : Bool :=
  ts.all (fun a => l.any (fun m => isA ps m a)) && allOk ps masked l l.length

/-! ### wishes -/
structure Ws where
  ts : List At
  ins : List Mem
  ms : List Int
  on : List (Int × Int)
def ckAts : List At → Int
  | [] => 0
  | a :: r => if ckAtom a ≠ 0 then ckAtom a else ckAts r
def ckMask (ps : List Pk) : Option Int → List Int → Int
  | _, [] => 0
  | prev, k :: r => if k < 0 ∨ (ps.length : Int) ≤ k then 5 else if badPl prev k = true then 6 else ckMask ps (some k) r
def badOn : Option (Int × Int) → Int × Int → Bool
  | none, _ => false
  | some q, x => !(decide (q.1 < x.1) || (decide (q.1 = x.1) && decide (q.2 < x.2)))
def ckOn (ps : List Pk) : Option (Int × Int) → List (Int × Int) → Int
  | _, [] => 0
  | prev, x :: r => if x.1 < 0 ∨ (ps.length : Int) ≤ x.1 ∨ x.2 < 0 ∨ ((pkOf ps x.1).fs.length : Int) ≤ x.2 then 5 else if badOn prev x = true then 6 else ckOn ps (some x) r
def ckWishR (ps : List Pk) (w : Ws) : Int :=
  if 6 < w.ts.length then 2 else if ckAts w.ts ≠ 0 then ckAts w.ts else if ckMask ps none w.ms ≠ 0 then ckMask ps none w.ms else ckOn ps none w.on
def ckWish (ps : List Pk) (w : Ws) : Int := if ckSet ps w.ins ≠ 0 then ckSet ps w.ins else ckWishR ps w

/-! ### less is asked -/
theorem allOk_at {ps : List Pk} {ms : List Int} {l : List Mem} : ∀ {n : Nat}, allOk ps ms l n = true → ∀ i, i < n → oneOk ps ms l i = true
  | 0, _, i, hi => by omega
  | n + 1, h, i, hi => by
    rw [allOk, Bool.and_eq_true] at h
    by_cases e : i = n
    · subst e; exact h.2
    · exact allOk_at h.1 i (by omega)
end Go.Proofs.YtokibfankmjphaaGreatDoor

/- atom.Fits, walked. -/
namespace Go.Proofs.YtokibfankmjphaaGreatDoor
open Go.RowKit Qm

set_option maxHeartbeats 3200000 in
theorem fits_any (s f : ByteArray) (op ver slot v sl : Int) (on : Bool) (w : World) :
    Calls Tryz.prog 52 #[atv s op ver slot f on, .int .i64 v, .int .i64 sl] w fun e w' => e = .returned (.bool (fitsP (atOf s op ver slot f on) v sl)) ∧ Below w.heap.size w w' := by
  have BN := Lib.hid (Boxed.new w s op ver slot f on (t := 43))
  unfold atv
  by_cases z : slot = 0
  · subst z
    by_cases a1 : op = 1
    · subst a1
      go_enter Tryz.func52, Tryz.ntmps52
      go_wp2
      go_ret
      exact ⟨ret_bool (by rw [Bool.eq_iff_iff]; simp [fitsP, atOf, *] <;> exact decide_eq_true_iff.symm), (Below.refl _ _).alloc (Nat.le_refl _) _⟩
    · have b1 : (op == 1) = false := by simpa using a1
      by_cases a2 : op = 2
      · subst a2
        go_enter Tryz.func52, Tryz.ntmps52
        go_wp2
        go_ret
        exact ⟨ret_bool (by rw [Bool.eq_iff_iff]; simp [fitsP, atOf, *] <;> exact decide_eq_true_iff.symm), (Below.refl _ _).alloc (Nat.le_refl _) _⟩
      · have b2 : (op == 2) = false := by simpa using a2
        by_cases a3 : op = 3
        · subst a3
          go_enter Tryz.func52, Tryz.ntmps52
          go_wp2
          go_ret
          exact ⟨ret_bool (by rw [Bool.eq_iff_iff]; simp [fitsP, atOf, *] <;> exact decide_eq_true_iff.symm), (Below.refl _ _).alloc (Nat.le_refl _) _⟩
        · have b3 : (op == 3) = false := by simpa using a3
          go_enter Tryz.func52, Tryz.ntmps52
          go_wp2
          go_ret
          exact ⟨ret_bool (by rw [Bool.eq_iff_iff]; simp [fitsP, atOf, *] <;> exact decide_eq_true_iff.symm), (Below.refl _ _).alloc (Nat.le_refl _) _⟩
  · have z1 : (slot != 0) = true := by simpa using z
    by_cases y : slot = sl
    · have y1 : (slot != sl) = false := by simpa using y
      by_cases a1 : op = 1
      · subst a1
        go_enter Tryz.func52, Tryz.ntmps52
        go_wp2
        go_ret
        exact ⟨ret_bool (by rw [Bool.eq_iff_iff]; simp [fitsP, atOf, *] <;> exact decide_eq_true_iff.symm), (Below.refl _ _).alloc (Nat.le_refl _) _⟩
      · have b1 : (op == 1) = false := by simpa using a1
        by_cases a2 : op = 2
        · subst a2
          go_enter Tryz.func52, Tryz.ntmps52
          go_wp2
          go_ret
          exact ⟨ret_bool (by rw [Bool.eq_iff_iff]; simp [fitsP, atOf, *] <;> exact decide_eq_true_iff.symm), (Below.refl _ _).alloc (Nat.le_refl _) _⟩
        · have b2 : (op == 2) = false := by simpa using a2
          by_cases a3 : op = 3
          · subst a3
            go_enter Tryz.func52, Tryz.ntmps52
            go_wp2
            go_ret
            exact ⟨ret_bool (by rw [Bool.eq_iff_iff]; simp [fitsP, atOf, *] <;> exact decide_eq_true_iff.symm), (Below.refl _ _).alloc (Nat.le_refl _) _⟩
          · have b3 : (op == 3) = false := by simpa using a3
            go_enter Tryz.func52, Tryz.ntmps52
            go_wp2
            go_ret
            exact ⟨ret_bool (by rw [Bool.eq_iff_iff]; simp [fitsP, atOf, *] <;> exact decide_eq_true_iff.symm), (Below.refl _ _).alloc (Nat.le_refl _) _⟩
    · have y1 : (slot != sl) = true := by simpa using y
      go_enter Tryz.func52, Tryz.ntmps52
      go_wp2
      go_ret
      exact ⟨ret_bool (by unfold fitsP; rw [if_pos ⟨z, y⟩]), (Below.refl _ _).alloc (Nat.le_refl _) _⟩

end Go.Proofs.YtokibfankmjphaaGreatDoor

/- tree.Means, walked. -/
namespace Go.Proofs.YtokibfankmjphaaGreatDoor
open Go.RowKit Qm

/-- An atom means a package: by name, version, slot; and the package has its flag. -/
def meant (a : At) (p : Pk) : Bool := decide (p.nm = a.nm) && (fitsP a p.ver p.slot && (decide (a.fl = []) || p.fs.contains a.fl))
def meantTo (ps : List Pk) (a : At) : Nat → List Int
  | 0 => []
  | j + 1 => meantTo ps a j ++ (match ps[j]? with | some p => if meant a p = true then [(j : Int)] else [] | none => [])
theorem ckTree_len {ps : List Pk} (h : ckTree ps = 0) : ps.length ≤ 8 := by
  unfold ckTree at h
  split at h
  · cases h
  · omega
def meansE (ps : List Pk) (a : At) : Int := if ckTree ps ≠ 0 then ckTree ps else ckAtom a
def meansL (ps : List Pk) (a : At) : List Int := if meansE ps a = 0 then meantTo ps a ps.length else []

structure Mx (w : World) (A : Option Addr) (n c : Nat) (av : List Value) (wr : World) : Prop where
  below : Below w.heap.size w wr
  t : Whole wr w.heap.size 24 [.slice A n c]
  a : Whole wr (w.heap.size + 1) 43 av
theorem Mx.move {w : World} {A : Option Addr} {n c : Nat} {av : List Value} {w1 w2 : World} (h : Mx w A n c av w1) (hb : Below w1.heap.size w1 w2) : Mx w A n c av w2 :=
  ⟨h.below.trans (hb.mono h.below.size), h.t.below hb h.t.lt, h.a.below hb h.a.lt⟩
theorem Mx.new (w : World) (A : Option Addr) (n c : Nat) (av : List Value) : Mx w A n c av ((w.alloc (.cells #[.slice A n c] 24)).alloc (.cells av.toArray 43)) := by
  have hb1 : Below w.heap.size w (w.alloc (.cells #[.slice A n c] 24)) := (Below.refl _ w).alloc (Nat.le_refl _) _
  have ht := Whole.new w w.heap.size 24 [.slice A n c] rfl
  have hb2 : Below (w.alloc (.cells #[.slice A n c] 24)).heap.size (w.alloc (.cells #[.slice A n c] 24)) ((w.alloc (.cells #[.slice A n c] 24)).alloc (.cells av.toArray 43)) := (Below.refl _ _).alloc (Nat.le_refl _) _
  exact ⟨hb1.trans (hb2.mono hb1.size), ht.below hb2 ht.lt, Whole.new _ _ _ av (by simp)⟩
def MeansPost (w : World) (ps : List Pk) (a : At) (e : Ending) (w' : World) : Prop :=
  ∃ A c, e = .returned (.tuple #[.slice A (meansL ps a).length c, .int .i64 (meansE ps a)]) ∧ RInts w' (fun i => w.heap.size ≤ i ∧ i < w'.heap.size) A (meansL ps a).length (meansL ps a) ∧ (meansL ps a).length ≤ c ∧ c ≤ maxLen ∧ Below w.heap.size w w'
theorem MeansPost.ok {w w3 w' : World} {ps : List Pk} {a : At} {v : Value} (he : meansE ps a = 0) (hw : w.heap.size ≤ w3.heap.size) (hown : w'.ownsRow w3.heap.size 3 1 v (meantTo ps a ps.length).length ((meantTo ps a ps.length).map (.int .i64))) (hb : Below w.heap.size w w') :
    MeansPost w ps a (.returned (.tuple #[v, .int .i64 0])) w' := by
  have hl : meansL ps a = meantTo ps a ps.length := by unfold meansL; rw [if_pos he]
  obtain ⟨A, c, rfl, h1, h2, h3⟩ := own_form hown
  unfold MeansPost
  rw [hl, he]
  exact ⟨A, c, rfl, h3.more fun k hk => ⟨Nat.le_trans hw hk.1, hk.2⟩, h1, h2, hb⟩
end Go.Proofs.YtokibfankmjphaaGreatDoor

/- Members, sets, wishes in memory. -/
namespace Go.Proofs.YtokibfankmjphaaGreatDoor
open Go.RowKit Qm

/-- The two cells of a member. -/
def RMem (w : World) (S : Nat → Prop) (x : List Value) (m : Mem) : Prop := ∃ A n c, x = [.int .i64 m.pl, .slice A n c] ∧ n ≤ c ∧ c ≤ maxLen ∧ RBools w S A n m.on
def RSet (w : World) (S : Nat → Prop) (A : Option Addr) (n : Nat) (l : List Mem) : Prop := RSeq 2 (RMem w S) w S A n l
section
variable {w w' : World} {S S' : Nat → Prop} {A : Option Addr} {n : Nat} {l : List Mem} {x : List Value} {m : Mem}
theorem RMem.keep (h : RMem w S x m) (hw : ∀ p : Addr, S p.block → w'.cell? p = w.cell? p) : RMem w' S x m := by
  obtain ⟨A, n, c, rfl, h1, h2, h3⟩ := h; exact ⟨A, n, c, rfl, h1, h2, Row.keep h3 hw⟩
theorem RMem.more (hS : ∀ k, S k → S' k) (h : RMem w S x m) : RMem w S' x m := by
  obtain ⟨A, n, c, rfl, h1, h2, h3⟩ := h; exact ⟨A, n, c, rfl, h1, h2, Row.more h3 hS⟩
theorem RMem.under {B : Nat} (h : RMem w S x m) (hb : Below B w w') (hS : ∀ k, S k → k < B) : RMem w' S x m := h.keep fun _ hp => hb.cell (hS _ hp)
theorem RSet.len (h : RSet w S A n l) : l.length = n := RSeq.len h
theorem RSet.nil_ : RSet w S A 0 [] := RSeq.nil_
theorem RSet.keep (h : RSet w S A n l) (hw : ∀ p : Addr, S p.block → w'.cell? p = w.cell? p) : RSet w' S A n l := RSeq.keep h hw fun _ _ h => h.keep hw
theorem RSet.more (hS : ∀ k, S k → S' k) (h : RSet w S A n l) : RSet w S' A n l := RSeq.more hS h fun _ _ h => h.more hS
theorem RSet.under {B : Nat} (h : RSet w S A n l) (hb : Below B w w') (hS : ∀ k, S k → k < B) : RSet w' S A n l := h.keep fun _ hp => hb.cell (hS _ hp)
theorem RSet.at_ (h : RSet w S A n l) {j : Nat} (hj : j < n) :
    ∃ b o m B k d, A = some ⟨b, o, none⟩ ∧ S b ∧ l[j]? = some m ∧ k ≤ d ∧ d ≤ maxLen ∧ RBools w S B k m.on ∧ w.cell? ⟨b, o + j * 2, none⟩ = some (.int .i64 m.pl) ∧ w.cell? ⟨b, o + j * 2 + 1, none⟩ = some (.slice B k d) := by
  obtain ⟨b, o, x, m, hA, hb, hm, ⟨B, k, d, rfl, h1, h2, h3⟩, _, hc⟩ := RSeq.at_ h hj (by decide)
  exact ⟨b, o, m, B, k, d, hA, hb, hm, h1, h2, h3, hc 0 (by decide), hc 1 (by decide)⟩
end
/-- An atom's six cells. -/
def atRow (a : At) : List Value := [.string ⟨a.nm.toArray⟩, .int .i64 a.op, .int .i64 a.ver, .int .i64 a.slot, .string ⟨a.fl.toArray⟩, .bool a.on]
def RAt (x : List Value) (a : At) : Prop := x = atRow a ∧ a.nm.length ≤ maxLen ∧ a.fl.length ≤ maxLen
def RPair (x : List Value) (q : Int × Int) : Prop := x = [.int .i64 q.1, .int .i64 q.2]
/-- A wish by the headers of its four slices. -/
structure WsAt (w : World) (S : Nat → Prop) (A1 : Option Addr) (n1 c1 : Nat) (A2 : Option Addr) (n2 c2 : Nat) (A3 : Option Addr) (n3 c3 : Nat) (A4 : Option Addr) (n4 c4 : Nat) (v : Ws) : Prop where
  h1 : n1 ≤ c1 ∧ c1 ≤ maxLen
  h2 : n2 ≤ c2 ∧ c2 ≤ maxLen
  h3 : n3 ≤ c3 ∧ c3 ≤ maxLen
  h4 : n4 ≤ c4 ∧ c4 ≤ maxLen
  ts : RSeq 6 RAt w S A1 n1 v.ts
  ins : RSet w S A2 n2 v.ins
  ms : RInts w S A3 n3 v.ms
  on : RSeq 2 RPair w S A4 n4 v.on
def wsRow (A1 : Option Addr) (n1 c1 : Nat) (A2 : Option Addr) (n2 c2 : Nat) (A3 : Option Addr) (n3 c3 : Nat) (A4 : Option Addr) (n4 c4 : Nat) : List Value := [.slice A1 n1 c1, .slice A2 n2 c2, .slice A3 n3 c3, .slice A4 n4 c4]
def RWs (w : World) (S : Nat → Prop) (x : List Value) (v : Ws) : Prop := ∃ A1 n1 c1 A2 n2 c2 A3 n3 c3 A4 n4 c4, x = wsRow A1 n1 c1 A2 n2 c2 A3 n3 c3 A4 n4 c4 ∧ WsAt w S A1 n1 c1 A2 n2 c2 A3 n3 c3 A4 n4 c4 v
section
variable {w w' : World} {S S' : Nat → Prop} {A1 A2 A3 A4 : Option Addr} {n1 c1 n2 c2 n3 c3 n4 c4 : Nat} {v : Ws}
theorem WsAt.keep (h : WsAt w S A1 n1 c1 A2 n2 c2 A3 n3 c3 A4 n4 c4 v) (hw : ∀ p : Addr, S p.block → w'.cell? p = w.cell? p) : WsAt w' S A1 n1 c1 A2 n2 c2 A3 n3 c3 A4 n4 c4 v :=
  ⟨h.h1, h.h2, h.h3, h.h4, h.ts.keep hw fun _ _ h => h, h.ins.keep hw, Row.keep h.ms hw, h.on.keep hw fun _ _ h => h⟩
theorem WsAt.more (hS : ∀ k, S k → S' k) (h : WsAt w S A1 n1 c1 A2 n2 c2 A3 n3 c3 A4 n4 c4 v) : WsAt w S' A1 n1 c1 A2 n2 c2 A3 n3 c3 A4 n4 c4 v :=
  ⟨h.h1, h.h2, h.h3, h.h4, RSeq.more hS h.ts fun _ _ h => h, h.ins.more hS, Row.more h.ms hS, RSeq.more hS h.on fun _ _ h => h⟩
theorem WsAt.under {B : Nat} (h : WsAt w S A1 n1 c1 A2 n2 c2 A3 n3 c3 A4 n4 c4 v) (hb : Below B w w') (hS : ∀ k, S k → k < B) : WsAt w' S A1 n1 c1 A2 n2 c2 A3 n3 c3 A4 n4 c4 v := h.keep fun _ hp => hb.cell (hS _ hp)
end
end Go.Proofs.YtokibfankmjphaaGreatDoor

/- slices.Index of words. (Of the shelf: Tryz.slices_Index_string Tryz.slices_Index_string_empty) -/
namespace Go.Proofs.YtokibfankmjphaaGreatDoor
open Go.RowKit Qm

def ixI : Option Nat → Int
  | some k => (k : Int)
  | none => -1
theorem idxFrom_ix (x : Qm.W) : ∀ (fs : List Qm.W) (i : Nat), Lib.idxFromS (bas fs) ⟨x.toArray⟩ i = ixI ((ixOf x fs).map (· + i))
  | [], i => rfl
  | f :: r, i => by
    have ih := idxFrom_ix x r (i + 1)
    have hb : bas (f :: r) = ⟨f.toArray⟩ :: bas r := rfl
    rw [hb]
    have he : ((⟨f.toArray⟩ : ByteArray) = ⟨x.toArray⟩) ↔ f = x := by
      constructor
      · intro h; have := congrArg (·.data.toList) h; simpa using this
      · rintro rfl; rfl
    unfold Lib.idxFromS
    simp only [ixOf]
    by_cases hf : f = x
    · rw [if_pos hf, if_pos (he.2 hf)]
      simp [ixI]
    · rw [if_neg hf, if_neg (fun h => hf (he.1 h)), ih]
      cases ixOf x r with
      | none => rfl
      | some k => simp [ixI]; omega
theorem indexS_any (A : Option Addr) (n c : Nat) (fs : List Qm.W) (x : Qm.W) (w : World) (S : Nat → Prop) (h : Row w S A n (strs fs)) (hn : n ≤ maxLen) :
    Calls Tryz.prog 38 #[.slice A n c, .string ⟨x.toArray⟩] w fun e w' => e = .returned (.int .i64 (ixI (ixOf x fs))) ∧ w' = w := by
  have hl : fs.length = n := by have := h.len; simpa [strs] using this
  unfold maxLen at hn
  have hx : Lib.idxOfS (bas fs) ⟨x.toArray⟩ = ixI (ixOf x fs) := by
    unfold Lib.idxOfS; rw [idxFrom_ix]; cases ixOf x fs <;> rfl
  by_cases h0 : n = 0
  · subst h0
    obtain rfl := List.eq_nil_of_length_eq_zero hl
    exact (Tryz.slices_Index_string_empty A c ⟨x.toArray⟩ w).mono fun e w' ⟨he, hw⟩ => ⟨he.trans (by rw [show Lib.idxOfS [] ⟨x.toArray⟩ = ixI (ixOf x []) from hx]), hw⟩
  · obtain ⟨b, o, rfl, _⟩ := h.some_lit (by omega)
    refine (Tryz.slices_Index_string b o n c (bas fs) ⟨x.toArray⟩ w (by simp [bas, hl]) (by omega) (strs_cell (by rw [hl]; exact h))).mono fun e w' ⟨he, hw⟩ => ⟨?_, hw⟩
    rw [he, List.take_of_length_le (by simp [bas, hl]), hx]
end Go.Proofs.YtokibfankmjphaaGreatDoor

/- valid.is, walked. -/
namespace Go.Proofs.YtokibfankmjphaaGreatDoor
open Go.RowKit Qm

theorem pkOf_at {ps : List Pk} {j : Nat} {p : Pk} (h : ps[j]? = some p) : pkOf ps (j : Int) = p := by
  unfold pkOf
  rw [Int.toNat_natCast, List.getD_eq_getElem?_getD, h]; rfl
/-- The boxes of valid.is. -/
structure Ib (w : World) (A : Option Addr) (n c : Nat) (mv av : List Value) (wx : World) : Prop where
  t : Whole wx w.heap.size 24 [.slice A n c]
  m : Whole wx (w.heap.size + 1) 51 mv
  a : Whole wx (w.heap.size + 1 + 1) 43 av
  bel : Below w.heap.size w wx
theorem Ib.move {w : World} {A : Option Addr} {n c : Nat} {mv av : List Value} {wx wy : World} (h : Ib w A n c mv av wx) (hb : Below wx.heap.size wx wy) : Ib w A n c mv av wy :=
  ⟨h.t.below hb h.t.lt, h.m.below hb h.m.lt, h.a.below hb h.a.lt, h.bel.trans (hb.mono h.bel.size)⟩
theorem Ib.new (w : World) (A : Option Addr) (n c : Nat) (mv av : List Value) : Ib w A n c mv av (((w.alloc (.cells #[.slice A n c] 24)).alloc (.cells mv.toArray 51)).alloc (.cells av.toArray 43)) :=
  ⟨((Whole.new w _ _ [.slice A n c] rfl).alloc _).alloc _, (Whole.new (w.alloc (.cells #[.slice A n c] 24)) (w.heap.size + 1) _ mv (by simp)).alloc _, Whole.new ((w.alloc (.cells #[.slice A n c] 24)).alloc (.cells mv.toArray 51)) (w.heap.size + 1 + 1) _ av (by simp),
    (((Below.refl _ w).alloc (Nat.le_refl _) _).alloc (by simp) _).alloc (by simp; omega) _⟩
set_option maxRecDepth 100000 in
set_option maxHeartbeats 3200000 in
theorem is_any (ps : List Pk) (m : Mem) (a : At) (S : Nat → Prop) (A B : Option Addr) (n c k d : Nat) (w : World) (hT : RTree w S A n ps) (hB : RBools w S B k m.on) (hkd : k ≤ d) (hm : MemOk ps m) (hS : ∀ k, S k → k < w.heap.size) (hn8 : n ≤ 8) (h1 : a.nm.length ≤ maxLen) (h2 : a.fl.length ≤ maxLen) :
    Calls Tryz.prog 32 #[.agg #[.slice A n c], .agg #[.int .i64 m.pl, .slice B k d], .agg #[.string ⟨a.nm.toArray⟩, .int .i64 a.op, .int .i64 a.ver, .int .i64 a.slot, .string ⟨a.fl.toArray⟩, .bool a.on]] w fun e w' => e = .returned (.bool (isA ps m a)) ∧ Below w.heap.size w w' := by
  obtain ⟨hm0, hm1, hm2⟩ := hm
  have hl := hT.len
  obtain ⟨pl, on⟩ := m
  dsimp only at hm0 hm1 hm2 hB ⊢
  obtain ⟨j, rfl⟩ : ∃ j : Nat, pl = j := ⟨pl.toNat, by omega⟩
  have hjn : j < n := by omega
  obtain ⟨b, o, p, D, q, c', kd, pa, f, no, E, r, d', rfl, hbS, hp, hP, hcell⟩ := hT.at_ hjn
  rw [pkOf_at hp] at hm2
  have HC : Hid (isA ps ⟨(j : Int), on⟩ a = (decide (p.nm = a.nm) && (fitsP a p.ver p.slot && (decide (a.fl = []) || flagIs p ⟨(j : Int), on⟩ a)))) := Lib.hid (by unfold isA; rw [pkOf_at hp])
  have HF : Hid (flagIs p ⟨(j : Int), on⟩ a = match ixOf a.fl p.fs with | some i => onOf on i == a.on | none => false) := Lib.hid rfl
  generalize isA ps ⟨(j : Int), on⟩ a = R at HC ⊢
  generalize flagIs p ⟨(j : Int), on⟩ a = fl at HC HF
  have g0 := hcell 0 (by omega); have g1 := hcell 1 (by omega); have g2 := hcell 2 (by omega); have g3 := hcell 3 (by omega); have g4 := hcell 4 (by omega); have g5 := hcell 5 (by omega); have g6 := hcell 6 (by omega); have g7 := hcell 7 (by omega); have g8 := hcell 8 (by omega); have g9 := hcell 9 (by omega); have g10 := hcell 10 (by omega); have g11 := hcell 11 (by omega); have g12 := hcell 12 (by omega); have g13 := hcell 13 (by omega)
  unfold pkRow ndRow at g0 g1 g2 g3 g4 g5 g6 g7 g8 g9 g10 g11 g12 g13
  simp only [List.getElem?_cons_zero, List.getElem?_cons_succ, Nat.add_zero] at g0 g1 g2 g3 g4 g5 g6 g7 g8 g9 g10 g11 g12 g13
  clear hcell hp
  have hbl : b < w.heap.size := hS b hbS
  have hbl_1 : b < w.heap.size + 1 := by omega
  have hbl_2 : b < w.heap.size + 1 + 1 := by omega
  have I0 := Lib.hid (Ib.new w (some ⟨b, o, none⟩) n c [.int .i64 (j : Int), .slice B k d] [.string ⟨a.nm.toArray⟩, .int .i64 a.op, .int .i64 a.ver, .int .i64 a.slot, .string ⟨a.fl.toArray⟩, .bool a.on])
  have P1 := Lib.hid (Whole.new (((w.alloc (.cells #[.slice (some ⟨b, o, none⟩) n c] 24)).alloc (.cells #[.int .i64 (j : Int), .slice B k d] 51)).alloc (.cells #[.string ⟨a.nm.toArray⟩, .int .i64 a.op, .int .i64 a.ver, .int .i64 a.slot, .string ⟨a.fl.toArray⟩, .bool a.on] 43)) (w.heap.size + 1 + 1 + 1) 48 (pkRow p D q c' (ndRow kd pa f no E r d')) (by simp))
  have I1 := Lib.hid (I0.out.move ((Below.refl _ (((w.alloc (.cells #[.slice (some ⟨b, o, none⟩) n c] 24)).alloc (.cells #[.int .i64 (j : Int), .slice B k d] 51)).alloc (.cells #[.string ⟨a.nm.toArray⟩, .int .i64 a.op, .int .i64 a.ver, .int .i64 a.slot, .string ⟨a.fl.toArray⟩, .bool a.on] 43))).alloc (Nat.le_refl _) (.cells (pkRow p D q c' (ndRow kd pa f no E r d')).toArray 48)))
  have HFS := Lib.hid hP.fs.row
  have HBO := Lib.hid hB
  have HPm := Lib.hid (Nat.le_trans hP.cap hP.max)
  have HBl := Lib.hid hB.len
  have HFl := Lib.hid hP.fs.len
  have HS := Lib.hid hS
  have hft := fun wx => fits_any ⟨a.nm.toArray⟩ ⟨a.fl.toArray⟩ a.op a.ver a.slot p.ver p.slot a.on wx
  rw [atOf_mk] at hft
  unfold atv at hft
  have Hft := Lib.hid hft
  clear hT hB hP hS hft I0
  obtain ⟨nm, ver, slot, fs, nd⟩ := p
  unfold pkRow ndRow at P1 I1
  dsimp only at g0 g1 g2 g3 g4 g5 g6 g7 g8 g9 g10 g11 g12 g13 P1 I1 HFS Hft HC HF HFl hm2
  generalize fitsP a ver slot = ft at Hft HC
  have hj1 : (j : Int) < n := by omega
  by_cases hn : nm = a.nm
  · subst hn
    have H1 : Hid (R = (ft && (decide (a.fl = []) || fl))) := Lib.hid (by rw [HC.out]; simp)
    clear HC
    cases ft
    · have HE : Hid (R = false) := Lib.hid (by rw [H1.out]; rfl)
      go_enter Tryz.func32, Tryz.ntmps32
      go_wp2_with (first | (go_at_call 52; refine (Hft.out _).mono ?_; rintro e w4 ⟨rfl, hb4⟩; refine Hid.out ?_))
      refine Lib.hid ?_
      have P4 := Lib.hid (P1.out.below hb4 P1.out.lt)
      have I4 := Lib.hid (I1.out.move hb4)
      clear hb4
      go_wp2
      go_ret
      exact ⟨ret_bool HE.out.symm, I4.out.bel⟩
    · by_cases hfl : a.fl = []
      · have HE : Hid (R = true) := Lib.hid (by rw [H1.out, decide_eq_true hfl]; rfl)
        have hf1 : (a.fl == []) = true := by simpa using hfl
        have hf2 : a.fl.isEmpty = true := by simpa using hfl
        have Hfl := Lib.hid hfl; clear hfl
        go_enter Tryz.func32, Tryz.ntmps32
        go_wp2_with (first | (go_at_call 52; refine (Hft.out _).mono ?_; rintro e w4 ⟨rfl, hb4⟩; refine Hid.out ?_))
        refine Lib.hid ?_
        have P4 := Lib.hid (P1.out.below hb4 P1.out.lt)
        have I4 := Lib.hid (I1.out.move hb4)
        clear hb4
        have a4 := I4.out.a.cell 4
        simp only [List.getElem?_cons_zero, List.getElem?_cons_succ] at a4
        rw [Hfl.out] at a4
        go_wp2
        go_ret
        exact ⟨ret_bool HE.out.symm, I4.out.bel⟩
      · have hf1 : (a.fl == []) = false := by simpa using hfl
        have hf2 : a.fl.isEmpty = false := by simpa using hfl
        have H2 : Hid (R = fl) := Lib.hid (by rw [H1.out, decide_eq_false hfl]; simp)
        clear hfl H1
        cases hix : ixOf a.fl fs with
        | none =>
          have HE : Hid (R = false) := Lib.hid (by rw [H2.out, HF.out, hix])
          have Hix := Lib.hid (fun wx hb => indexS_any D q c' fs a.fl wx S (HFS.out.below (w' := wx) hb HS.out) HPm.out)
          rw [hix] at Hix
          unfold ixI at Hix
          clear hix
          go_enter Tryz.func32, Tryz.ntmps32
          go_wp2_with (first | (go_at_call 52; refine (Hft.out _).mono ?_; rintro e w4 ⟨rfl, hb4⟩; refine Hid.out ?_))
          refine Lib.hid ?_
          have P4 := Lib.hid (P1.out.below hb4 P1.out.lt)
          have I4 := Lib.hid (I1.out.move hb4)
          clear hb4
          have a4 := I4.out.a.cell 4
          have p3 := P4.out.cell 3
          simp only [List.getElem?_cons_zero, List.getElem?_cons_succ] at a4 p3
          have plt := P4.out.lt
          go_wp2_with (first | (go_at_call 38; refine (Hix.out _ I4.out.bel).mono ?_; rintro e w5 ⟨rfl, hw5⟩; have hw6 := hw5.symm; subst hw6; refine Hid.out ?_))
          refine Lib.hid ?_
          go_wp2
          go_quiet (fail)
          go_wp2
          go_ret
          exact ⟨ret_bool HE.out.symm, below_drewN I4.out.bel _⟩
        | some i =>
          have hiq := ixOf_lt hix
          obtain ⟨b2, o2, rfl, hb2, hbc⟩ := HBO.out.at_ (k := i) (by rw [← HBl.out, hm2]; exact hiq)
          have hik : (i : Int) < k := by have := HBl.out; omega
          have hbl2 := HS.out b2 hb2
          have HE : Hid (R = (on.getD i false == a.on)) := Lib.hid (by rw [H2.out, HF.out, hix]; rfl)
          generalize on.getD i false = ob at hbc HE
          have Hix := Lib.hid (fun wx hb => indexS_any D q c' fs a.fl wx S (HFS.out.below (w' := wx) hb HS.out) HPm.out)
          rw [hix] at Hix
          unfold ixI at Hix
          clear hix hiq hm2
          go_enter Tryz.func32, Tryz.ntmps32
          go_wp2_with (first | (go_at_call 52; refine (Hft.out _).mono ?_; rintro e w4 ⟨rfl, hb4⟩; refine Hid.out ?_))
          refine Lib.hid ?_
          have P4 := Lib.hid (P1.out.below hb4 P1.out.lt)
          have I4 := Lib.hid (I1.out.move hb4)
          clear hb4
          have a4 := I4.out.a.cell 4
          have a5 := I4.out.a.cell 5
          have m1 := I4.out.m.cell 1
          have p3 := P4.out.cell 3
          simp only [List.getElem?_cons_zero, List.getElem?_cons_succ] at a4 a5 p3 m1
          have plt := P4.out.lt
          have ob4 := (I4.out.bel.cell (p := ⟨b2, o2 + i, none⟩) hbl2).trans hbc
          go_wp2_with (first | (go_at_call 38; refine (Hix.out _ I4.out.bel).mono ?_; rintro e w5 ⟨rfl, hw5⟩; have hw6 := hw5.symm; subst hw6; refine Hid.out ?_))
          refine Lib.hid ?_
          have hi0 : (0 : Int) ≤ (i : Int) := by omega
          go_wp2
          go_quiet (fail)
          go_wp2
          go_ret
          exact ⟨ret_bool HE.out.symm, below_drewN I4.out.bel _⟩
  · have hn' : (nm == a.nm) = false := by simpa using hn
    have HE : Hid (R = false) := Lib.hid (by rw [HC.out, decide_eq_false hn]; rfl)
    go_enter Tryz.func32, Tryz.ntmps32
    go_wp2
    go_ret
    exact ⟨ret_bool HE.out.symm, I1.out.bel⟩
end Go.Proofs.YtokibfankmjphaaGreatDoor

/- The first element that meets something; a function value that answers of each. -/
namespace Go.Proofs.YtokibfankmjphaaGreatDoor
open Go.RowKit Qm
def ixB {α : Type} (p : α → Bool) (xs : List α) : Int := match xs.findIdx? p with | some i => (i : Int) | none => -1
theorem ixB_hit {α : Type} {p : α → Bool} {xs : List α} {k : Nat} {x : α} (hk : xs[k]? = some x) (hp : p x = true) (hn : (xs.take k).any p = false) : ixB p xs = k := by
  obtain ⟨hk', hx⟩ := List.getElem?_eq_some_iff.1 hk
  have e : xs.take k ++ x :: xs.drop (k+1) = xs := by
    rw [← hx, List.getElem_cons_drop, List.take_append_drop]
  have h1 : (xs.take k).findIdx? p = none := by
    rw [List.findIdx?_eq_none_iff]; intro y hy; exact by simpa using List.any_eq_false.1 hn y hy
  have h2 : (xs.take k ++ x :: xs.drop (k+1)).findIdx? p = some k := by
    have hl : (xs.take k).length = k := by rw [List.length_take]; omega
    rw [List.findIdx?_append, h1, List.findIdx?_cons, hp, hl]; simp
  rw [e] at h2
  unfold ixB
  rw [h2]
theorem ixB_next {α : Type} {p : α → Bool} {xs : List α} {k : Nat} {x : α} (hk : xs[k]? = some x) (hp : p x = false) (hn : (xs.take k).any p = false) : (xs.take (k + 1)).any p = false := by
  obtain ⟨hk', rfl⟩ := List.getElem?_eq_some_iff.1 hk
  clear hk
  rw [List.take_succ_eq_append_getElem hk', List.any_append, hn]; simp [hp]
theorem ixB_none {α : Type} {p : α → Bool} {xs : List α} (h : xs.any p = false) : ixB p xs = -1 := by
  have h1 : xs.findIdx? p = none := by
    rw [List.findIdx?_eq_none_iff]; intro y hy; exact by simpa using List.any_eq_false.1 h y hy
  unfold ixB; rw [h1]
theorem ixB_any {α : Type} (p : α → Bool) (xs : List α) : decide ((0 : Int) ≤ ixB p xs) = xs.any p := by
  cases h : xs.any p
  · rw [ixB_none h]; rfl
  · unfold ixB
    cases h1 : xs.findIdx? p with
    | none =>
      rw [List.findIdx?_eq_none_iff] at h1
      obtain ⟨x, hx, hp⟩ := List.any_eq_true.1 h
      rw [h1 x hx] at hp; cases hp
    | some i => simp
/-- A function value that answers, of each element, as p does. -/
def AsksB {α : Type} (P : Program) (w : World) (F : FuncId) (caps : Array Value) (R : List Value → α → Prop) (xs : List α) (p : α → Bool) : Prop :=
  (∀ (args : Array Value) (W : World), (callFunc F args).run P W = .ok (.enter F args) W) ∧
    ∀ x ∈ xs, ∀ (cx : List Value) (W : World), Below w.heap.size w W → R cx x → Calls P F (#[.agg cx.toArray] ++ caps) W fun e w' => e = .returned (.bool (p x)) ∧ Below W.heap.size W w'
end Go.Proofs.YtokibfankmjphaaGreatDoor

/- slices.IndexFunc, slices.ContainsFunc of slices whose elements have 2 cells. (Printed by wip/bin/mkcf.py.) -/
namespace Go.Proofs.YtokibfankmjphaaGreatDoor
open Go.RowKit Qm

def ShapeC_M (x : List Value) : Prop := ∃ (x0 : Int) (x1a : Option Addr) (x1n x1c : Nat), x = [.int .i64 x0, .slice x1a x1n x1c]
set_option maxRecDepth 100000 in
set_option maxHeartbeats 3200000 in
theorem indexF_M {α : Type} (R : List Value → α → Prop) (p : α → Bool) (A : Option Addr) (n c : Nat) (xs : List α) (F : FuncId) (caps : Array Value) (w : World) (S : Nat → Prop) (hK : RSeq 2 R w S A n xs) (hS : ∀ k, S k → k < w.heap.size) (hn : n ≤ maxLen) (hF : AsksB Tryz.prog w F caps R xs p) (hsh : ∀ x y, R x y → ShapeC_M x) :
    Calls Tryz.prog 46 #[.slice A n c, .func (.func F) #[] caps] w fun e w' => e = .returned (.int .i64 (ixB p xs)) ∧ Below w.heap.size w w' := by
  unfold maxLen at hn
  have HK := Lib.hid hK; have HS := Lib.hid hS; have HF := Lib.hid hF; clear hK hS hF
  have Hlen := Lib.hid HK.out.len
  go_enter Tryz.func46, Tryz.ntmps46
  go_wp2
  go_loopg [8] n (fun g iv wr => ∃ (j : Nat), Hid (j + g = n) ∧ iv = .int .i64 j ∧ Hid ((xs.take j).any p = false) ∧ Below w.heap.size w wr)
  case atStart => exact ⟨0, Lib.hid (Nat.zero_add _), rfl, Lib.hid rfl, Below.refl _ _⟩
  case round =>
    obtain ⟨j, Hj, rfl, Hcl, hb⟩ := hrel
    have HBr := Lib.hid hb; clear hb
    by_cases hj : j < n
    · obtain ⟨b, o, x, y, rfl, hb, hy, hxy, hxl, hcell⟩ := (HK.out.keep (w' := wr) (fun p hp => HBr.out.cell (HS.out _ hp)) fun _ _ h => h).at_ hj (by decide)
      have Hhit := Lib.hid (fun h => ixB_hit hy h Hcl.out)
      have Hmiss := Lib.hid (fun h => ixB_next hy h Hcl.out)
      have hmem := List.mem_of_getElem? hy
      obtain ⟨x0, x1a, x1n, x1c, rfl⟩ := hsh _ _ hxy
      have g0 := hcell 0 (by omega); have g1 := hcell 1 (by omega)
      simp only [List.getElem?_cons_zero, List.getElem?_cons_succ, Nat.add_zero] at g0 g1
      clear hcell hy
      have hcall := HF.out.2 _ hmem _ _ HBr.out hxy
      have henter := HF.out.1
      clear hxy hxl hmem
      generalize p y = q at hcall Hhit Hmiss
      have Hcall := Lib.hid hcall; clear hcall
      cases q
      · have Hm := Lib.hid (Hmiss.out rfl)
        go_wp2_with fail
        refine Hcall.out.mono ?_
        rintro e w' ⟨rfl, hb'⟩
        have HB3 := Lib.hid (HBr.out.trans (hb'.mono HBr.out.size)); clear hb'
        go_wp2_with fail
        go_roundg (gk - 1)
        case measure => have := Hj.out; omega
        case rel => exact ⟨j + 1, Lib.hid (by have := Hj.out; omega), by go_num, Hm, HB3.out⟩
      · have Hh := Lib.hid (Hhit.out rfl)
        go_wp2_with fail
        refine Hcall.out.mono ?_
        rintro e w' ⟨rfl, hb'⟩
        have HB3 := Lib.hid (HBr.out.trans (hb'.mono HBr.out.size)); clear hb'
        go_wp2_with fail
        go_ret
        exact ⟨ret_int Hh.out.symm, HB3.out⟩
    · go_wp2_with fail
      go_ret
      refine ⟨ret_int ?_, HBr.out⟩
      have h1 := Hcl.out
      rw [List.take_of_length_le (by have := Hlen.out; omega)] at h1
      exact (ixB_none h1).symm
set_option maxHeartbeats 400000 in
theorem containsF_M {α : Type} (R : List Value → α → Prop) (p : α → Bool) (A : Option Addr) (n c : Nat) (xs : List α) (F : FuncId) (caps : Array Value) (w : World) (S : Nat → Prop) (hK : RSeq 2 R w S A n xs) (hS : ∀ k, S k → k < w.heap.size) (hn : n ≤ maxLen) (hF : AsksB Tryz.prog w F caps R xs p) (hsh : ∀ x y, R x y → ShapeC_M x) :
    Calls Tryz.prog 24 #[.slice A n c, .func (.func F) #[] caps] w fun e w' => e = .returned (.bool (xs.any p)) ∧ Below w.heap.size w w' := by
  have Hcall := Lib.hid (indexF_M R p A n c xs F caps w S hK hS hn hF hsh)
  have Hi := Lib.hid (ixB_any p xs)
  clear hK hS hF
  generalize ixB p xs = i at Hcall Hi
  go_enter Tryz.func24, Tryz.ntmps24
  go_wp2_with fail
  refine Hcall.out.mono ?_
  rintro e w' ⟨rfl, hb⟩
  have HB := Lib.hid hb; clear hb
  go_wp2_with fail
  go_ret
  exact ⟨ret_bool Hi.out, HB.out⟩
end Go.Proofs.YtokibfankmjphaaGreatDoor

/- slices.IndexFunc, slices.ContainsFunc of slices whose elements have 10 cells. (Printed by wip/bin/mkcf.py.) -/
namespace Go.Proofs.YtokibfankmjphaaGreatDoor
open Go.RowKit Qm

def ShapeC_N (x : List Value) : Prop := ∃ (x0 : Int) (x1 : ByteArray) (x2 : Int) (x3 : Int) (x4 : Int) (x5 : ByteArray) (x6 : Bool) (x7 : ByteArray) (x8 : Bool) (x9a : Option Addr) (x9n x9c : Nat), x = [.int .i64 x0, .string x1, .int .i64 x2, .int .i64 x3, .int .i64 x4, .string x5, .bool x6, .string x7, .bool x8, .slice x9a x9n x9c]
set_option maxRecDepth 100000 in
set_option maxHeartbeats 3200000 in
theorem indexF_N {α : Type} (R : List Value → α → Prop) (p : α → Bool) (A : Option Addr) (n c : Nat) (xs : List α) (F : FuncId) (caps : Array Value) (w : World) (S : Nat → Prop) (hK : RSeq 10 R w S A n xs) (hS : ∀ k, S k → k < w.heap.size) (hn : n ≤ maxLen) (hF : AsksB Tryz.prog w F caps R xs p) (hsh : ∀ x y, R x y → ShapeC_N x) :
    Calls Tryz.prog 58 #[.slice A n c, .func (.func F) #[] caps] w fun e w' => e = .returned (.int .i64 (ixB p xs)) ∧ Below w.heap.size w w' := by
  unfold maxLen at hn
  have HK := Lib.hid hK; have HS := Lib.hid hS; have HF := Lib.hid hF; clear hK hS hF
  have Hlen := Lib.hid HK.out.len
  go_enter Tryz.func58, Tryz.ntmps58
  go_wp2
  go_loopg [8] n (fun g iv wr => ∃ (j : Nat), Hid (j + g = n) ∧ iv = .int .i64 j ∧ Hid ((xs.take j).any p = false) ∧ Below w.heap.size w wr)
  case atStart => exact ⟨0, Lib.hid (Nat.zero_add _), rfl, Lib.hid rfl, Below.refl _ _⟩
  case round =>
    obtain ⟨j, Hj, rfl, Hcl, hb⟩ := hrel
    have HBr := Lib.hid hb; clear hb
    by_cases hj : j < n
    · obtain ⟨b, o, x, y, rfl, hb, hy, hxy, hxl, hcell⟩ := (HK.out.keep (w' := wr) (fun p hp => HBr.out.cell (HS.out _ hp)) fun _ _ h => h).at_ hj (by decide)
      have Hhit := Lib.hid (fun h => ixB_hit hy h Hcl.out)
      have Hmiss := Lib.hid (fun h => ixB_next hy h Hcl.out)
      have hmem := List.mem_of_getElem? hy
      obtain ⟨x0, x1, x2, x3, x4, x5, x6, x7, x8, x9a, x9n, x9c, rfl⟩ := hsh _ _ hxy
      have g0 := hcell 0 (by omega); have g1 := hcell 1 (by omega); have g2 := hcell 2 (by omega); have g3 := hcell 3 (by omega); have g4 := hcell 4 (by omega); have g5 := hcell 5 (by omega); have g6 := hcell 6 (by omega); have g7 := hcell 7 (by omega); have g8 := hcell 8 (by omega); have g9 := hcell 9 (by omega)
      simp only [List.getElem?_cons_zero, List.getElem?_cons_succ, Nat.add_zero] at g0 g1 g2 g3 g4 g5 g6 g7 g8 g9
      clear hcell hy
      have hcall := HF.out.2 _ hmem _ _ HBr.out hxy
      have henter := HF.out.1
      clear hxy hxl hmem
      generalize p y = q at hcall Hhit Hmiss
      have Hcall := Lib.hid hcall; clear hcall
      cases q
      · have Hm := Lib.hid (Hmiss.out rfl)
        go_wp2_with fail
        refine Hcall.out.mono ?_
        rintro e w' ⟨rfl, hb'⟩
        have HB3 := Lib.hid (HBr.out.trans (hb'.mono HBr.out.size)); clear hb'
        go_wp2_with fail
        go_roundg (gk - 1)
        case measure => have := Hj.out; omega
        case rel => exact ⟨j + 1, Lib.hid (by have := Hj.out; omega), by go_num, Hm, HB3.out⟩
      · have Hh := Lib.hid (Hhit.out rfl)
        go_wp2_with fail
        refine Hcall.out.mono ?_
        rintro e w' ⟨rfl, hb'⟩
        have HB3 := Lib.hid (HBr.out.trans (hb'.mono HBr.out.size)); clear hb'
        go_wp2_with fail
        go_ret
        exact ⟨ret_int Hh.out.symm, HB3.out⟩
    · go_wp2_with fail
      go_ret
      refine ⟨ret_int ?_, HBr.out⟩
      have h1 := Hcl.out
      rw [List.take_of_length_le (by have := Hlen.out; omega)] at h1
      exact (ixB_none h1).symm
set_option maxHeartbeats 400000 in
theorem containsF_N {α : Type} (R : List Value → α → Prop) (p : α → Bool) (A : Option Addr) (n c : Nat) (xs : List α) (F : FuncId) (caps : Array Value) (w : World) (S : Nat → Prop) (hK : RSeq 10 R w S A n xs) (hS : ∀ k, S k → k < w.heap.size) (hn : n ≤ maxLen) (hF : AsksB Tryz.prog w F caps R xs p) (hsh : ∀ x y, R x y → ShapeC_N x) :
    Calls Tryz.prog 37 #[.slice A n c, .func (.func F) #[] caps] w fun e w' => e = .returned (.bool (xs.any p)) ∧ Below w.heap.size w w' := by
  have Hcall := Lib.hid (indexF_N R p A n c xs F caps w S hK hS hn hF hsh)
  have Hi := Lib.hid (ixB_any p xs)
  clear hK hS hF
  generalize ixB p xs = i at Hcall Hi
  go_enter Tryz.func37, Tryz.ntmps37
  go_wp2_with fail
  refine Hcall.out.mono ?_
  rintro e w' ⟨rfl, hb⟩
  have HB := Lib.hid hb; clear hb
  go_wp2_with fail
  go_ret
  exact ⟨ret_bool Hi.out, HB.out⟩
end Go.Proofs.YtokibfankmjphaaGreatDoor
