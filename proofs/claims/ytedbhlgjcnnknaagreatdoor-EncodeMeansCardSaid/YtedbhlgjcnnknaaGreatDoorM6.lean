/- Parts of the proof: walks and plain laws, side by side. -/
import Derived.Test.YtedbhlgjcnnknaaGreatDoorM5
set_option linter.unusedVariables false
set_option linter.unusedSimpArgs false
set_option linter.unusedSectionVars false
/- The whole formula: it holds, with its gates, just where the set that is meant may be. No program in sight. -/
namespace Go.Proofs.YtedbhlgjcnnknaaGreatDoor
open Go.RowKit Qm

def sameB (ps : List Pk) (i k : Nat) : Bool := decide ((pkOf ps i).nm = (pkOf ps k).nm) && decide ((pkOf ps i).slot = (pkOf ps k).slot)
def confTo (X : Chs) (ps : List Pk) (i : Nat) (d : Dk) : Nat → Dk
 | 0 => d
 | k + 1 => if sameB ps i k = true then addD (confTo X ps i d k) [-X.pick i, -X.pick k] else confTo X ps i d k
def pkD (X : Chs) (ps : List Pk) (i : Nat) (d : Dk) : Dk :=
 addD (needD X ps i (pkOf ps i).nd (confTo X ps i d i)).1 [-X.pick i, (needD X ps i (pkOf ps i).nd (confTo X ps i d i)).2]
def pksD (X : Chs) (ps : List Pk) (d : Dk) : Nat → Dk
 | 0 => d
 | i + 1 => pkD X ps i (pksD X ps d i)
def masksD (X : Chs) : List Int → Dk → Dk
 | [], d => d
 | k :: r, d => masksD X r (addD d [-X.pick k.toNat])
def tgtsD (X : Chs) (ps : List Pk) : List At → Dk → Dk
 | [], d => d
 | a :: r, d => tgtsD X ps r (addD (meansD X ps a (-1) d).1 (meansD X ps a (-1) d).2)
def encD (X : Chs) (ps : List Pk) (ts : List At) (ms : List Int) (M : Nat) : Dk := tgtsD X ps ts (pksD X ps (masksD X ms ⟨M, [], fun _ _ => 0⟩) ps.length)

/-! what it says -/
def maskM (X : Chs) (m : List Bool) (ms : List Int) : Bool := ms.all fun k => !litHolds m (X.pick k.toNat)
def confM (X : Chs) (ps : List Pk) (m : List Bool) (i j : Nat) : Bool := (List.range j).all fun k => !sameB ps i k || (!litHolds m (X.pick i) || !litHolds m (X.pick k))
def pkM (X : Chs) (ps : List Pk) (m : List Bool) (i : Nat) : Bool := confM X ps m i i && (!litHolds m (X.pick i) || holdsM X ps m i (pkOf ps i).nd)
def tgtM (X : Chs) (ps : List Pk) (m : List Bool) (ts : List At) : Bool := ts.all fun a => (List.range ps.length).any (asksB X ps a (-1) m)
def validM (X : Chs) (ps : List Pk) (ts : List At) (ms : List Int) (m : List Bool) : Bool := maskM X m ms && (List.range ps.length).all (pkM X ps m) && tgtM X ps m ts

structure Enc (M : Nat) (d : Dk) (gs hs : List (List Int)) (Q : List Bool → Bool) : Prop where
 k : DkOk M d gs hs
 q : ∀ m, holdsF m gs = true → holdsF m hs = Q m
section
variable {ps : List Pk} {K : List (Int × Int)} {M : Nat} {X : Chs} {d : Dk} {gs hs : List (List Int)} {Q : List Bool → Bool}
theorem Enc.congr (h : Enc M d gs hs Q) {Q' : List Bool → Bool} (e : ∀ m, Q m = Q' m) : Enc M d gs hs Q' := ⟨h.k, fun m hm => (h.q m hm).trans (e m)⟩
theorem Enc.add (h : Enc M d gs hs Q) {c : List Int} (hc : IsCl d.vars c) (h60 : c.length ≤ 60) {P : List Bool → Bool} (hP : ∀ m, holdsF m gs = true → c.any (litHolds m) = P m) :
  Enc M (addD d c) gs (hs ++ [c]) (fun m => Q m && P m) ∧ Step K d gs (addD d c) gs 0 1 := by
 refine ⟨⟨⟨.hard h.k.b hc, h.k.p⟩, fun m hm => ?_⟩, ⟨Nat.le_refl _, fun _ h => h, Nat.le_refl _, ?_, fun g e he => ?_⟩⟩
 ·have : holdsF m (hs ++ [c]) = (holdsF m hs && c.any (litHolds m)) := by unfold holdsF; rw [List.all_append]; simp
  rw [this, h.q m hm, hP m hm]
 ·show (d.cls ++ [c]).length + 3 * npD K d ≤ d.cls.length + 3 * npD K d + 1
  rw [List.length_append]; simp; omega
 ·rcases List.mem_append.1 he with he | he
  ·exact g e he
  ·rw [List.mem_singleton.1 he]; exact h60
theorem masksD_ok (hX : ChsOk ps M X K) : ∀ (ms : List Int) (d : Dk) (gs hs : List (List Int)) (Q : List Bool → Bool), (∀ k ∈ ms, 0 ≤ k ∧ k < ps.length) → Enc M d gs hs Q →
  ∃ hs', Enc M (masksD X ms d) gs hs' (fun m => Q m && maskM X m ms) ∧ Step K d gs (masksD X ms d) gs 0 ms.length
 | [], d, gs, hs, Q, _, h => ⟨hs, h.congr fun m => by simp [maskM], Step.refl⟩
 | k :: r, d, gs, hs, Q, hk, h => by
  obtain ⟨h0, h1⟩ := hk k (List.mem_cons_self ..)
  have hp := hX.pick k.toNat (by omega)
  obtain ⟨e1, e2⟩ := h.add (K := K) (c := [-X.pick k.toNat]) (fun n hn => by rw [List.mem_singleton.1 hn]; exact hp.neg.up h.k.b.le) (by simp) (P := fun m => !litHolds m (X.pick k.toNat)) (fun m _ => by simp [litHolds_neg m hp.1])
  obtain ⟨hs', f1, f2⟩ := masksD_ok hX r _ _ _ _ (fun j hj => hk j (List.mem_cons_of_mem _ hj)) e1
  refine ⟨hs', f1.congr fun m => ?_, (e2.trans f2).mono (Nat.le_refl _) (by simp only [List.length_cons]; omega)⟩
  unfold maskM; rw [List.all_cons, Bool.and_assoc]
theorem confTo_ok (hX : ChsOk ps M X K) {i : Nat} (hi : i < ps.length) (h : Enc M d gs hs Q) : ∀ j, j ≤ i →
  ∃ hs', Enc M (confTo X ps i d j) gs hs' (fun m => Q m && confM X ps m i j) ∧ Step K d gs (confTo X ps i d j) gs 0 j
 | 0, _ => ⟨hs, h.congr fun m => by simp [confM], Step.refl⟩
 | j + 1, hj => by
  obtain ⟨hs1, e1, e2⟩ := confTo_ok hX hi h j (by omega)
  have hr : ∀ m, confM X ps m i (j + 1) = (confM X ps m i j && (!sameB ps i j || (!litHolds m (X.pick i) || !litHolds m (X.pick j)))) := fun m => by
   unfold confM; rw [List.range_succ, List.all_append]; simp
  rw [confTo]
  by_cases hs0 : sameB ps i j = true
  ·rw [if_pos hs0]
   have p1 := hX.pick i hi; have p2 := hX.pick j (by omega)
   obtain ⟨f1, f2⟩ := e1.add (K := K) (c := [-X.pick i, -X.pick j]) (fun n hn => by
    simp only [List.mem_cons, List.not_mem_nil, or_false] at hn
    rcases hn with rfl | rfl
    ·exact p1.neg.up e1.k.b.le
    ·exact p2.neg.up e1.k.b.le) (by simp) (P := fun m => !litHolds m (X.pick i) || !litHolds m (X.pick j)) (fun m _ => by simp [litHolds_neg m p1.1, litHolds_neg m p2.1])
   exact ⟨_, f1.congr fun m => by rw [hr, hs0, Bool.not_true, Bool.false_or, Bool.and_assoc], (e2.trans f2).mono (Nat.le_refl _) (Nat.le_refl _)⟩
  ·rw [if_neg hs0]
   have hs1' : sameB ps i j = false := by simpa using hs0
   exact ⟨_, e1.congr fun m => by rw [hr, hs1', Bool.not_false, Bool.true_or, Bool.and_true], e2.mono (Nat.le_refl _) (by omega)⟩
def NdsOk (ps : List Pk) : Prop := ∀ i, i < ps.length → (pkOf ps i).nd.nodes ≤ 20 ∧ ∀ f ∈ flagsN (pkOf ps i).nd, f ∈ (pkOf ps i).fs
theorem pksD_ok (hX : ChsOk ps M X K) (h8 : ps.length ≤ 8) (hN : NdsOk ps) (h : Enc M d gs hs Q) : ∀ j, j ≤ ps.length →
  ∃ gs' hs', Enc M (pksD X ps d j) gs' hs' (fun m => Q m && (List.range j).all (pkM X ps m)) ∧ Step K d gs (pksD X ps d j) gs' (40 * j) (308 * j)
 | 0, _ => ⟨gs, hs, h.congr fun m => by simp, Step.refl⟩
 | j + 1, hj => by
  obtain ⟨g1, s1, e1, e2⟩ := pksD_ok hX h8 hN h j (by omega)
  obtain ⟨s2, f1, f2⟩ := confTo_ok hX (i := j) (by omega) e1 j (Nat.le_refl _)
  obtain ⟨hn1, hn2⟩ := hN j (by omega)
  obtain ⟨g3, n1, n2, n3⟩ := needD_ok hX (i := j) (by omega) h8 _ hn1 hn2 _ _ f1.k
  have p1 := hX.pick j (by omega)
  have hE : Enc M (needD X ps j (pkOf ps j).nd (confTo X ps j (pksD X ps d j) j)).1 g3 s2 (fun m => (Q m && (List.range j).all (pkM X ps m)) && confM X ps m j j) := ⟨n1, fun m hm => f1.q m (n2.hold hm)⟩
  obtain ⟨k1, k2⟩ := hE.add (K := K) (c := [-X.pick j, (needD X ps j (pkOf ps j).nd (confTo X ps j (pksD X ps d j) j)).2]) (fun n hn => by
   simp only [List.mem_cons, List.not_mem_nil, or_false] at hn
   rcases hn with rfl | rfl
   ·exact p1.neg.up n1.b.le
   ·exact n3.1) (by simp) (P := fun m => !litHolds m (X.pick j) || holdsM X ps m j (pkOf ps j).nd) (fun m hm => by
    simp only [List.any_cons, List.any_nil, Bool.or_false]
    rw [litHolds_neg m p1.1, n3.2 m hm])
  refine ⟨g3, _, k1.congr fun m => ?_, (((e2.trans f2).trans n2).trans k2).mono (by omega) (by omega)⟩
  rw [List.range_succ, List.all_append]
  simp only [List.all_cons, List.all_nil, Bool.and_true]
  unfold pkM
  rw [Bool.and_assoc, Bool.and_assoc]
theorem tgtsD_ok (hX : ChsOk ps M X K) (h8 : ps.length ≤ 8) : ∀ (ts : List At) (d : Dk) (gs hs : List (List Int)) (Q : List Bool → Bool), Enc M d gs hs Q →
  ∃ gs' hs', Enc M (tgtsD X ps ts d) gs' hs' (fun m => Q m && tgtM X ps m ts) ∧ Step K d gs (tgtsD X ps ts d) gs' 0 ts.length
 | [], d, gs, hs, Q, h => ⟨gs, hs, h.congr fun m => by simp [tgtM], Step.refl⟩
 | a :: r, d, gs, hs, Q, h => by
  obtain ⟨g1, a1, a2, a3, a4, a5⟩ := meansTo_ok (K := K) hX h.k a (-1) ps.length (Nat.le_refl _)
  have hE : Enc M (meansD X ps a (-1) d).1 g1 hs Q := ⟨a1, fun m hm => h.q m (a2.hold hm)⟩
  obtain ⟨e1, e2⟩ := hE.add (K := K) (c := (meansD X ps a (-1) d).2) a3 (by show (meansTo X ps a (-1) d ps.length).2.length ≤ 60; omega) (P := fun m => (List.range ps.length).any (asksB X ps a (-1) m)) a5
  obtain ⟨g2, s2, f1, f2⟩ := tgtsD_ok hX h8 r _ _ _ _ e1
  refine ⟨g2, s2, f1.congr fun m => ?_, ((a2.trans e2).trans f2).mono (by omega) (by simp only [List.length_cons]; omega)⟩
  unfold tgtM; rw [List.all_cons, Bool.and_assoc]
theorem encD_ok (hX : ChsOk ps M X K) (h8 : ps.length ≤ 8) (hN : NdsOk ps) {ts : List At} {ms : List Int} (hm : ∀ k ∈ ms, 0 ≤ k ∧ k < ps.length) :
  ∃ gs hs, Built M (encD X ps ts ms M).vars (encD X ps ts ms M).cls gs hs ∧ (∀ m, holdsF m gs = true → holdsF m hs = validM X ps ts ms m) ∧
   (encD X ps ts ms M).vars ≤ M + K.length + 40 * ps.length ∧ (encD X ps ts ms M).cls.length ≤ 3 * K.length + ms.length + 308 * ps.length + ts.length ∧ ∀ c ∈ (encD X ps ts ms M).cls, c.length ≤ 60 := by
 have h0 : Enc M ⟨M, [], fun _ _ => 0⟩ [] [] (fun _ => true) := ⟨⟨.nil, fun n f h => absurd rfl h⟩, fun _ _ => rfl⟩
 obtain ⟨s1, a1, a2⟩ := masksD_ok hX ms _ _ _ _ hm h0
 obtain ⟨g2, s2, b1, b2⟩ := pksD_ok hX h8 hN a1 ps.length (Nat.le_refl _)
 obtain ⟨g3, s3, c1, c2⟩ := tgtsD_ok hX h8 ts _ _ _ _ b1
 have hst := (a2.trans b2).trans c2
 have hle : ∀ d : Dk, npD K d ≤ K.length := fun d => List.length_filter_le _ _
 refine ⟨g3, s3, c1.k.b, fun m hm => ?_, ?_, ?_, hst.len (fun c hc => by cases hc)⟩
 ·rw [c1.q m hm]; unfold validM; rw [Bool.true_and]
 ·have h1 := hst.nv; have h2 := hle (encD X ps ts ms M)
  show (tgtsD X ps ts (pksD X ps (masksD X ms ⟨M, [], fun _ _ => 0⟩) ps.length)).vars ≤ _
  have h2' : npD K (tgtsD X ps ts (pksD X ps (masksD X ms ⟨M, [], fun _ _ => 0⟩) ps.length)) ≤ K.length := h2
  dsimp only at h1
  omega
 ·have h1 := hst.nc
  have h2' : npD K (tgtsD X ps ts (pksD X ps (masksD X ms ⟨M, [], fun _ _ => 0⟩) ps.length)) ≤ K.length := hle _
  show (tgtsD X ps ts (pksD X ps (masksD X ms ⟨M, [], fun _ _ => 0⟩) ps.length)).cls.length ≤ _
  simp only [List.length_nil] at h1
  omega
end
end Go.Proofs.YtedbhlgjcnnknaaGreatDoor

/- The formula holds just where the set that is meant may be. No program in sight. -/
namespace Go.Proofs.YtedbhlgjcnnknaaGreatDoor
open Go.RowKit Qm

def memM (X : Chs) (ps : List Pk) (m : List Bool) (i : Nat) : Mem := ⟨(i : Int), (List.range (pkOf ps i).fs.length).map fun k => litHolds m (X.on i k)⟩
def takenM (X : Chs) (ps : List Pk) (m : List Bool) : List Nat := (List.range ps.length).filter fun i => litHolds m (X.pick i)
def setOfM (X : Chs) (ps : List Pk) (m : List Bool) : List Mem := (takenM X ps m).map (memM X ps m)
section
variable {X : Chs} {ps : List Pk} {m : List Bool}
theorem mem_taken {i : Nat} : i ∈ takenM X ps m ↔ i < ps.length ∧ litHolds m (X.pick i) = true := by unfold takenM; rw [List.mem_filter, List.mem_range]
theorem taken_sorted : (takenM X ps m).Pairwise (· < ·) := by unfold takenM; exact List.Pairwise.filter _ List.pairwise_lt_range
theorem memM_on {i k : Nat} (hk : k < (pkOf ps i).fs.length) : onOf (memM X ps m i).on k = litHolds m (X.on i k) := by
 unfold onOf memM
 rw [List.getD_eq_getElem?_getD, List.getElem?_map, List.getElem?_range hk]; rfl
theorem asksB_isA {a : At} {but : Int} {i : Nat} : asksB X ps a but m i = (litHolds m (X.pick i) && (decide ((i : Int) ≠ but) && isA ps (memM X ps m i) a)) := by
 unfold asksB isA
 show _ = (litHolds m (X.pick i) && (decide ((i : Int) ≠ but) && (decide ((pkOf ps i).nm = a.nm) && (fitsP a (pkOf ps i).ver (pkOf ps i).slot && (decide (a.fl = []) || flagIs (pkOf ps i) (memM X ps m i) a)))))
 by_cases c : (i : Int) = but ∨ (pkOf ps i).nm ≠ a.nm ∨ fitsP a (pkOf ps i).ver (pkOf ps i).slot = false
 ·rw [if_pos c]
  rcases c with c | c | c
  ·rw [decide_eq_false (fun h => h c)]; simp
  ·rw [decide_eq_false c]; simp
  ·rw [c]; simp
 ·rw [if_neg c]
  have c1 : (i : Int) ≠ but := fun e => c (.inl e)
  have c2 : (pkOf ps i).nm = a.nm := Classical.byContradiction fun e => c (.inr (.inl e))
  have c3 : fitsP a (pkOf ps i).ver (pkOf ps i).slot = true := by
   cases h : fitsP a (pkOf ps i).ver (pkOf ps i).slot
   ·exact absurd (.inr (.inr h)) c
   ·rfl
  rw [decide_eq_true c1, decide_eq_true c2, c3, Bool.true_and, Bool.true_and, Bool.true_and]
  by_cases c4 : a.fl = []
  ·rw [if_pos c4, decide_eq_true c4]; simp
  ·rw [if_neg c4, decide_eq_false c4, Bool.false_or]
   unfold flagIs
   cases hix : ixOf a.fl (pkOf ps i).fs with
   | none => simp
   | some k =>
    dsimp only
    rw [memM_on (ixOf_lt hix)]
theorem any_taken {q : Mem → Bool} : (setOfM X ps m).any q = (List.range ps.length).any fun i => litHolds m (X.pick i) && q (memM X ps m i) := by
 rw [Bool.eq_iff_iff, List.any_eq_true, List.any_eq_true]
 unfold setOfM
 constructor
 ·rintro ⟨x, hx, h⟩
  obtain ⟨i, hi, rfl⟩ := List.mem_map.1 hx
  obtain ⟨h1, h2⟩ := mem_taken.1 hi
  exact ⟨i, List.mem_range.2 h1, by rw [h2, h]; rfl⟩
 ·rintro ⟨i, hi, h⟩
  rw [Bool.and_eq_true] at h
  exact ⟨_, List.mem_map.2 ⟨i, mem_taken.2 ⟨List.mem_range.1 hi, h.1⟩, rfl⟩, h.2⟩
theorem asks_any {a : At} : (List.range ps.length).any (asksB X ps a (-1) m) = (setOfM X ps m).any fun x => isA ps x a := by
 rw [any_taken]
 congr 1; funext i
 rw [asksB_isA, decide_eq_true (show (i : Int) ≠ -1 by omega), Bool.true_and]
theorem blockB_iff {q : Mem → Bool} {k : Nat} : ∀ {l : List Mem} {i : Nat}, blockB q k i l = true ↔ ∀ j x, l[j]? = some x → i + j ≠ k → q x = false
 | [], i => by simp [blockB]
 | y :: r, i => by
  show (if i ≠ k ∧ q y = true then false else blockB q k (i + 1) r) = true ↔ _
  by_cases h : i ≠ k ∧ q y = true
  ·rw [if_pos h]
   refine ⟨fun e => (by cases e), fun g => ?_⟩
   have := g 0 y rfl (by simpa using h.1)
   rw [h.2] at this; cases this
  ·rw [if_neg h, blockB_iff (l := r) (i := i + 1)]
   constructor
   ·intro g j x hj hne
    cases j with
    | zero =>
     simp only [List.getElem?_cons_zero, Option.some.injEq] at hj
     subst hj
     cases hq : q y
     ·rfl
     ·exact absurd ⟨by simpa using hne, hq⟩ h
    | succ j => exact g j x (by simpa using hj) (by omega)
   ·intro g j x hj hne
    exact g (j + 1) x (by simpa using hj) (by omega)
theorem taken_at {i k : Nat} (h : (takenM X ps m)[k]? = some i) : (setOfM X ps m)[k]? = some (memM X ps m i) ∧ i < ps.length ∧ litHolds m (X.pick i) = true := by
 refine ⟨by unfold setOfM; rw [List.getElem?_map, h]; rfl, ?_⟩
 exact mem_taken.1 (List.mem_of_getElem? h)
theorem taken_inj {i j k : Nat} (h : (takenM X ps m)[k]? = some i) (h2 : (takenM X ps m)[j]? = some i) : j = k := by
 obtain ⟨hk, e1⟩ := List.getElem?_eq_some_iff.1 h
 obtain ⟨hj, e2⟩ := List.getElem?_eq_some_iff.1 h2
 have hp := List.pairwise_iff_getElem.1 (taken_sorted (X := X) (ps := ps) (m := m))
 rcases Nat.lt_trichotomy j k with h | h | h
 ·have := hp j k hj hk h; omega
 ·exact h
 ·have := hp k j hk hj h; omega
theorem block_taken {a : At} {i k : Nat} (h : (takenM X ps m)[k]? = some i) : (!(List.range ps.length).any (asksB X ps a (i : Int) m)) = blockB (fun x => isA ps x a) k 0 (setOfM X ps m) := by
 rw [Bool.eq_iff_iff, blockB_iff, Bool.not_eq_true', List.any_eq_false]
 constructor
 ·intro g j x hj hne
  unfold setOfM at hj
  rw [List.getElem?_map] at hj
  cases ht : (takenM X ps m)[j]? with
  | none => rw [ht] at hj; cases hj
  | some i2 =>
   rw [ht] at hj
   simp only [Option.map_some, Option.some.injEq] at hj
   subst hj
   obtain ⟨_, t1, t2⟩ := taken_at ht
   have := g i2 (List.mem_range.2 t1)
   rw [asksB_isA, t2, decide_eq_true (show (i2 : Int) ≠ (i : Int) by
    intro e
    have e : i2 = i := by omega
    subst e
    have := taken_inj h ht
    omega)] at this
   simpa using this
 ·intro g i2 hi2
  rw [asksB_isA]
  intro hc
  simp only [Bool.and_eq_true, decide_eq_true_eq] at hc
  have hm : i2 ∈ takenM X ps m := mem_taken.2 ⟨List.mem_range.1 hi2, hc.1⟩
  obtain ⟨j, hj, e⟩ := List.mem_iff_getElem.1 hm
  have ht : (takenM X ps m)[j]? = some i2 := by rw [List.getElem?_eq_getElem hj, e]
  have := g j _ (taken_at ht).1 (by
   intro e2
   have e2 : j = k := by omega
   subst e2
   rw [h] at ht
   injection ht with ht
   exact hc.2.1 (by omega))
  rw [hc.2.2] at this; cases this
theorem ifLit_off {i : Nat} {f : Qm.W} {no : Bool} (hf : f ∈ (pkOf ps i).fs) (hl : ∀ k, k < (pkOf ps i).fs.length → X.on i k ≠ 0) : (!litHolds m (ifLit X ps i f no)) = ifOff ps (memM X ps m i) f no := by
 unfold ifLit ifOff
 show _ = match ixOf f (pkOf ps i).fs with | some j => onOf (memM X ps m i).on j == no | none => false
 cases h : ixOf f (pkOf ps i).fs with
 | none => exact absurd hf (ixOf_none.1 h)
 | some j =>
  dsimp only
  rw [memM_on (ixOf_lt h)]
  cases no
  ·rw [if_neg (by simp)]; cases litHolds m (X.on i j) <;> rfl
  ·rw [if_pos rfl, litHolds_neg m (hl j (ixOf_lt h))]; cases litHolds m (X.on i j) <;> rfl
theorem holdsM_eq {i k : Nat} (h : (takenM X ps m)[k]? = some i) (hl : ∀ k, k < (pkOf ps i).fs.length → X.on i k ≠ 0) : ∀ (y : Nd), (∀ f ∈ flagsN y, f ∈ (pkOf ps i).fs) → holdsM X ps m i y = holdsN ps (setOfM X ps m) k (memM X ps m i) y := by
 refine Nd.ind fun kd a f no ks ih => ?_
 intro hfl
 have ihk : ∀ l : List Nd, (∀ x ∈ l, x ∈ ks) → someM X ps m i l = someN ps (setOfM X ps m) k (memM X ps m i) l ∧ allM X ps m i l = allN ps (setOfM X ps m) k (memM X ps m i) l := by
  intro l
  induction l with
  | nil => intro _; exact ⟨rfl, rfl⟩
  | cons x r ihr =>
   intro hx
   have h1 := ih x (hx x (List.mem_cons_self ..)) (fun g hg => hfl g (by unfold flagsN; exact List.mem_append_right _ (flagsN_sub (hx x (List.mem_cons_self ..)) g hg)))
   obtain ⟨h2, h3⟩ := ihr fun y hy => hx y (List.mem_cons_of_mem _ hy)
   rw [someM, allM, someN, allN, h1, h2, h3]
   exact ⟨rfl, rfl⟩
 obtain ⟨k1, k2⟩ := ihk ks fun _ h => h
 unfold holdsM holdsN
 by_cases c1 : kd = 1
 ·rw [if_pos c1, if_pos c1, asks_any]
 rw [if_neg c1, if_neg c1]
 by_cases c2 : kd = 2
 ·rw [if_pos c2, if_pos c2, block_taken h]
 rw [if_neg c2, if_neg c2]
 by_cases c4 : kd = 4
 ·rw [if_pos c4, if_pos c4, k1]
 rw [if_neg c4, if_neg c4]
 by_cases c5 : kd = 5
 ·rw [if_pos c5, ifLit_off (hfl f (by unfold flagsN; rw [if_pos c5]; simp)) hl, k2]
  by_cases c6 : ifOff ps (memM X ps m i) f no = true
  ·rw [if_pos ⟨c5, c6⟩, c6]; rfl
  ·rw [if_neg (fun e => c6 e.2)]
   have : ifOff ps (memM X ps m i) f no = false := by simpa using c6
   rw [this]; rfl
 ·rw [if_neg c5, if_neg (fun e => c5 e.1), k2]
theorem loneB_iff {p : Pk} : ∀ {l : List Mem}, loneB ps p l = true ↔ ∀ o ∈ l, ¬ ((pkOf ps o.pl).nm = p.nm ∧ (pkOf ps o.pl).slot = p.slot)
 | [] => by simp [loneB]
 | o :: r => by
  show (if (pkOf ps o.pl).nm = p.nm ∧ (pkOf ps o.pl).slot = p.slot then false else loneB ps p r) = true ↔ _
  by_cases h : (pkOf ps o.pl).nm = p.nm ∧ (pkOf ps o.pl).slot = p.slot
  ·rw [if_pos h]; exact ⟨fun e => (by cases e), fun g => absurd h (g o (List.mem_cons_self ..))⟩
  ·rw [if_neg h, loneB_iff (l := r)]
   exact ⟨fun g x hx => (List.mem_cons.1 hx).elim (fun e => e ▸ h) (g x), fun g x hx => g x (List.mem_cons_of_mem _ hx)⟩
theorem allOk_iff {ms : List Int} {l : List Mem} : ∀ {n : Nat}, allOk ps ms l n = true ↔ ∀ i, i < n → oneOk ps ms l i = true
 | 0 => by simp [allOk]
 | n + 1 => by
  rw [allOk, Bool.and_eq_true, allOk_iff]
  constructor
  ·rintro ⟨h1, h2⟩ i hi
   by_cases e : i = n
   ·subst e; exact h2
   ·exact h1 i (by omega)
  ·intro h; exact ⟨fun i hi => h i (by omega), h n (by omega)⟩
theorem memAt_some {l : List Mem} {k : Nat} {x : Mem} (h : l[k]? = some x) : memAt l k = x := by
 unfold memAt; rw [List.getD_eq_getElem?_getD, h]; rfl
theorem validM_iff (hl : ∀ i, i < ps.length → ∀ k, k < (pkOf ps i).fs.length → X.on i k ≠ 0) (hN : NdsOk ps) {ts : List At} {ms : List Int} (hm : ∀ k ∈ ms, 0 ≤ k ∧ k < ps.length) : validM X ps ts ms m = validP ps ts ms (setOfM X ps m) := by
 have htg : tgtM X ps m ts = ts.all fun a => (setOfM X ps m).any fun x => isA ps x a := by
  unfold tgtM; congr 1; funext a; exact asks_any
 have hall : (maskM X m ms && (List.range ps.length).all (pkM X ps m)) = allOk ps ms (setOfM X ps m) (setOfM X ps m).length := by
  have hlen : (setOfM X ps m).length = (takenM X ps m).length := by unfold setOfM; rw [List.length_map]
  rw [Bool.eq_iff_iff, Bool.and_eq_true, allOk_iff]
  unfold maskM
  rw [List.all_eq_true, List.all_eq_true]
  constructor
  ·rintro ⟨h1, h2⟩ k hk
   have hkt : (takenM X ps m)[k]? = some ((takenM X ps m)[k]'(by omega)) := List.getElem?_eq_getElem _
   generalize (takenM X ps m)[k]'(by omega) = i at hkt
   obtain ⟨e1, e2, e3⟩ := taken_at hkt
   have hp := h2 i (List.mem_range.2 e2)
   unfold pkM at hp
   rw [Bool.and_eq_true, e3, Bool.not_true, Bool.false_or] at hp
   have hmem := memAt_some e1
   unfold oneOk holdsAt
   rw [hmem, Bool.and_eq_true, Bool.and_eq_true]
   refine ⟨?_, ?_, ?_⟩
   ·show (!ms.contains (i : Int)) = true
    cases hc : ms.contains (i : Int)
    ·rfl
    ·have := h1 _ (List.contains_iff_mem.1 hc)
     rw [Int.toNat_natCast, e3] at this; cases this
   ·have := holdsM_eq hkt (hl i e2) _ (hN i e2).2
    exact this.symm.trans hp.2
   ·rw [loneB_iff]
    rintro o ho ⟨g1, g2⟩
    obtain ⟨j, hj, hjo⟩ := List.mem_take_iff_getElem.1 ho
    have hjt : (takenM X ps m)[j]? = some ((takenM X ps m)[j]'(by omega)) := List.getElem?_eq_getElem _
    have hij : (takenM X ps m)[j]'(by omega) < i := by
     have := List.pairwise_iff_getElem.1 (taken_sorted (X := X) (ps := ps) (m := m)) j k (by omega) (by omega) (by omega)
     have e := (List.getElem?_eq_some_iff.1 hkt).2
     omega
    generalize (takenM X ps m)[j]'(by omega) = i2 at hjt hij
    obtain ⟨f1, f2, f3⟩ := taken_at hjt
    have ho2 : o = memM X ps m i2 := by
     have := (List.getElem?_eq_some_iff.1 f1).2
     rw [← hjo, ← this]
    subst ho2
    have hc := hp.1
    unfold confM at hc
    have := List.all_eq_true.1 hc i2 (List.mem_range.2 hij)
    rw [e3, f3] at this
    have hs : sameB ps i i2 = true := by
     unfold sameB
     rw [decide_eq_true (show (pkOf ps i).nm = (pkOf ps i2).nm from g1.symm), decide_eq_true (show (pkOf ps i).slot = (pkOf ps i2).slot from g2.symm)]; rfl
    rw [hs] at this; cases this
  ·intro h
   have hget : ∀ i, i < ps.length → litHolds m (X.pick i) = true → ∃ k, (takenM X ps m)[k]? = some i ∧ oneOk ps ms (setOfM X ps m) k = true := by
    intro i hi ht
    obtain ⟨k, hk, e⟩ := List.mem_iff_getElem.1 (mem_taken.2 ⟨hi, ht⟩ : i ∈ takenM X ps m)
    exact ⟨k, by rw [List.getElem?_eq_getElem hk, e], h k (by omega)⟩
   refine ⟨fun k hk => ?_, fun i hi => ?_⟩
   ·obtain ⟨h0, h1⟩ := hm k hk
    cases ht : litHolds m (X.pick k.toNat)
    ·rfl
    ·obtain ⟨j, hj, ho⟩ := hget k.toNat (by omega) ht
     unfold oneOk at ho
     rw [memAt_some (taken_at hj).1, Bool.and_eq_true] at ho
     have ho1 : (!ms.contains ((k.toNat : Nat) : Int)) = true := ho.1
     rw [Int.toNat_of_nonneg h0, List.contains_iff_mem.2 hk] at ho1; cases ho1
   ·have hi := List.mem_range.1 hi
    unfold pkM
    rw [Bool.and_eq_true]
    cases ht : litHolds m (X.pick i)
    ·refine ⟨?_, rfl⟩
     unfold confM
     rw [List.all_eq_true]
     intro k _
     rw [ht]; simp
    ·obtain ⟨j, hj, ho⟩ := hget i hi ht
     unfold oneOk holdsAt at ho
     rw [memAt_some (taken_at hj).1, Bool.and_eq_true, Bool.and_eq_true] at ho
     refine ⟨?_, ?_⟩
     ·unfold confM
      rw [List.all_eq_true]
      intro k hk
      have hki := List.mem_range.1 hk
      rw [ht]
      cases htk : litHolds m (X.pick k)
      ·simp
      ·obtain ⟨j2, hj2, _⟩ := hget k (by omega) htk
       have hlt : j2 < j := by
        obtain ⟨q1, q2⟩ := List.getElem?_eq_some_iff.1 hj
        obtain ⟨r1, r2⟩ := List.getElem?_eq_some_iff.1 hj2
        rcases Nat.lt_trichotomy j2 j with g | g | g
        ·exact g
        ·subst g; omega
        ·have := List.pairwise_iff_getElem.1 (taken_sorted (X := X) (ps := ps) (m := m)) j j2 q1 r1 g
         omega
       have hlone := loneB_iff.1 ho.2.2 (memM X ps m k) (by
        obtain ⟨r1, r2⟩ := List.getElem?_eq_some_iff.1 (taken_at hj2).1
        rw [List.mem_take_iff_getElem]
        exact ⟨j2, by omega, r2⟩)
       have hs : sameB ps i k = false := by
        cases hs : sameB ps i k
        ·rfl
        ·unfold sameB at hs
         simp only [Bool.and_eq_true, decide_eq_true_eq] at hs
         exact absurd ⟨hs.1.symm, hs.2.symm⟩ hlone
       rw [hs]; rfl
     ·rw [Bool.not_true, Bool.false_or, holdsM_eq hj (hl i hi) _ (hN i hi).2]
      exact ho.2.1
 unfold validM validP
 rw [htg, hall, Bool.and_comm]
end
end Go.Proofs.YtedbhlgjcnnknaaGreatDoor

/- Choices of a tree, by a wish: variable by variable; a set as choices and back. No program in sight. -/
namespace Go.Proofs.YtedbhlgjcnnknaaGreatDoor
open Go.RowKit Qm

/-! ### places, in the order of their variables -/
def insP (ins : List Mem) : List Nat := ins.map fun m => m.pl.toNat
def freeP (ins : List Mem) (n : Nat) : List Nat := (List.range n).filter fun i => !(insP ins).contains i
def ordP (ins : List Mem) (n : Nat) : List Nat := insP ins ++ freeP ins n
def ixP (l : List Nat) (i : Nat) : Nat := l.findIdx (fun j => j == i)
theorem ixP_lt {l : List Nat} {i : Nat} (h : i ∈ l) : ixP l i < l.length := by
  unfold ixP; rw [List.findIdx_lt_length]; exact ⟨i, h, by simp⟩
theorem ixP_at {l : List Nat} {i : Nat} (h : i ∈ l) : l[ixP l i]? = some i := by
  have hl := ixP_lt h
  rw [List.getElem?_eq_getElem hl]
  congr 1
  have := List.findIdx_getElem (p := fun j => j == i) (xs := l) (w := hl)
  exact eq_of_beq this
theorem ixP_of {l : List Nat} (hn : l.Nodup) {i j : Nat} (h : l[j]? = some i) : ixP l i = j := by
  have hm := List.mem_of_getElem? h
  have h2 := ixP_at hm
  obtain ⟨q1, q2⟩ := List.getElem?_eq_some_iff.1 h
  obtain ⟨r1, r2⟩ := List.getElem?_eq_some_iff.1 h2
  have := List.pairwise_iff_getElem.1 hn
  rcases Nat.lt_trichotomy (ixP l i) j with g | g | g
  · exact absurd (r2.trans q2.symm) (this _ _ r1 q1 g)
  · exact g
  · exact absurd (q2.trans r2.symm) (this _ _ q1 r1 g)
def flagsBef (ps : List Pk) : Nat → Nat
  | 0 => 0
  | i + 1 => flagsBef ps i + (pkOf ps i).fs.length
def manyC (ps : List Pk) : Nat := ps.length + flagsBef ps ps.length
theorem flagsBef_mono {ps : List Pk} {i : Nat} : ∀ {j : Nat}, i ≤ j → flagsBef ps i ≤ flagsBef ps j
  | 0, h => by obtain rfl : i = 0 := by omega
               exact Nat.le_refl _
  | j + 1, h => by
    by_cases e : i = j + 1
    · subst e; exact Nat.le_refl _
    · have := flagsBef_mono (ps := ps) (i := i) (j := j) (by omega)
      simp only [flagsBef]; omega
theorem flagsBef_lt {ps : List Pk} {i j k : Nat} (h : i < j) (hk : k < (pkOf ps i).fs.length) : flagsBef ps i + k < flagsBef ps j := by
  have := flagsBef_mono (ps := ps) (i := i + 1) (j := j) (by omega)
  simp only [flagsBef] at this; omega
theorem flag_owner {ps : List Pk} : ∀ {n v : Nat}, v < flagsBef ps n → ∃ i k, i < n ∧ k < (pkOf ps i).fs.length ∧ flagsBef ps i + k = v
  | 0, v, h => by simp [flagsBef] at h
  | n + 1, v, h => by
    simp only [flagsBef] at h
    by_cases g : v < flagsBef ps n
    · obtain ⟨i, k, h1, h2, h3⟩ := flag_owner g
      exact ⟨i, k, by omega, h2, h3⟩
    · exact ⟨n, v - flagsBef ps n, by omega, by omega, by omega⟩
theorem flag_owner_one {ps : List Pk} {i j k q : Nat} (hk : k < (pkOf ps i).fs.length) (hq : q < (pkOf ps j).fs.length) (h : flagsBef ps i + k = flagsBef ps j + q) : i = j ∧ k = q := by
  rcases Nat.lt_trichotomy i j with g | g | g
  · have := flagsBef_lt g hk; omega
  · subst g; exact ⟨rfl, by omega⟩
  · have := flagsBef_lt g hq; omega
def chW (ps : List Pk) (v : Ws) : Chs where
  pick i := if (insP v.ins).contains i = true then -((ixP (ordP v.ins ps.length) i : Int) + 1) else (ixP (ordP v.ins ps.length) i : Int) + 1
  on i k := if v.on.contains ((i : Int), (k : Int)) = true then -((ps.length + flagsBef ps i + k : Int) + 1) else (ps.length + flagsBef ps i + k : Int) + 1

/-! ### a right wish -/
structure WsOk (ps : List Pk) (v : Ws) : Prop where
  ins : ckMs ps none v.ins = 0
theorem insP_mem {ps : List Pk} {v : Ws} (h : WsOk ps v) : ∀ i ∈ insP v.ins, i < ps.length := by
  intro i hi
  obtain ⟨m, hm, rfl⟩ := List.mem_map.1 hi
  obtain ⟨h1, h2, _⟩ := ckMs_mem h.ins m hm
  omega
theorem insP_rise {ps : List Pk} {l : List Mem} (h : ckMs ps none l = 0) : (insP l).Pairwise (· < ·) := by
  have h2 := (ckMs_rises h).2
  unfold insP
  rw [List.pairwise_map] at h2 ⊢
  exact h2.imp_of_mem fun {a b} ha hb hab => by
    have := (ckMs_mem h a ha).1
    have := (ckMs_mem h b hb).1
    omega
theorem ordP_nodup {ps : List Pk} {v : Ws} (h : WsOk ps v) : (ordP v.ins ps.length).Nodup := by
  unfold ordP
  rw [List.nodup_append]
  refine ⟨(insP_rise h.ins).imp fun hab => Nat.ne_of_lt hab, ?_, ?_⟩
  · unfold freeP; exact (List.nodup_range).filter _
  · rintro a ha b hb rfl
    unfold freeP at hb
    have := (List.mem_filter.1 hb).2
    rw [List.contains_iff_mem.2 ha] at this; cases this
theorem mem_ordP {ps : List Pk} {v : Ws} (h : WsOk ps v) {i : Nat} : i ∈ ordP v.ins ps.length ↔ i < ps.length := by
  unfold ordP freeP
  rw [List.mem_append, List.mem_filter, List.mem_range]
  constructor
  · rintro (g | g)
    · exact insP_mem h i g
    · exact g.1
  · intro hi
    by_cases hc : i ∈ insP v.ins
    · exact .inl hc
    · refine .inr ⟨hi, ?_⟩
      cases hb : (insP v.ins).contains i
      · rfl
      · exact absurd (List.contains_iff_mem.1 hb) hc
theorem len_of_full : ∀ {n : Nat} {l : List Nat}, l.Nodup → (∀ i, i ∈ l ↔ i < n) → l.length = n := by
  intro n l hn hm
  have h1 : l.Perm (List.range n) := by
    rw [List.perm_ext_iff_of_nodup hn List.nodup_range]
    intro a; rw [hm a, List.mem_range]
  rw [h1.length_eq, List.length_range]
theorem ordP_len {ps : List Pk} {v : Ws} (h : WsOk ps v) : (ordP v.ins ps.length).length = ps.length := len_of_full (ordP_nodup h) fun _ => mem_ordP h
def keysW (ps : List Pk) (v : Ws) : List (Int × Int) :=
  (List.range ps.length).flatMap fun (i : Nat) => (List.range (pkOf ps i).fs.length).flatMap fun k => [((chW ps v).pick i, (chW ps v).on i k), ((chW ps v).pick i, -(chW ps v).on i k)]
theorem keysW_len {ps : List Pk} {v : Ws} : (keysW ps v).length = 2 * flagsBef ps ps.length := by
  unfold keysW
  have h2 : ∀ (x : Int) (f : Nat → Int) (n : Nat), ((List.range n).flatMap fun k => [(x, f k), (x, -f k)]).length = 2 * n := by
    intro x f n
    induction n with
    | zero => rfl
    | succ n ih => rw [List.range_succ, List.flatMap_append, List.length_append, ih]; simp; omega
  have : ∀ n, ((List.range n).flatMap fun (i : Nat) => (List.range (pkOf ps i).fs.length).flatMap fun k => [((chW ps v).pick i, (chW ps v).on i k), ((chW ps v).pick i, -(chW ps v).on i k)]).length = 2 * flagsBef ps n := by
    intro n
    induction n with
    | zero => rfl
    | succ n ih =>
      rw [List.range_succ, List.flatMap_append, List.length_append, ih]
      simp only [List.flatMap_cons, List.flatMap_nil, List.append_nil]
      rw [h2]; simp only [flagsBef]; omega
  exact this _
section
variable {ps : List Pk} {v : Ws}
theorem pick_abs (i : Nat) : ((chW ps v).pick i).natAbs = ixP (ordP v.ins ps.length) i + 1 := by
  unfold chW; dsimp only; split <;> omega
theorem on_abs (i k : Nat) : ((chW ps v).on i k).natAbs = ps.length + flagsBef ps i + k + 1 := by
  unfold chW; dsimp only; split <;> omega
theorem chW_ok (h : WsOk ps v) : ChsOk ps (manyC ps) (chW ps v) (keysW ps v) where
  pick i hi := by
    have h1 := pick_abs (ps := ps) (v := v) i
    have h2 := ixP_lt ((mem_ordP h).2 hi)
    rw [ordP_len h] at h2
    exact ⟨by intro e; rw [e] at h1; simp at h1, by unfold manyC; omega⟩
  on i hi k hk := by
    have h1 := on_abs (ps := ps) (v := v) i k
    have h2 := flagsBef_lt hi hk
    exact ⟨by intro e; rw [e] at h1; simp at h1, by unfold manyC; omega⟩
  keys i hi k hk := by
    unfold keysW
    constructor
    · exact List.mem_flatMap.2 ⟨i, List.mem_range.2 hi, List.mem_flatMap.2 ⟨k, List.mem_range.2 hk, by simp⟩⟩
    · exact List.mem_flatMap.2 ⟨i, List.mem_range.2 hi, List.mem_flatMap.2 ⟨k, List.mem_range.2 hk, by simp⟩⟩
theorem pick_pos (i : Nat) : decide (0 < (chW ps v).pick i) = !(insP v.ins).contains i := by
  by_cases hc : (insP v.ins).contains i = true
  · rw [hc]; refine decide_eq_false ?_
    show ¬ 0 < (if (insP v.ins).contains i = true then -((ixP (ordP v.ins ps.length) i : Int) + 1) else (ixP (ordP v.ins ps.length) i : Int) + 1)
    rw [if_pos hc]; omega
  · have hf : (insP v.ins).contains i = false := by simpa using hc
    rw [hf]; refine decide_eq_true ?_
    show 0 < (if (insP v.ins).contains i = true then -((ixP (ordP v.ins ps.length) i : Int) + 1) else (ixP (ordP v.ins ps.length) i : Int) + 1)
    rw [if_neg hc]; omega
theorem on_pos (i k : Nat) : decide (0 < (chW ps v).on i k) = !v.on.contains ((i : Int), (k : Int)) := by
  by_cases hc : v.on.contains ((i : Int), (k : Int)) = true
  · rw [hc]; refine decide_eq_false ?_
    show ¬ 0 < (if v.on.contains ((i : Int), (k : Int)) = true then -((ps.length + flagsBef ps i + k : Int) + 1) else (ps.length + flagsBef ps i + k : Int) + 1)
    rw [if_pos hc]; omega
  · have hf : v.on.contains ((i : Int), (k : Int)) = false := by simpa using hc
    rw [hf]; refine decide_eq_true ?_
    show 0 < (if v.on.contains ((i : Int), (k : Int)) = true then -((ps.length + flagsBef ps i + k : Int) + 1) else (ps.length + flagsBef ps i + k : Int) + 1)
    rw [if_neg hc]; omega
theorem litHolds_pick {m : List Bool} (i : Nat) : litHolds m ((chW ps v).pick i) = (m.getD (ixP (ordP v.ins ps.length) i) false != (insP v.ins).contains i) := by
  unfold litHolds
  rw [pick_abs, Nat.add_sub_cancel, pick_pos]
  cases m.getD (ixP (ordP v.ins ps.length) i) false <;> cases (insP v.ins).contains i <;> rfl
theorem litHolds_on {m : List Bool} (i k : Nat) : litHolds m ((chW ps v).on i k) = (m.getD (ps.length + flagsBef ps i + k) false != v.on.contains ((i : Int), (k : Int))) := by
  unfold litHolds
  rw [on_abs, Nat.add_sub_cancel, on_pos]
  cases m.getD (ps.length + flagsBef ps i + k) false <;> cases v.on.contains ((i : Int), (k : Int)) <;> rfl

/-! ### a set as choices -/
def atP (l : List Mem) (i : Nat) : Option Mem := l.find? fun m => decide (m.pl = (i : Int))
def chVal (ps : List Pk) (v : Ws) (l : List Mem) (x : Nat) : Bool :=
  if x < ps.length then (match (ordP v.ins ps.length)[x]? with
    | some i => (atP l i).isSome != (insP v.ins).contains i
    | none => false)
  else ((List.range ps.length).any fun i => (List.range (pkOf ps i).fs.length).any fun k => decide (ps.length + flagsBef ps i + k = x) && (match atP l i with
    | some m => onOf m.on k != v.on.contains ((i : Int), (k : Int))
    | none => false))
def chVec (ps : List Pk) (v : Ws) (l : List Mem) : List Bool := (List.range (manyC ps)).map (chVal ps v l)
theorem chVec_len {l : List Mem} : (chVec ps v l).length = manyC ps := by unfold chVec; simp
theorem chVec_at {l : List Mem} {x : Nat} (hx : x < manyC ps) : (chVec ps v l).getD x false = chVal ps v l x := by
  unfold chVec
  rw [List.getD_eq_getElem?_getD, List.getElem?_map, List.getElem?_range hx]; rfl
theorem chVal_pick (h : WsOk ps v) {l : List Mem} {i : Nat} (hi : i < ps.length) : chVal ps v l (ixP (ordP v.ins ps.length) i) = ((atP l i).isSome != (insP v.ins).contains i) := by
  have hm := (mem_ordP h).2 hi
  have h2 := ixP_lt hm
  rw [ordP_len h] at h2
  unfold chVal
  rw [if_pos h2, ixP_at hm]
theorem chVal_on {l : List Mem} {i k : Nat} (hi : i < ps.length) (hk : k < (pkOf ps i).fs.length) : chVal ps v l (ps.length + flagsBef ps i + k) = (match atP l i with
    | some m => onOf m.on k != v.on.contains ((i : Int), (k : Int))
    | none => false) := by
  unfold chVal
  rw [if_neg (by omega), Bool.eq_iff_iff, List.any_eq_true]
  constructor
  · rintro ⟨j, hj, h⟩
    obtain ⟨q, hq, h⟩ := List.any_eq_true.1 h
    rw [Bool.and_eq_true, decide_eq_true_eq] at h
    obtain ⟨rfl, rfl⟩ := flag_owner_one (List.mem_range.1 hq) hk (by omega)
    exact h.2
  · intro h
    exact ⟨i, List.mem_range.2 hi, List.any_eq_true.2 ⟨k, List.mem_range.2 hk, by rw [decide_eq_true rfl, Bool.true_and]; exact h⟩⟩
theorem var_owner (h : WsOk ps v) {x : Nat} (hx : x < manyC ps) : (∃ i, i < ps.length ∧ x = ixP (ordP v.ins ps.length) i) ∨ ∃ i k, i < ps.length ∧ k < (pkOf ps i).fs.length ∧ x = ps.length + flagsBef ps i + k := by
  by_cases hn : x < ps.length
  · have hl : x < (ordP v.ins ps.length).length := by rw [ordP_len h]; exact hn
    have hg : (ordP v.ins ps.length)[x]? = some ((ordP v.ins ps.length)[x]) := List.getElem?_eq_getElem hl
    exact .inl ⟨_, (mem_ordP h).1 (List.mem_of_getElem? hg), (ixP_of (ordP_nodup h) hg).symm⟩
  · unfold manyC at hx
    obtain ⟨i, k, h1, h2, h3⟩ := flag_owner (ps := ps) (n := ps.length) (v := x - ps.length) (by omega)
    exact .inr ⟨i, k, h1, h2, by omega⟩
theorem atP_mem {l : List Mem} {i : Nat} {m : Mem} (h : atP l i = some m) : m ∈ l ∧ m.pl = (i : Int) := by
  unfold atP at h
  exact ⟨List.mem_of_find?_eq_some h, by simpa using List.find?_some h⟩
theorem atP_of {l : List Mem} (hr : (l.map Mem.pl).Pairwise (· < ·)) {m : Mem} (hm : m ∈ l) (h0 : 0 ≤ m.pl) : atP l m.pl.toNat = some m := by
  unfold atP
  cases h : l.find? fun x => decide (x.pl = (m.pl.toNat : Int)) with
  | none =>
    have := List.find?_eq_none.1 h m hm
    simp only [decide_eq_true_eq] at this
    omega
  | some x =>
    have hx := List.mem_of_find?_eq_some h
    have hxp : x.pl = (m.pl.toNat : Int) := by simpa using List.find?_some h
    have hxm : x.pl = m.pl := by omega
    congr 1
    rw [List.pairwise_map] at hr
    obtain ⟨a, ha, rfl⟩ := List.mem_iff_getElem.1 hx
    obtain ⟨b, hb, rfl⟩ := List.mem_iff_getElem.1 hm
    have hp := List.pairwise_iff_getElem.1 hr
    rcases Nat.lt_trichotomy a b with g | g | g
    · have := hp a b ha hb g; omega
    · subst g; rfl
    · have := hp b a hb ha g; omega
theorem atP_sorted : ∀ {l l' : List Mem}, (l.map Mem.pl).Pairwise (· < ·) → (l'.map Mem.pl).Pairwise (· < ·) → (∀ m ∈ l, 0 ≤ m.pl) → (∀ m ∈ l', 0 ≤ m.pl) → (∀ m, m ∈ l ↔ m ∈ l') → l = l'
  | [], [], _, _, _, _, _ => rfl
  | [], y :: r, _, _, _, _, h => absurd ((h y).2 (List.mem_cons_self ..)) (by simp)
  | x :: r, [], _, _, _, _, h => absurd ((h x).1 (List.mem_cons_self ..)) (by simp)
  | x :: r, y :: r', h1, h2, p1, p2, h => by
    simp only [List.map_cons, List.pairwise_cons] at h1 h2
    have hxy : x = y := by
      rcases List.mem_cons.1 ((h x).1 (List.mem_cons_self ..)) with e | hx
      · exact e
      · rcases List.mem_cons.1 ((h y).2 (List.mem_cons_self ..)) with e | hy
        · exact e.symm
        · have g1 := h2.1 x.pl (List.mem_map.2 ⟨x, hx, rfl⟩)
          have g2 := h1.1 y.pl (List.mem_map.2 ⟨y, hy, rfl⟩)
          omega
    subst hxy
    congr 1
    refine atP_sorted h1.2 h2.2 (fun m hm => p1 m (List.mem_cons_of_mem _ hm)) (fun m hm => p2 m (List.mem_cons_of_mem _ hm)) fun m => ?_
    constructor
    · intro hm
      rcases List.mem_cons.1 ((h m).1 (List.mem_cons_of_mem _ hm)) with e | hm'
      · subst e; have := h1.1 m.pl (List.mem_map.2 ⟨m, hm, rfl⟩); omega
      · exact hm'
    · intro hm
      rcases List.mem_cons.1 ((h m).2 (List.mem_cons_of_mem _ hm)) with e | hm'
      · subst e; have := h2.1 m.pl (List.mem_map.2 ⟨m, hm, rfl⟩); omega
      · exact hm'
theorem setOfM_rise {X : Chs} {m : List Bool} : ((setOfM X ps m).map Mem.pl).Pairwise (· < ·) := by
  unfold setOfM
  rw [List.map_map, List.pairwise_map]
  exact (taken_sorted (X := X) (ps := ps) (m := m)).imp fun {a b} hab => by show (a : Int) < (b : Int); omega
theorem mem_setOfM {X : Chs} {m : List Bool} {x : Mem} : x ∈ setOfM X ps m ↔ ∃ i, i < ps.length ∧ litHolds m (X.pick i) = true ∧ x = memM X ps m i := by
  unfold setOfM
  rw [List.mem_map]
  exact ⟨fun ⟨i, hi, e⟩ => ⟨i, (mem_taken.1 hi).1, (mem_taken.1 hi).2, e.symm⟩, fun ⟨i, h1, h2, e⟩ => ⟨i, mem_taken.2 ⟨h1, h2⟩, e.symm⟩⟩
theorem setOf_chVec (h : WsOk ps v) {l : List Mem} (hl : ckMs ps none l = 0) : setOfM (chW ps v) ps (chVec ps v l) = l := by
  have hr := (ckMs_rises hl).2
  have hpick : ∀ i, i < ps.length → litHolds (chVec ps v l) ((chW ps v).pick i) = (atP l i).isSome := by
    intro i hi
    have h2 := ixP_lt ((mem_ordP h).2 hi)
    rw [ordP_len h] at h2
    rw [litHolds_pick, chVec_at (by unfold manyC; omega), chVal_pick h hi]
    cases (atP l i).isSome <;> cases (insP v.ins).contains i <;> rfl
  have hmem : ∀ i x, i < ps.length → atP l i = some x → memM (chW ps v) ps (chVec ps v l) i = x := by
    intro i x hi hx
    obtain ⟨h1, h2⟩ := atP_mem hx
    obtain ⟨_, _, h3⟩ := ckMs_mem hl x h1
    obtain ⟨pl, on⟩ := x
    dsimp only at h2 h3
    subst h2
    unfold memM
    congr 1
    refine List.ext_getElem (by simp [h3]) fun k hk1 hk2 => ?_
    simp only [List.length_map, List.length_range] at hk1
    simp only [List.getElem_map, List.getElem_range]
    have h4 := flagsBef_lt hi hk1
    rw [litHolds_on, chVec_at (by unfold manyC; omega), chVal_on hi hk1, hx]
    dsimp only
    unfold onOf
    rw [List.getD_eq_getElem?_getD, List.getElem?_eq_getElem hk2]
    simp only [Option.getD_some]
    cases on[k] <;> cases v.on.contains ((i : Int), (k : Int)) <;> rfl
  refine atP_sorted setOfM_rise hr (fun m hm => ?_) (fun m hm => (ckMs_mem hl m hm).1) fun m => ?_
  · obtain ⟨i, _, _, rfl⟩ := mem_setOfM.1 hm
    show (0 : Int) ≤ (i : Int); omega
  · rw [mem_setOfM]
    constructor
    · rintro ⟨i, h1, h2, rfl⟩
      rw [hpick i h1, Option.isSome_iff_exists] at h2
      obtain ⟨x, hx⟩ := h2
      rw [hmem i x h1 hx]
      exact (atP_mem hx).1
    · intro hm
      obtain ⟨h0, h1, _⟩ := ckMs_mem hl m hm
      have ha := atP_of hr hm h0
      exact ⟨m.pl.toNat, by omega, by rw [hpick _ (by omega), ha]; rfl, (hmem _ _ (by omega) ha).symm⟩
end
end Go.Proofs.YtedbhlgjcnnknaaGreatDoor

/- Plain: where choices settle all, the search needs no more steps than twice as many as there are choices to make; with more steps it comes to the same. No program in sight. -/
namespace Qm

def Settles (N M : Nat) (cs : List (List Int)) : Prop := ∀ w, Fine N w → Closed cs w → (∀ j, j < M → w.getD (j + 1) 0 ≠ 0) → ∀ j, j < N → w.getD (j + 1) 0 ≠ 0
end Qm
