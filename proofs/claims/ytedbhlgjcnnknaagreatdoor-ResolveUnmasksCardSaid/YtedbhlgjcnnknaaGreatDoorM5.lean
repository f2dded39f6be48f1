/- Parts of the proof: walks and plain laws, side by side. -/
import Derived.Test.YtedbhlgjcnnknaaGreatDoorM4
import Derived.Test.YtedbhlgjcnnknaaGreatDoorM3
set_option linter.unusedVariables false
set_option linter.unusedSimpArgs false
set_option linter.unusedSectionVars false
/- The formula holds just where the set that is meant may be. No program in sight. -/
namespace Go.Proofs.YtedbhlgjcnnknaaGreatDoor
open Go.RowKit Qm

def memM (X : Chs) (ps : List Pk) (m : List Bool) (i : Nat) : Mem := ⟨(i : Int), (List.range (pkOf ps i).fs.length).map fun k => litHolds m (X.on i k)⟩
def takenM (X : Chs) (ps : List Pk) (m : List Bool) : List Nat := (List.range ps.length).filter fun i => litHolds m (X.pick i)
def setOfM (X : Chs) (ps : List Pk) (m : List Bool) : List Mem := (takenM X ps m).map (memM X ps m)
section
variable {X : Chs} {ps : List Pk} {m : List Bool}
theorem mem_taken {i : Nat} : i ∈ takenM X ps m ↔ i < ps.length ∧ litHolds m (X.pick i) = true := by unfold takenM; rw [List.mem_filter, List.mem_range]
theorem taken_sorted : (takenM X ps m).Pairwise (· < ·) := by unfold takenM; exact List.Pairwise.filter _ List.pairwise_lt_range
theorem memM_on {i k : Nat} (hk : k < (pkOf ps i).fs.length) : onOf (memM X ps m i).on k = litHolds m (X.on i k) := by
 unfold onOf memM
 rw [List.getD_eq_getElem?_getD, List.getElem?_map, List.getElem?_range hk]; rfl
theorem asksB_isA {a : At} {but : Int} {i : Nat} : asksB X ps a but m i = (litHolds m (X.pick i) && (decide ((i : Int) ≠ but) && isA ps (memM X ps m i) a)) := by
 unfold asksB isA
 show _ = (litHolds m (X.pick i) && (decide ((i : Int) ≠ but) && (decide ((pkOf ps i).nm = a.nm) && (fitsP a (pkOf ps i).ver (pkOf ps i).slot && (decide (a.fl = []) || flagIs (pkOf ps i) (memM X ps m i) a)))))
 by_cases c : (i : Int) = but ∨ (pkOf ps i).nm ≠ a.nm ∨ fitsP a (pkOf ps i).ver (pkOf ps i).slot = false
 ·rw [if_pos c]
  rcases c with c | c | c
  ·rw [decide_eq_false (fun h => h c)]; simp
  ·rw [decide_eq_false c]; simp
  ·rw [c]; simp
 ·rw [if_neg c]
  have c1 : (i : Int) ≠ but := fun e => c (.inl e)
  have c2 : (pkOf ps i).nm = a.nm := Classical.byContradiction fun e => c (.inr (.inl e))
  have c3 : fitsP a (pkOf ps i).ver (pkOf ps i).slot = true := by
   cases h : fitsP a (pkOf ps i).ver (pkOf ps i).slot
   ·exact absurd (.inr (.inr h)) c
   ·rfl
  rw [decide_eq_true c1, decide_eq_true c2, c3, Bool.true_and, Bool.true_and, Bool.true_and]
  by_cases c4 : a.fl = []
  ·rw [if_pos c4, decide_eq_true c4]; simp
  ·rw [if_neg c4, decide_eq_false c4, Bool.false_or]
   unfold flagIs
   cases hix : ixOf a.fl (pkOf ps i).fs with
   | none => simp
   | some k =>
    dsimp only
    rw [memM_on (ixOf_lt hix)]
theorem any_taken {q : Mem → Bool} : (setOfM X ps m).any q = (List.range ps.length).any fun i => litHolds m (X.pick i) && q (memM X ps m i) := by
 rw [Bool.eq_iff_iff, List.any_eq_true, List.any_eq_true]
 unfold setOfM
 constructor
 ·rintro ⟨x, hx, h⟩
  obtain ⟨i, hi, rfl⟩ := List.mem_map.1 hx
  obtain ⟨h1, h2⟩ := mem_taken.1 hi
  exact ⟨i, List.mem_range.2 h1, by rw [h2, h]; rfl⟩
 ·rintro ⟨i, hi, h⟩
  rw [Bool.and_eq_true] at h
  exact ⟨_, List.mem_map.2 ⟨i, mem_taken.2 ⟨List.mem_range.1 hi, h.1⟩, rfl⟩, h.2⟩
theorem asks_any {a : At} : (List.range ps.length).any (asksB X ps a (-1) m) = (setOfM X ps m).any fun x => isA ps x a := by
 rw [any_taken]
 congr 1; funext i
 rw [asksB_isA, decide_eq_true (show (i : Int) ≠ -1 by omega), Bool.true_and]
theorem blockB_iff {q : Mem → Bool} {k : Nat} : ∀ {l : List Mem} {i : Nat}, blockB q k i l = true ↔ ∀ j x, l[j]? = some x → i + j ≠ k → q x = false
 | [], i => by simp [blockB]
 | y :: r, i => by
  show (if i ≠ k ∧ q y = true then false else blockB q k (i + 1) r) = true ↔ _
  by_cases h : i ≠ k ∧ q y = true
  ·rw [if_pos h]
   refine ⟨fun e => (by cases e), fun g => ?_⟩
   have := g 0 y rfl (by simpa using h.1)
   rw [h.2] at this; cases this
  ·rw [if_neg h, blockB_iff (l := r) (i := i + 1)]
   constructor
   ·intro g j x hj hne
    cases j with
    | zero =>
     simp only [List.getElem?_cons_zero, Option.some.injEq] at hj
     subst hj
     cases hq : q y
     ·rfl
     ·exact absurd ⟨by simpa using hne, hq⟩ h
    | succ j => exact g j x (by simpa using hj) (by omega)
   ·intro g j x hj hne
    exact g (j + 1) x (by simpa using hj) (by omega)
theorem taken_at {i k : Nat} (h : (takenM X ps m)[k]? = some i) : (setOfM X ps m)[k]? = some (memM X ps m i) ∧ i < ps.length ∧ litHolds m (X.pick i) = true := by
 refine ⟨by unfold setOfM; rw [List.getElem?_map, h]; rfl, ?_⟩
 exact mem_taken.1 (List.mem_of_getElem? h)
theorem taken_inj {i j k : Nat} (h : (takenM X ps m)[k]? = some i) (h2 : (takenM X ps m)[j]? = some i) : j = k := by
 obtain ⟨hk, e1⟩ := List.getElem?_eq_some_iff.1 h
 obtain ⟨hj, e2⟩ := List.getElem?_eq_some_iff.1 h2
 have hp := List.pairwise_iff_getElem.1 (taken_sorted (X := X) (ps := ps) (m := m))
 rcases Nat.lt_trichotomy j k with h | h | h
 ·have := hp j k hj hk h; omega
 ·exact h
 ·have := hp k j hk hj h; omega
theorem block_taken {a : At} {i k : Nat} (h : (takenM X ps m)[k]? = some i) : (!(List.range ps.length).any (asksB X ps a (i : Int) m)) = blockB (fun x => isA ps x a) k 0 (setOfM X ps m) := by
 rw [Bool.eq_iff_iff, blockB_iff, Bool.not_eq_true', List.any_eq_false]
 constructor
 ·intro g j x hj hne
  unfold setOfM at hj
  rw [List.getElem?_map] at hj
  cases ht : (takenM X ps m)[j]? with
  | none => rw [ht] at hj; cases hj
  | some i2 =>
   rw [ht] at hj
   simp only [Option.map_some, Option.some.injEq] at hj
   subst hj
   obtain ⟨_, t1, t2⟩ := taken_at ht
   have := g i2 (List.mem_range.2 t1)
   rw [asksB_isA, t2, decide_eq_true (show (i2 : Int) ≠ (i : Int) by
    intro e
    have e : i2 = i := by omega
    subst e
    have := taken_inj h ht
    omega)] at this
   simpa using this
 ·intro g i2 hi2
  rw [asksB_isA]
  intro hc
  simp only [Bool.and_eq_true, decide_eq_true_eq] at hc
  have hm : i2 ∈ takenM X ps m := mem_taken.2 ⟨List.mem_range.1 hi2, hc.1⟩
  obtain ⟨j, hj, e⟩ := List.mem_iff_getElem.1 hm
  have ht : (takenM X ps m)[j]? = some i2 := by rw [List.getElem?_eq_getElem hj, e]
  have := g j _ (taken_at ht).1 (by
   intro e2
   have e2 : j = k := by omega
   subst e2
   rw [h] at ht
   injection ht with ht
   exact hc.2.1 (by omega))
  rw [hc.2.2] at this; cases this
theorem ifLit_off {i : Nat} {f : Qm.W} {no : Bool} (hf : f ∈ (pkOf ps i).fs) (hl : ∀ k, k < (pkOf ps i).fs.length → X.on i k ≠ 0) : (!litHolds m (ifLit X ps i f no)) = ifOff ps (memM X ps m i) f no := by
 unfold ifLit ifOff
 show _ = match ixOf f (pkOf ps i).fs with | some j => onOf (memM X ps m i).on j == no | none => false
 cases h : ixOf f (pkOf ps i).fs with
 | none => exact absurd hf (ixOf_none.1 h)
 | some j =>
  dsimp only
  rw [memM_on (ixOf_lt h)]
  cases no
  ·rw [if_neg (by simp)]; cases litHolds m (X.on i j) <;> rfl
  ·rw [if_pos rfl, litHolds_neg m (hl j (ixOf_lt h))]; cases litHolds m (X.on i j) <;> rfl
theorem holdsM_eq {i k : Nat} (h : (takenM X ps m)[k]? = some i) (hl : ∀ k, k < (pkOf ps i).fs.length → X.on i k ≠ 0) : ∀ (y : Nd), (∀ f ∈ flagsN y, f ∈ (pkOf ps i).fs) → holdsM X ps m i y = holdsN ps (setOfM X ps m) k (memM X ps m i) y := by
 refine Nd.ind fun kd a f no ks ih => ?_
 intro hfl
 have ihk : ∀ l : List Nd, (∀ x ∈ l, x ∈ ks) → someM X ps m i l = someN ps (setOfM X ps m) k (memM X ps m i) l ∧ allM X ps m i l = allN ps (setOfM X ps m) k (memM X ps m i) l := by
  intro l
  induction l with
  | nil => intro _; exact ⟨rfl, rfl⟩
  | cons x r ihr =>
   intro hx
   have h1 := ih x (hx x (List.mem_cons_self ..)) (fun g hg => hfl g (by unfold flagsN; exact List.mem_append_right _ (flagsN_sub (hx x (List.mem_cons_self ..)) g hg)))
   obtain ⟨h2, h3⟩ := ihr fun y hy => hx y (List.mem_cons_of_mem _ hy)
   rw [someM, allM, someN, allN, h1, h2, h3]
   exact ⟨rfl, rfl⟩
 obtain ⟨k1, k2⟩ := ihk ks fun _ h => h
 unfold holdsM holdsN
 by_cases c1 : kd = 1
 ·rw [if_pos c1, if_pos c1, asks_any]
 rw [if_neg c1, if_neg c1]
 by_cases c2 : kd = 2
 ·rw [if_pos c2, if_pos c2, block_taken h]
 rw [if_neg c2, if_neg c2]
 by_cases c4 : kd = 4
 ·rw [if_pos c4, if_pos c4, k1]
 rw [if_neg c4, if_neg c4]
 by_cases c5 : kd = 5
 ·rw [if_pos c5, ifLit_off (hfl f (by unfold flagsN; rw [if_pos c5]; simp)) hl, k2]
  by_cases c6 : ifOff ps (memM X ps m i) f no = true
  ·rw [if_pos ⟨c5, c6⟩, c6]; rfl
  ·rw [if_neg (fun e => c6 e.2)]
   have : ifOff ps (memM X ps m i) f no = false := by simpa using c6
   rw [this]; rfl
 ·rw [if_neg c5, if_neg (fun e => c5 e.1), k2]
theorem loneB_iff {p : Pk} : ∀ {l : List Mem}, loneB ps p l = true ↔ ∀ o ∈ l, ¬ ((pkOf ps o.pl).nm = p.nm ∧ (pkOf ps o.pl).slot = p.slot)
 | [] => by simp [loneB]
 | o :: r => by
  show (if (pkOf ps o.pl).nm = p.nm ∧ (pkOf ps o.pl).slot = p.slot then false else loneB ps p r) = true ↔ _
  by_cases h : (pkOf ps o.pl).nm = p.nm ∧ (pkOf ps o.pl).slot = p.slot
  ·rw [if_pos h]; exact ⟨fun e => (by cases e), fun g => absurd h (g o (List.mem_cons_self ..))⟩
  ·rw [if_neg h, loneB_iff (l := r)]
   exact ⟨fun g x hx => (List.mem_cons.1 hx).elim (fun e => e ▸ h) (g x), fun g x hx => g x (List.mem_cons_of_mem _ hx)⟩
theorem allOk_iff {ms : List Int} {l : List Mem} : ∀ {n : Nat}, allOk ps ms l n = true ↔ ∀ i, i < n → oneOk ps ms l i = true
 | 0 => by simp [allOk]
 | n + 1 => by
  rw [allOk, Bool.and_eq_true, allOk_iff]
  constructor
  ·rintro ⟨h1, h2⟩ i hi
   by_cases e : i = n
   ·subst e; exact h2
   ·exact h1 i (by omega)
  ·intro h; exact ⟨fun i hi => h i (by omega), h n (by omega)⟩
theorem memAt_some {l : List Mem} {k : Nat} {x : Mem} (h : l[k]? = some x) : memAt l k = x := by
 unfold memAt; rw [List.getD_eq_getElem?_getD, h]; rfl
theorem validM_iff (hl : ∀ i, i < ps.length → ∀ k, k < (pkOf ps i).fs.length → X.on i k ≠ 0) (hN : NdsOk ps) {ts : List At} {ms : List Int} (hm : ∀ k ∈ ms, 0 ≤ k ∧ k < ps.length) : validM X ps ts ms m = validP ps ts ms (setOfM X ps m) := by
 have htg : tgtM X ps m ts = ts.all fun a => (setOfM X ps m).any fun x => isA ps x a := by
  unfold tgtM; congr 1; funext a; exact asks_any
 have hall : (maskM X m ms && (List.range ps.length).all (pkM X ps m)) = allOk ps ms (setOfM X ps m) (setOfM X ps m).length := by
  have hlen : (setOfM X ps m).length = (takenM X ps m).length := by unfold setOfM; rw [List.length_map]
  rw [Bool.eq_iff_iff, Bool.and_eq_true, allOk_iff]
  unfold maskM
  rw [List.all_eq_true, List.all_eq_true]
  constructor
  ·rintro ⟨h1, h2⟩ k hk
   have hkt : (takenM X ps m)[k]? = some ((takenM X ps m)[k]'(by omega)) := List.getElem?_eq_getElem _
   generalize (takenM X ps m)[k]'(by omega) = i at hkt
   obtain ⟨e1, e2, e3⟩ := taken_at hkt
   have hp := h2 i (List.mem_range.2 e2)
   unfold pkM at hp
   rw [Bool.and_eq_true, e3, Bool.not_true, Bool.false_or] at hp
   have hmem := memAt_some e1
   unfold oneOk holdsAt
   rw [hmem, Bool.and_eq_true, Bool.and_eq_true]
   refine ⟨?_, ?_, ?_⟩
   ·show (!ms.contains (i : Int)) = true
    cases hc : ms.contains (i : Int)
    ·rfl
    ·have := h1 _ (List.contains_iff_mem.1 hc)
     rw [Int.toNat_natCast, e3] at this; cases this
   ·have := holdsM_eq hkt (hl i e2) _ (hN i e2).2
    exact this.symm.trans hp.2
   ·rw [loneB_iff]
    rintro o ho ⟨g1, g2⟩
    obtain ⟨j, hj, hjo⟩ := List.mem_take_iff_getElem.1 ho
    have hjt : (takenM X ps m)[j]? = some ((takenM X ps m)[j]'(by omega)) := List.getElem?_eq_getElem _
    have hij : (takenM X ps m)[j]'(by omega) < i := by
     have := List.pairwise_iff_getElem.1 (taken_sorted (X := X) (ps := ps) (m := m)) j k (by omega) (by omega) (by omega)
     have e := (List.getElem?_eq_some_iff.1 hkt).2
     omega
    generalize (takenM X ps m)[j]'(by omega) = i2 at hjt hij
    obtain ⟨f1, f2, f3⟩ := taken_at hjt
    have ho2 : o = memM X ps m i2 := by
     have := (List.getElem?_eq_some_iff.1 f1).2
     rw [← hjo, ← this]
    subst ho2
    have hc := hp.1
    unfold confM at hc
    have := List.all_eq_true.1 hc i2 (List.mem_range.2 hij)
    rw [e3, f3] at this
    have hs : sameB ps i i2 = true := by
     unfold sameB
     rw [decide_eq_true (show (pkOf ps i).nm = (pkOf ps i2).nm from g1.symm), decide_eq_true (show (pkOf ps i).slot = (pkOf ps i2).slot from g2.symm)]; rfl
    rw [hs] at this; cases this
  ·intro h
   have hget : ∀ i, i < ps.length → litHolds m (X.pick i) = true → ∃ k, (takenM X ps m)[k]? = some i ∧ oneOk ps ms (setOfM X ps m) k = true := by
    intro i hi ht
    obtain ⟨k, hk, e⟩ := List.mem_iff_getElem.1 (mem_taken.2 ⟨hi, ht⟩ : i ∈ takenM X ps m)
    exact ⟨k, by rw [List.getElem?_eq_getElem hk, e], h k (by omega)⟩
   refine ⟨fun k hk => ?_, fun i hi => ?_⟩
   ·obtain ⟨h0, h1⟩ := hm k hk
    cases ht : litHolds m (X.pick k.toNat)
    ·rfl
    ·obtain ⟨j, hj, ho⟩ := hget k.toNat (by omega) ht
     unfold oneOk at ho
     rw [memAt_some (taken_at hj).1, Bool.and_eq_true] at ho
     have ho1 : (!ms.contains ((k.toNat : Nat) : Int)) = true := ho.1
     rw [Int.toNat_of_nonneg h0, List.contains_iff_mem.2 hk] at ho1; cases ho1
   ·have hi := List.mem_range.1 hi
    unfold pkM
    rw [Bool.and_eq_true]
    cases ht : litHolds m (X.pick i)
    ·refine ⟨?_, rfl⟩
     unfold confM
     rw [List.all_eq_true]
     intro k _
     rw [ht]; simp
    ·obtain ⟨j, hj, ho⟩ := hget i hi ht
     unfold oneOk holdsAt at ho
     rw [memAt_some (taken_at hj).1, Bool.and_eq_true, Bool.and_eq_true] at ho
     refine ⟨?_, ?_⟩
     ·unfold confM
      rw [List.all_eq_true]
      intro k hk
      have hki := List.mem_range.1 hk
      rw [ht]
      cases htk : litHolds m (X.pick k)
      ·simp
      ·obtain ⟨j2, hj2, _⟩ := hget k (by omega) htk
       have hlt : j2 < j := by
        obtain ⟨q1, q2⟩ := List.getElem?_eq_some_iff.1 hj
        obtain ⟨r1, r2⟩ := List.getElem?_eq_some_iff.1 hj2
        rcases Nat.lt_trichotomy j2 j with g | g | g
        ·exact g
        ·subst g; omega
        ·have := List.pairwise_iff_getElem.1 (taken_sorted (X := X) (ps := ps) (m := m)) j j2 q1 r1 g
         omega
       have hlone := loneB_iff.1 ho.2.2 (memM X ps m k) (by
        obtain ⟨r1, r2⟩ := List.getElem?_eq_some_iff.1 (taken_at hj2).1
        rw [List.mem_take_iff_getElem]
        exact ⟨j2, by omega, r2⟩)
       have hs : sameB ps i k = false := by
        cases hs : sameB ps i k
        ·rfl
        ·unfold sameB at hs
         simp only [Bool.and_eq_true, decide_eq_true_eq] at hs
         exact absurd ⟨hs.1.symm, hs.2.symm⟩ hlone
       rw [hs]; rfl
     ·rw [Bool.not_true, Bool.false_or, holdsM_eq hj (hl i hi) _ (hN i hi).2]
      exact ho.2.1
 unfold validM validP
 rw [htg, hall, Bool.and_comm]
end
end Go.Proofs.YtedbhlgjcnnknaaGreatDoor

/- Choices of a tree, by a wish: variable by variable; a set as choices and back. No program in sight. -/
namespace Go.Proofs.YtedbhlgjcnnknaaGreatDoor
open Go.RowKit Qm

/-! ### places, in the order of their variables -/
def insP (ins : List Mem) : List Nat := ins.map fun m => m.pl.toNat
def freeP (ins : List Mem) (n : Nat) : List Nat := (List.range n).filter fun i => !(insP ins).contains i
def ordP (ins : List Mem) (n : Nat) : List Nat := insP ins ++ freeP ins n
def ixP (l : List Nat) (i : Nat) : Nat := l.findIdx (fun j => j == i)
theorem ixP_lt {l : List Nat} {i : Nat} (h : i ∈ l) : ixP l i < l.length := by
  unfold ixP; rw [List.findIdx_lt_length]; exact ⟨i, h, by simp⟩
theorem ixP_at {l : List Nat} {i : Nat} (h : i ∈ l) : l[ixP l i]? = some i := by
  have hl := ixP_lt h
  rw [List.getElem?_eq_getElem hl]
  congr 1
  have := List.findIdx_getElem (p := fun j => j == i) (xs := l) (w := hl)
  exact eq_of_beq this
theorem ixP_of {l : List Nat} (hn : l.Nodup) {i j : Nat} (h : l[j]? = some i) : ixP l i = j := by
  have hm := List.mem_of_getElem? h
  have h2 := ixP_at hm
  obtain ⟨q1, q2⟩ := List.getElem?_eq_some_iff.1 h
  obtain ⟨r1, r2⟩ := List.getElem?_eq_some_iff.1 h2
  have := List.pairwise_iff_getElem.1 hn
  rcases Nat.lt_trichotomy (ixP l i) j with g | g | g
  · exact absurd (r2.trans q2.symm) (this _ _ r1 q1 g)
  · exact g
  · exact absurd (q2.trans r2.symm) (this _ _ q1 r1 g)
def flagsBef (ps : List Pk) : Nat → Nat
  | 0 => 0
  | i + 1 => flagsBef ps i + (pkOf ps i).fs.length
def manyC (ps : List Pk) : Nat := ps.length + flagsBef ps ps.length
theorem flagsBef_mono {ps : List Pk} {i : Nat} : ∀ {j : Nat}, i ≤ j → flagsBef ps i ≤ flagsBef ps j
  | 0, h => by obtain rfl : i = 0 := by omega
               exact Nat.le_refl _
  | j + 1, h => by
    by_cases e : i = j + 1
    · subst e; exact Nat.le_refl _
    · have := flagsBef_mono (ps := ps) (i := i) (j := j) (by omega)
      simp only [flagsBef]; omega
theorem flagsBef_lt {ps : List Pk} {i j k : Nat} (h : i < j) (hk : k < (pkOf ps i).fs.length) : flagsBef ps i + k < flagsBef ps j := by
  have := flagsBef_mono (ps := ps) (i := i + 1) (j := j) (by omega)
  simp only [flagsBef] at this; omega
theorem flag_owner {ps : List Pk} : ∀ {n v : Nat}, v < flagsBef ps n → ∃ i k, i < n ∧ k < (pkOf ps i).fs.length ∧ flagsBef ps i + k = v
  | 0, v, h => by simp [flagsBef] at h
  | n + 1, v, h => by
    simp only [flagsBef] at h
    by_cases g : v < flagsBef ps n
    · obtain ⟨i, k, h1, h2, h3⟩ := flag_owner g
      exact ⟨i, k, by omega, h2, h3⟩
    · exact ⟨n, v - flagsBef ps n, by omega, by omega, by omega⟩
theorem flag_owner_one {ps : List Pk} {i j k q : Nat} (hk : k < (pkOf ps i).fs.length) (hq : q < (pkOf ps j).fs.length) (h : flagsBef ps i + k = flagsBef ps j + q) : i = j ∧ k = q := by
  rcases Nat.lt_trichotomy i j with g | g | g
  · have := flagsBef_lt g hk; omega
  · subst g; exact ⟨rfl, by omega⟩
  · have := flagsBef_lt g hq; omega
def chW (ps : List Pk) (v : Ws) : Chs where
  pick i := if (insP v.ins).contains i = true then -((ixP (ordP v.ins ps.length) i : Int) + 1) else (ixP (ordP v.ins ps.length) i : Int) + 1
  on i k := if v.on.contains ((i : Int), (k : Int)) = true then -((ps.length + flagsBef ps i + k : Int) + 1) else (ps.length + flagsBef ps i + k : Int) + 1

/-! ### a right wish -/
structure WsOk (ps : List Pk) (v : Ws) : Prop where
  ins : ckMs ps none v.ins = 0
theorem insP_mem {ps : List Pk} {v : Ws} (h : WsOk ps v) : ∀ i ∈ insP v.ins, i < ps.length := by
  intro i hi
  obtain ⟨m, hm, rfl⟩ := List.mem_map.1 hi
  obtain ⟨h1, h2, _⟩ := ckMs_mem h.ins m hm
  omega
theorem insP_rise {ps : List Pk} {l : List Mem} (h : ckMs ps none l = 0) : (insP l).Pairwise (· < ·) := by
  have h2 := (ckMs_rises h).2
  unfold insP
  rw [List.pairwise_map] at h2 ⊢
  exact h2.imp_of_mem fun {a b} ha hb hab => by
    have := (ckMs_mem h a ha).1
    have := (ckMs_mem h b hb).1
    omega
theorem ordP_nodup {ps : List Pk} {v : Ws} (h : WsOk ps v) : (ordP v.ins ps.length).Nodup := by
  unfold ordP
  rw [List.nodup_append]
  refine ⟨(insP_rise h.ins).imp fun hab => Nat.ne_of_lt hab, ?_, ?_⟩
  · unfold freeP; exact (List.nodup_range).filter _
  · rintro a ha b hb rfl
    unfold freeP at hb
    have := (List.mem_filter.1 hb).2
    rw [List.contains_iff_mem.2 ha] at this; cases this
theorem mem_ordP {ps : List Pk} {v : Ws} (h : WsOk ps v) {i : Nat} : i ∈ ordP v.ins ps.length ↔ i < ps.length := by
  unfold ordP freeP
  rw [List.mem_append, List.mem_filter, List.mem_range]
  constructor
  · rintro (g | g)
    · exact insP_mem h i g
    · exact g.1
  · intro hi
    by_cases hc : i ∈ insP v.ins
    · exact .inl hc
    · refine .inr ⟨hi, ?_⟩
      cases hb : (insP v.ins).contains i
      · rfl
      · exact absurd (List.contains_iff_mem.1 hb) hc
theorem len_of_full : ∀ {n : Nat} {l : List Nat}, l.Nodup → (∀ i, i ∈ l ↔ i < n) → l.length = n := by
  intro n l hn hm
  have h1 : l.Perm (List.range n) := by
    rw [List.perm_ext_iff_of_nodup hn List.nodup_range]
    intro a; rw [hm a, List.mem_range]
  rw [h1.length_eq, List.length_range]
theorem ordP_len {ps : List Pk} {v : Ws} (h : WsOk ps v) : (ordP v.ins ps.length).length = ps.length := len_of_full (ordP_nodup h) fun _ => mem_ordP h
def keysW (ps : List Pk) (v : Ws) : List (Int × Int) :=
  (List.range ps.length).flatMap fun (i : Nat) => (List.range (pkOf ps i).fs.length).flatMap fun k => [((chW ps v).pick i, (chW ps v).on i k), ((chW ps v).pick i, -(chW ps v).on i k)]
theorem keysW_len {ps : List Pk} {v : Ws} : (keysW ps v).length = 2 * flagsBef ps ps.length := by
  unfold keysW
  have h2 : ∀ (x : Int) (f : Nat → Int) (n : Nat), ((List.range n).flatMap fun k => [(x, f k), (x, -f k)]).length = 2 * n := by
    intro x f n
    induction n with
    | zero => rfl
    | succ n ih => rw [List.range_succ, List.flatMap_append, List.length_append, ih]; simp; omega
  have : ∀ n, ((List.range n).flatMap fun (i : Nat) => (List.range (pkOf ps i).fs.length).flatMap fun k => [((chW ps v).pick i, (chW ps v).on i k), ((chW ps v).pick i, -(chW ps v).on i k)]).length = 2 * flagsBef ps n := by
    intro n
    induction n with
    | zero => rfl
    | succ n ih =>
      rw [List.range_succ, List.flatMap_append, List.length_append, ih]
      simp only [List.flatMap_cons, List.flatMap_nil, List.append_nil]
      rw [h2]; simp only [flagsBef]; omega
  exact this _
section
variable {ps : List Pk} {v : Ws}
theorem pick_abs (i : Nat) : ((chW ps v).pick i).natAbs = ixP (ordP v.ins ps.length) i + 1 := by
  unfold chW; dsimp only; split <;> omega
theorem on_abs (i k : Nat) : ((chW ps v).on i k).natAbs = ps.length + flagsBef ps i + k + 1 := by
  unfold chW; dsimp only; split <;> omega
theorem chW_ok (h : WsOk ps v) : ChsOk ps (manyC ps) (chW ps v) (keysW ps v) where
  pick i hi := by
    have h1 := pick_abs (ps := ps) (v := v) i
    have h2 := ixP_lt ((mem_ordP h).2 hi)
    rw [ordP_len h] at h2
    exact ⟨by intro e; rw [e] at h1; simp at h1, by unfold manyC; omega⟩
  on i hi k hk := by
    have h1 := on_abs (ps := ps) (v := v) i k
    have h2 := flagsBef_lt hi hk
    exact ⟨by intro e; rw [e] at h1; simp at h1, by unfold manyC; omega⟩
  keys i hi k hk := by
    unfold keysW
    constructor
    · exact List.mem_flatMap.2 ⟨i, List.mem_range.2 hi, List.mem_flatMap.2 ⟨k, List.mem_range.2 hk, by simp⟩⟩
    · exact List.mem_flatMap.2 ⟨i, List.mem_range.2 hi, List.mem_flatMap.2 ⟨k, List.mem_range.2 hk, by simp⟩⟩
theorem pick_pos (i : Nat) : decide (0 < (chW ps v).pick i) = !(insP v.ins).contains i := by
  by_cases hc : (insP v.ins).contains i = true
  · rw [hc]; refine decide_eq_false ?_
    show ¬ 0 < (if (insP v.ins).contains i = true then -((ixP (ordP v.ins ps.length) i : Int) + 1) else (ixP (ordP v.ins ps.length) i : Int) + 1)
    rw [if_pos hc]; omega
  · have hf : (insP v.ins).contains i = false := by simpa using hc
    rw [hf]; refine decide_eq_true ?_
    show 0 < (if (insP v.ins).contains i = true then -((ixP (ordP v.ins ps.length) i : Int) + 1) else (ixP (ordP v.ins ps.length) i : Int) + 1)
    rw [if_neg hc]; omega
theorem on_pos (i k : Nat) : decide (0 < (chW ps v).on i k) = !v.on.contains ((i : Int), (k : Int)) := by
  by_cases hc : v.on.contains ((i : Int), (k : Int)) = true
  · rw [hc]; refine decide_eq_false ?_
    show ¬ 0 < (if v.on.contains ((i : Int), (k : Int)) = true then -((ps.length + flagsBef ps i + k : Int) + 1) else (ps.length + flagsBef ps i + k : Int) + 1)
    rw [if_pos hc]; omega
  · have hf : v.on.contains ((i : Int), (k : Int)) = false := by simpa using hc
    rw [hf]; refine decide_eq_true ?_
    show 0 < (if v.on.contains ((i : Int), (k : Int)) = true then -((ps.length + flagsBef ps i + k : Int) + 1) else (ps.length + flagsBef ps i + k : Int) + 1)
    rw [if_neg hc]; omega
theorem litHolds_pick {m : List Bool} (i : Nat) : litHolds m ((chW ps v).pick i) = (m.getD (ixP (ordP v.ins ps.length) i) false != (insP v.ins).contains i) := by
  unfold litHolds
  rw [pick_abs, Nat.add_sub_cancel, pick_pos]
  cases m.getD (ixP (ordP v.ins ps.length) i) false <;> cases (insP v.ins).contains i <;> rfl
theorem litHolds_on {m : List Bool} (i k : Nat) : litHolds m ((chW ps v).on i k) = (m.getD (ps.length + flagsBef ps i + k) false != v.on.contains ((i : Int), (k : Int))) := by
  unfold litHolds
  rw [on_abs, Nat.add_sub_cancel, on_pos]
  cases m.getD (ps.length + flagsBef ps i + k) false <;> cases v.on.contains ((i : Int), (k : Int)) <;> rfl

/-! ### a set as choices -/
def atP (l : List Mem) (i : Nat) : Option Mem := l.find? fun m => decide (m.pl = (i : Int))
def chVal (ps : List Pk) (v : Ws) (l : List Mem) (x : Nat) : Bool :=
  if x < ps.length then (match (ordP v.ins ps.length)[x]? with
    | some i => (atP l i).isSome != (insP v.ins).contains i
    | none => false)
  else ((List.range ps.length).any fun i => (List.range (pkOf ps i).fs.length).any fun k => decide (ps.length + flagsBef ps i + k = x) && (match atP l i with
    | some m => onOf m.on k != v.on.contains ((i : Int), (k : Int))
    | none => false))
def chVec (ps : List Pk) (v : Ws) (l : List Mem) : List Bool := (List.range (manyC ps)).map (chVal ps v l)
theorem chVec_len {l : List Mem} : (chVec ps v l).length = manyC ps := by unfold chVec; simp
theorem chVec_at {l : List Mem} {x : Nat} (hx : x < manyC ps) : (chVec ps v l).getD x false = chVal ps v l x := by
  unfold chVec
  rw [List.getD_eq_getElem?_getD, List.getElem?_map, List.getElem?_range hx]; rfl
theorem chVal_pick (h : WsOk ps v) {l : List Mem} {i : Nat} (hi : i < ps.length) : chVal ps v l (ixP (ordP v.ins ps.length) i) = ((atP l i).isSome != (insP v.ins).contains i) := by
  have hm := (mem_ordP h).2 hi
  have h2 := ixP_lt hm
  rw [ordP_len h] at h2
  unfold chVal
  rw [if_pos h2, ixP_at hm]
theorem chVal_on {l : List Mem} {i k : Nat} (hi : i < ps.length) (hk : k < (pkOf ps i).fs.length) : chVal ps v l (ps.length + flagsBef ps i + k) = (match atP l i with
    | some m => onOf m.on k != v.on.contains ((i : Int), (k : Int))
    | none => false) := by
  unfold chVal
  rw [if_neg (by omega), Bool.eq_iff_iff, List.any_eq_true]
  constructor
  · rintro ⟨j, hj, h⟩
    obtain ⟨q, hq, h⟩ := List.any_eq_true.1 h
    rw [Bool.and_eq_true, decide_eq_true_eq] at h
    obtain ⟨rfl, rfl⟩ := flag_owner_one (List.mem_range.1 hq) hk (by omega)
    exact h.2
  · intro h
    exact ⟨i, List.mem_range.2 hi, List.any_eq_true.2 ⟨k, List.mem_range.2 hk, by rw [decide_eq_true rfl, Bool.true_and]; exact h⟩⟩
theorem var_owner (h : WsOk ps v) {x : Nat} (hx : x < manyC ps) : (∃ i, i < ps.length ∧ x = ixP (ordP v.ins ps.length) i) ∨ ∃ i k, i < ps.length ∧ k < (pkOf ps i).fs.length ∧ x = ps.length + flagsBef ps i + k := by
  by_cases hn : x < ps.length
  · have hl : x < (ordP v.ins ps.length).length := by rw [ordP_len h]; exact hn
    have hg : (ordP v.ins ps.length)[x]? = some ((ordP v.ins ps.length)[x]) := List.getElem?_eq_getElem hl
    exact .inl ⟨_, (mem_ordP h).1 (List.mem_of_getElem? hg), (ixP_of (ordP_nodup h) hg).symm⟩
  · unfold manyC at hx
    obtain ⟨i, k, h1, h2, h3⟩ := flag_owner (ps := ps) (n := ps.length) (v := x - ps.length) (by omega)
    exact .inr ⟨i, k, h1, h2, by omega⟩
theorem atP_mem {l : List Mem} {i : Nat} {m : Mem} (h : atP l i = some m) : m ∈ l ∧ m.pl = (i : Int) := by
  unfold atP at h
  exact ⟨List.mem_of_find?_eq_some h, by simpa using List.find?_some h⟩
theorem atP_of {l : List Mem} (hr : (l.map Mem.pl).Pairwise (· < ·)) {m : Mem} (hm : m ∈ l) (h0 : 0 ≤ m.pl) : atP l m.pl.toNat = some m := by
  unfold atP
  cases h : l.find? fun x => decide (x.pl = (m.pl.toNat : Int)) with
  | none =>
    have := List.find?_eq_none.1 h m hm
    simp only [decide_eq_true_eq] at this
    omega
  | some x =>
    have hx := List.mem_of_find?_eq_some h
    have hxp : x.pl = (m.pl.toNat : Int) := by simpa using List.find?_some h
    have hxm : x.pl = m.pl := by omega
    congr 1
    rw [List.pairwise_map] at hr
    obtain ⟨a, ha, rfl⟩ := List.mem_iff_getElem.1 hx
    obtain ⟨b, hb, rfl⟩ := List.mem_iff_getElem.1 hm
    have hp := List.pairwise_iff_getElem.1 hr
    rcases Nat.lt_trichotomy a b with g | g | g
    · have := hp a b ha hb g; omega
    · subst g; rfl
    · have := hp b a hb ha g; omega
theorem atP_sorted : ∀ {l l' : List Mem}, (l.map Mem.pl).Pairwise (· < ·) → (l'.map Mem.pl).Pairwise (· < ·) → (∀ m ∈ l, 0 ≤ m.pl) → (∀ m ∈ l', 0 ≤ m.pl) → (∀ m, m ∈ l ↔ m ∈ l') → l = l'
  | [], [], _, _, _, _, _ => rfl
  | [], y :: r, _, _, _, _, h => absurd ((h y).2 (List.mem_cons_self ..)) (by simp)
  | x :: r, [], _, _, _, _, h => absurd ((h x).1 (List.mem_cons_self ..)) (by simp)
  | x :: r, y :: r', h1, h2, p1, p2, h => by
    simp only [List.map_cons, List.pairwise_cons] at h1 h2
    have hxy : x = y := by
      rcases List.mem_cons.1 ((h x).1 (List.mem_cons_self ..)) with e | hx
      · exact e
      · rcases List.mem_cons.1 ((h y).2 (List.mem_cons_self ..)) with e | hy
        · exact e.symm
        · have g1 := h2.1 x.pl (List.mem_map.2 ⟨x, hx, rfl⟩)
          have g2 := h1.1 y.pl (List.mem_map.2 ⟨y, hy, rfl⟩)
          omega
    subst hxy
    congr 1
    refine atP_sorted h1.2 h2.2 (fun m hm => p1 m (List.mem_cons_of_mem _ hm)) (fun m hm => p2 m (List.mem_cons_of_mem _ hm)) fun m => ?_
    constructor
    · intro hm
      rcases List.mem_cons.1 ((h m).1 (List.mem_cons_of_mem _ hm)) with e | hm'
      · subst e; have := h1.1 m.pl (List.mem_map.2 ⟨m, hm, rfl⟩); omega
      · exact hm'
    · intro hm
      rcases List.mem_cons.1 ((h m).2 (List.mem_cons_of_mem _ hm)) with e | hm'
      · subst e; have := h2.1 m.pl (List.mem_map.2 ⟨m, hm, rfl⟩); omega
      · exact hm'
theorem setOfM_rise {X : Chs} {m : List Bool} : ((setOfM X ps m).map Mem.pl).Pairwise (· < ·) := by
  unfold setOfM
  rw [List.map_map, List.pairwise_map]
  exact (taken_sorted (X := X) (ps := ps) (m := m)).imp fun {a b} hab => by show (a : Int) < (b : Int); omega
theorem mem_setOfM {X : Chs} {m : List Bool} {x : Mem} : x ∈ setOfM X ps m ↔ ∃ i, i < ps.length ∧ litHolds m (X.pick i) = true ∧ x = memM X ps m i := by
  unfold setOfM
  rw [List.mem_map]
  exact ⟨fun ⟨i, hi, e⟩ => ⟨i, (mem_taken.1 hi).1, (mem_taken.1 hi).2, e.symm⟩, fun ⟨i, h1, h2, e⟩ => ⟨i, mem_taken.2 ⟨h1, h2⟩, e.symm⟩⟩
theorem setOf_chVec (h : WsOk ps v) {l : List Mem} (hl : ckMs ps none l = 0) : setOfM (chW ps v) ps (chVec ps v l) = l := by
  have hr := (ckMs_rises hl).2
  have hpick : ∀ i, i < ps.length → litHolds (chVec ps v l) ((chW ps v).pick i) = (atP l i).isSome := by
    intro i hi
    have h2 := ixP_lt ((mem_ordP h).2 hi)
    rw [ordP_len h] at h2
    rw [litHolds_pick, chVec_at (by unfold manyC; omega), chVal_pick h hi]
    cases (atP l i).isSome <;> cases (insP v.ins).contains i <;> rfl
  have hmem : ∀ i x, i < ps.length → atP l i = some x → memM (chW ps v) ps (chVec ps v l) i = x := by
    intro i x hi hx
    obtain ⟨h1, h2⟩ := atP_mem hx
    obtain ⟨_, _, h3⟩ := ckMs_mem hl x h1
    obtain ⟨pl, on⟩ := x
    dsimp only at h2 h3
    subst h2
    unfold memM
    congr 1
    refine List.ext_getElem (by simp [h3]) fun k hk1 hk2 => ?_
    simp only [List.length_map, List.length_range] at hk1
    simp only [List.getElem_map, List.getElem_range]
    have h4 := flagsBef_lt hi hk1
    rw [litHolds_on, chVec_at (by unfold manyC; omega), chVal_on hi hk1, hx]
    dsimp only
    unfold onOf
    rw [List.getD_eq_getElem?_getD, List.getElem?_eq_getElem hk2]
    simp only [Option.getD_some]
    cases on[k] <;> cases v.on.contains ((i : Int), (k : Int)) <;> rfl
  refine atP_sorted setOfM_rise hr (fun m hm => ?_) (fun m hm => (ckMs_mem hl m hm).1) fun m => ?_
  · obtain ⟨i, _, _, rfl⟩ := mem_setOfM.1 hm
    show (0 : Int) ≤ (i : Int); omega
  · rw [mem_setOfM]
    constructor
    · rintro ⟨i, h1, h2, rfl⟩
      rw [hpick i h1, Option.isSome_iff_exists] at h2
      obtain ⟨x, hx⟩ := h2
      rw [hmem i x h1 hx]
      exact (atP_mem hx).1
    · intro hm
      obtain ⟨h0, h1, _⟩ := ckMs_mem hl m hm
      have ha := atP_of hr hm h0
      exact ⟨m.pl.toNat, by omega, by rw [hpick _ (by omega), ha]; rfl, (hmem _ _ (by omega) ha).symm⟩
end
end Go.Proofs.YtedbhlgjcnnknaaGreatDoor

/- Plain: where choices settle all, the search needs no more steps than twice as many as there are choices to make; with more steps it comes to the same. No program in sight. -/
namespace Qm

def Settles (N M : Nat) (cs : List (List Int)) : Prop := ∀ w, Fine N w → Closed cs w → (∀ j, j < M → w.getD (j + 1) 0 ≠ 0) → ∀ j, j < N → w.getD (j + 1) 0 ≠ 0
def openM (M : Nat) (v : List Int) : Nat := ((List.range M).filter fun j => v.getD (j + 1) 0 == 0).length
theorem openM_le {M : Nat} {v : List Int} : openM M v ≤ M := by
 unfold openM
 have := List.length_filter_le (fun j => v.getD (j + 1) 0 == 0) (List.range M)
 simpa using this
theorem openM_zero {M : Nat} {v : List Int} (h : openM M v = 0) : ∀ j, j < M → v.getD (j + 1) 0 ≠ 0 := by
 intro j hj e
 have h0 := List.length_eq_zero_iff.1 h
 have : j ∈ (List.range M).filter (fun j => v.getD (j + 1) 0 == 0) := List.mem_filter.2 ⟨List.mem_range.2 hj, by rw [e]; rfl⟩
 rw [h0] at this; cases this
theorem getD_of_vof {v : List Int} {j : Nat} : v.getD (j + 1) 0 = vof v ((j : Int) + 1) := (vof_pos v j).symm
theorem le_getD {N : Nat} {v w : List Int} (h : Le N v w) {j : Nat} (hf : Fine N v) (hj : j < N) (h0 : v.getD (j + 1) 0 ≠ 0) : w.getD (j + 1) 0 ≠ 0 := by
 rw [getD_of_vof] at h0 ⊢
 rcases vof_range hf ((j : Int) + 1) with e | e | e
 ·exact absurd e h0
 ·rw [h _ (lit_pos hj) e]; decide
 ·rw [h.fails (lit_pos hj) e]; decide
theorem openM_lt {N M : Nat} {v w : List Int} (hM : M ≤ N) (hf : Fine N v) (h : Le N v w) {i : Nat} (hi : i < M) (h0 : v.getD (i + 1) 0 = 0) (h1 : w.getD (i + 1) 0 ≠ 0) : openM M w < openM M v := by
 unfold openM
 refine length_filter_lt (x := i) (fun k hk => ?_) (by simpa using h1) (by simpa using h0) (List.mem_range.2 hi)
 by_cases hkN : k < N
 ·by_cases e : v.getD (k + 1) 0 = 0
  ·rw [e]; rfl
  ·exact absurd (by simpa using hk) (le_getD h hf hkN e)
 ·have : v.getD (k + 1) 0 = 0 := by
   rw [List.getD_eq_getElem?_getD, List.getElem?_eq_none (by rw [hf.1]; omega)]; rfl
  rw [this]; rfl
theorem next_open {N M : Nat} {cs : List (List Int)} (hc : ∀ c ∈ cs, IsCl N c) (hM : M ≤ N) {tk : List Int} (ht : ∀ n ∈ tk, IsLit N n) {v : List Int} (hv : followsV N cs tk = some v) {i : Nat} (hi : i < M) (h0 : v.getD (i + 1) 0 = 0) {n : Int} (hn : n = (i : Int) + 1 ∨ n = -((i : Int) + 1)) {v' : List Int} (hv' : followsV N cs (tk ++ [n]) = some v') : openM M v' < openM M v := by
 obtain ⟨_, hf, _⟩ := fol_parts hc ht hv
 have hnl : IsLit N n := by
  rcases hn with rfl | rfl
  ·exact lit_pos (by omega)
  ·exact (lit_pos (by omega)).neg
 have hv0 : vof v n = 0 := by
  rcases hn with rfl | rfl
  ·rw [vof_pos]; exact h0
  ·rw [vof_neg _ _ (by omega), vof_pos, h0]; rfl
 rw [follows_snoc hc ht hv hnl hv0] at hv'
 obtain ⟨_, h2, h3⟩ := spread_closed hc (vset_fine hf n) hv'
 refine openM_lt hM hf ((le_vset hf hnl (by rw [hv0]; decide)).trans h2) hi h0 ?_
 have h4 := h2 n hnl (by rw [vof_vset hf hnl n hnl.1, if_pos rfl])
 rcases hn with rfl | rfl
 ·rw [vof_pos] at h4; rw [h4]; decide
 ·rw [vof_neg _ _ (by omega), vof_pos] at h4
  intro e; rw [e] at h4; exact absurd h4 (by decide)
def Within (st b : Nat) : Res → Prop
 | .out => False
 | .found _ => True
 | .no st' _ => st ≤ st' + b
theorem searchR_steps {N M : Nat} {cs : List (List Int)} (hc : ∀ c ∈ cs, IsCl N c) (hM : M ≤ N) (h60 : M ≤ 60) (hS : Settles N M cs) : ∀ (d g st : Nat) (pf : List (List Int)) (tk : List Int), (∀ n ∈ tk, IsLit N n) → (∀ v, followsV N cs tk = some v → openM M v ≤ d) → tk.length + d ≤ M → N < g + tk.length → 2 ^ (d + 1) ≤ st + 1 →
  Within st (2 ^ (d + 1) - 1) (searchR N cs g st pf tk) := by
 intro d
 induction d with
 | zero =>
  intro g st pf tk ht hz hl hg hst
  obtain ⟨g, rfl⟩ : ∃ k, g = k + 1 := ⟨g - 1, by omega⟩
  rw [searchR, if_neg (by omega)]
  cases hv : followsV N cs tk with
  | none => show st ≤ st - 1 + (2 ^ 1 - 1); omega
  | some v =>
   obtain ⟨hcl, hf, _⟩ := fol_parts hc ht hv
   have hi : idx0 v = none := by
    cases hi : idx0 v with
    | none => rfl
    | some i =>
     obtain ⟨h1, h2, _⟩ := idx0_some hf hi
     exact absurd h2 (hS v hf hcl (openM_zero (by have := hz v hv; omega)) i h1)
   dsimp only
   rw [hi]; exact True.intro
 | succ d ih =>
  intro g st pf tk ht hz hl hg hst
  obtain ⟨g, rfl⟩ : ∃ k, g = k + 1 := ⟨g - 1, by omega⟩
  have hp : 2 ^ (d + 1 + 1) = 2 * 2 ^ (d + 1) := by rw [Nat.pow_succ, Nat.mul_comm]
  have hp1 : 0 < 2 ^ (d + 1) := Nat.two_pow_pos _
  rw [searchR, if_neg (by omega)]
  cases hv : followsV N cs tk with
  | none => show st ≤ st - 1 + (2 ^ (d + 1 + 1) - 1); omega
  | some v =>
   obtain ⟨hcl, hf, _⟩ := fol_parts hc ht hv
   dsimp only
   cases hi : idx0 v with
   | none => exact True.intro
   | some i =>
    obtain ⟨h1, h2, h3⟩ := idx0_some hf hi
    have him : i < M := by
     by_cases him : i < M
     ·exact him
     ·exact absurd h2 (hS v hf hcl (fun j hj => h3 j (by omega)) i h1)
    have lits : ∀ n, (n = (i : Int) + 1 ∨ n = -((i : Int) + 1)) → ∀ x ∈ tk ++ [n], IsLit N x := by
     intro n hn x hx
     rcases List.mem_append.1 hx with hx | hx
     ·exact ht x hx
     ·rw [List.mem_singleton.1 hx]
      rcases hn with rfl | rfl
      ·exact lit_pos h1
      ·exact (lit_pos h1).neg
    have r1 := ih g (st - 1) pf (tk ++ [-((i : Int) + 1)]) (lits _ (.inr rfl)) (fun v' hv' => by have := next_open hc hM ht hv him h2 (.inr rfl) hv'; have := hz v hv; omega) (by simp; omega) (by simp; omega) (by omega)
    dsimp only
    cases hr1 : searchR N cs g (st - 1) pf (tk ++ [-((i : Int) + 1)]) with
    | out => rw [hr1] at r1; exact r1.elim
    | found m => exact True.intro
    | no st1 pf1 =>
     rw [hr1] at r1
     have r1 : st - 1 ≤ st1 + (2 ^ (d + 1) - 1) := r1
     have r2 := ih g st1 pf1 (tk ++ [(i : Int) + 1]) (lits _ (.inl rfl)) (fun v' hv' => by have := next_open hc hM ht hv him h2 (.inl rfl) hv'; have := hz v hv; omega) (by simp; omega) (by simp; omega) (by omega)
     dsimp only
     cases hr2 : searchR N cs g st1 pf1 (tk ++ [(i : Int) + 1]) with
     | out => rw [hr2] at r2; exact r2.elim
     | found m => exact True.intro
     | no st2 pf2 =>
      rw [hr2] at r2
      have r2 : st1 ≤ st2 + (2 ^ (d + 1) - 1) := r2
      show st ≤ st2 + (2 ^ (d + 1 + 1) - 1)
      omega
end Qm

/- A right wish's formula: its size; choices settle all; its models are the sets that may be; the least one. No program in sight. -/
namespace Go.Proofs.YtedbhlgjcnnknaaGreatDoor
open Go.RowKit Qm

def encW (ps : List Pk) (v : Ws) : Dk := encD (chW ps v) ps v.ts v.ms (manyC ps)
/-! ### a right wish's parts -/
theorem flagsBef_ckT {ps : List Pk} : ∀ (j : Nat), flagsBef ps j = ((ps.take j).map fun p => p.fs.length).sum ∨ ps.length < j
 | 0 => .inl rfl
 | j + 1 => by
  by_cases hj : j < ps.length
  ·rcases flagsBef_ckT j with h | h
   ·refine .inl ?_
    rw [List.take_succ_eq_append_getElem hj, List.map_append, List.sum_append, flagsBef, h]
    have : pkOf ps (j : Int) = ps[j] := by
     unfold pkOf
     rw [Int.toNat_natCast, List.getD_eq_getElem?_getD, List.getElem?_eq_getElem hj]; rfl
    rw [this]; simp
   ·omega
  ·exact .inr (by omega)
theorem ckT_sum : ∀ {ps : List Pk} {prev : Option Pk} {n : Nat}, ckT prev n ps = 0 → ps = [] ∨ n + (ps.map fun p => p.fs.length).sum ≤ 14
 | [], _, _, _ => .inl rfl
 | p :: r, prev, n, h => by
  simp only [ckT] at h
  split at h
  ·rename_i h1; exact absurd h h1
  ·split at h
   ·cases h
   ·split at h
    ·cases h
    ·rename_i h3
     refine .inr ?_
     simp only [List.map_cons, List.sum_cons]
     rcases ckT_sum h with rfl | h
     ·simp; omega
     ·omega
theorem tree_parts {ps : List Pk} (h : ckTree ps = 0) : ps.length ≤ 8 ∧ manyC ps ≤ 14 ∧ NdsOk ps := by
 have hm := ckTree_mem h
 unfold ckTree at h
 split at h
 ·cases h
 ·rename_i h8
  refine ⟨by omega, ?_, fun i hi => ?_⟩
  ·unfold manyC
   rcases flagsBef_ckT (ps := ps) ps.length with g | g
   ·rw [g, List.take_length]
    rcases ckT_sum h with rfl | h
    ·simp
    ·exact h
   ·omega
  ·have hp : pkOf ps (i : Int) = ps[i] := by
    unfold pkOf
    rw [Int.toNat_natCast, List.getD_eq_getElem?_getD, List.getElem?_eq_getElem hi]; rfl
   have := pkOk (hm _ (List.getElem_mem hi))
   rw [hp]
   exact ⟨(ckNeed_zero this.nd).2.1, this.sub⟩
theorem ckMask_in {ps : List Pk} : ∀ {ms : List Int} {prev : Option Int}, ckMask ps prev ms = 0 → ∀ k ∈ ms, 0 ≤ k ∧ k < ps.length
 | [], _, _, k, hk => by cases hk
 | x :: r, prev, h, k, hk => by
  simp only [ckMask] at h
  split at h
  ·cases h
  ·split at h
   ·cases h
   ·rcases List.mem_cons.1 hk with rfl | hk
    ·omega
    ·exact ckMask_in h k hk
theorem ckMask_len {ps : List Pk} : ∀ {ms : List Int} {p : Int}, ckMask ps (some p) ms = 0 → p < ps.length → (ms.length : Int) ≤ ps.length - 1 - p
 | [], p, _, hp => by simp; omega
 | x :: r, p, h, hp => by
  simp only [ckMask] at h
  split at h
  ·cases h
  ·split at h
   ·cases h
   ·rename_i h1 h2
    simp only [badPl, decide_eq_true_eq] at h2
    have := ckMask_len h (by omega)
    simp only [List.length_cons]; omega
theorem ckMask_short {ps : List Pk} : ∀ {ms : List Int}, ckMask ps none ms = 0 → ms.length ≤ ps.length
 | [], _ => Nat.zero_le _
 | x :: r, h => by
  simp only [ckMask] at h
  split at h
  ·cases h
  ·split at h
   ·cases h
   ·have := ckMask_len h (by omega)
    simp only [List.length_cons]; omega
structure WishOk (ps : List Pk) (v : Ws) : Prop where
 tree : ckTree ps = 0
 ok : WsOk ps v
 ts : v.ts.length ≤ 6
 ats : ckAts v.ts = 0
 ms : ckMask ps none v.ms = 0
 on : ckOn ps none v.on = 0
theorem wish_parts {ps : List Pk} {v : Ws} (h : ckWish ps v = 0) : WishOk ps v := by
 unfold ckWish at h
 split at h
 ·rename_i h1; exact absurd h h1
 ·rename_i h1
  have h1 : ckSet ps v.ins = 0 := by simpa using h1
  unfold ckSet at h1
  split at h1
  ·rename_i h2; exact absurd h1 h2
  ·rename_i h2
   unfold ckWishR at h
   split at h
   ·cases h
   ·split at h
    ·rename_i h3; exact absurd h h3
    ·split at h
     ·rename_i h4; exact absurd h h4
     ·rename_i h3 h4 h5
      exact ⟨by simpa using h2, ⟨h1⟩, by omega, by simpa using h4, by simpa using h5, h⟩
/-! ### what the formula is -/
theorem setOfM_congr {X : Chs} {ps : List Pk} {M : Nat} {K : List (Int × Int)} (hX : ChsOk ps M X K) {m m' : List Bool} (he : ∀ j, j < M → m.getD j false = m'.getD j false) : setOfM X ps m = setOfM X ps m' := by
 unfold setOfM takenM
 have h1 : (List.range ps.length).filter (fun i => litHolds m (X.pick i)) = (List.range ps.length).filter fun i => litHolds m' (X.pick i) := by
  refine List.filter_congr fun i hi => ?_
  rw [litHolds_take he (hX.pick i (List.mem_range.1 hi))]
 rw [h1]
 refine List.map_congr_left fun i hi => ?_
 have hi := (List.mem_range.1 (List.mem_filter.1 hi).1)
 unfold memM
 congr 1
 refine List.map_congr_left fun k hk => ?_
 exact litHolds_take he (hX.on i hi k (List.mem_range.1 hk))
structure EncOk (ps : List Pk) (v : Ws) (N : Nat) (cs : List (List Int)) : Prop where
 n400 : N ≤ 400
 many : manyC ps ≤ N
 many14 : manyC ps ≤ 14
 len : cs.length ≤ 4000
 cl : ∀ c ∈ cs, IsCl N c ∧ c.length ≤ 60
 settles : Settles N (manyC ps) cs
 sound : ∀ m, holdsF m cs = true → validP ps v.ts v.ms (setOfM (chW ps v) ps m) = true
 ext : ∀ m0 : List Bool, m0.length = manyC ps → validP ps v.ts v.ms (setOfM (chW ps v) ps m0) = true → ∃ m : List Bool, m.length = N ∧ (∀ j, j < manyC ps → m.getD j false = m0.getD j false) ∧ holdsF m cs = true
 one : ∀ m m' : List Bool, (∀ j, j < manyC ps → m.getD j false = m'.getD j false) → holdsF m cs = true → holdsF m' cs = true → ∀ j, j < N → m.getD j false = m'.getD j false
theorem encW_ok {ps : List Pk} {v : Ws} (h : ckWish ps v = 0) : EncOk ps v (encW ps v).vars (encW ps v).cls := by
 have W := wish_parts h
 obtain ⟨h8, h14, hN⟩ := tree_parts W.tree
 have hX := chW_ok W.ok
 have hm := ckMask_in W.ms
 have hms := ckMask_short W.ms
 have hts := W.ts
 obtain ⟨gs, hs, hb, hq, hv, hc, hl⟩ := encD_ok (ts := v.ts) hX h8 hN hm
 rw [keysW_len] at hv hc
 have hF : ps.length + flagsBef ps ps.length ≤ 14 := h14
 have hon : ∀ i, i < ps.length → ∀ k, k < (pkOf ps i).fs.length → (chW ps v).on i k ≠ 0 := fun i hi k hk => (hX.on i hi k hk).1
 have hval := fun m => validM_iff (m := m) hon hN (ts := v.ts) hm
 refine ⟨?_, hb.le, h14, ?_, fun c hcc => ⟨hb.cl c hcc, hl c hcc⟩, fun w hw hcl h0 => hb.total hw (Nat.le_refl _) hcl h0, fun m hm1 => ?_, fun m0 hl0 hv0 => ?_, fun m m' he h1 h2 => hb.one_ he (hb.holds.1 h1).1 (hb.holds.1 h2).1⟩
 ·show (encD (chW ps v) ps v.ts v.ms (manyC ps)).vars ≤ 400
  unfold manyC at hv ⊢; omega
 ·show (encD (chW ps v) ps v.ts v.ms (manyC ps)).cls.length ≤ 4000
  omega
 ·obtain ⟨g1, g2⟩ := hb.holds.1 hm1
  rw [← hval m, ← hq m g1]; exact g2
 ·obtain ⟨m, e1, e2, e3⟩ := hb.ext m0 hl0
  refine ⟨m, e1, e2, hb.holds.2 ⟨e3, ?_⟩⟩
  rw [hq m e3, hval m, setOfM_congr hX e2]
  exact hv0
/-! ### what follows from choices -/
/-! ### the least -/
theorem lex_first {m m' : List Bool} {n : Nat} (h : ∃ j, j < n ∧ m.getD j false ≠ m'.getD j false) : ∃ k, k < n ∧ m.getD k false ≠ m'.getD k false ∧ ∀ j, j < k → m.getD j false = m'.getD j false := by
 induction n with
 | zero => obtain ⟨j, hj, _⟩ := h; omega
 | succ n ih =>
  by_cases h2 : ∃ j, j < n ∧ m.getD j false ≠ m'.getD j false
  ·obtain ⟨k, h1, h3⟩ := ih h2; exact ⟨k, by omega, h3⟩
  ·obtain ⟨j, hj, hne⟩ := h
   have : j = n := by
    by_cases e : j < n
    ·exact absurd ⟨j, e, hne⟩ h2
    ·omega
   subst this
   exact ⟨j, by omega, hne, fun i hi => Classical.byContradiction fun e => h2 ⟨i, hi, e⟩⟩
theorem setOfM_ck {ps : List Pk} {X : Chs} {m : List Bool} (hp : ∀ i, i < ps.length → True) : ckMs ps none (setOfM X ps m) = 0 := by
 have key : ∀ (t : List Nat) (prev : Option Int), t.Pairwise (· < ·) → (∀ i ∈ t, i < ps.length) → (∀ q, prev = some q → ∀ i ∈ t, q < (i : Int)) → ckMs ps prev (t.map (memM X ps m)) = 0 := by
  intro t
  induction t with
  | nil => intro _ _ _ _; rfl
  | cons i r ih =>
   intro prev hs hr hq
   rw [List.pairwise_cons] at hs
   rw [List.map_cons]
   show (if (i : Int) < 0 ∨ (ps.length : Int) ≤ (i : Int) then (5 : Int) else if badPl prev (i : Int) = true then 6 else if (memM X ps m i).on.length ≠ (pkOf ps (i : Int)).fs.length then 4 else ckMs ps (some (i : Int)) (r.map (memM X ps m))) = 0
   have hi := hr i (List.mem_cons_self ..)
   rw [if_neg (by omega), if_neg, if_neg (by unfold memM; simp)]
   ·exact ih _ hs.2 (fun j hj => hr j (List.mem_cons_of_mem _ hj)) (fun q hq' j hj => by
     injection hq' with hq'; have := hs.1 j hj; omega)
   ·cases hpv : prev with
    | none => simp [badPl]
    | some q =>
     have := hq q hpv i (List.mem_cons_self ..)
     simp only [badPl, decide_eq_true_eq]; omega
 exact key _ _ taken_sorted (fun i hi => (mem_taken.1 hi).1) (fun q h => by cases h)
theorem chVec_le {ps : List Pk} {v : Ws} (hv : WsOk ps v) {m : List Bool} {x : Nat} (hx : x < manyC ps) (h : (chVec ps v (setOfM (chW ps v) ps m)).getD x false = true) : m.getD x false = true := by
 rw [chVec_at hx] at h
 have hr := setOfM_rise (ps := ps) (X := chW ps v) (m := m)
 have hat : ∀ i, i < ps.length → atP (setOfM (chW ps v) ps m) i = if litHolds m ((chW ps v).pick i) = true then some (memM (chW ps v) ps m i) else none := by
  intro i hi
  by_cases ht : litHolds m ((chW ps v).pick i) = true
  ·rw [if_pos ht]
   have := atP_of hr (mem_setOfM.2 ⟨i, hi, ht, rfl⟩) (by show (0 : Int) ≤ (i : Int); omega)
   simpa [memM] using this
  ·rw [if_neg ht]
   cases ha : atP (setOfM (chW ps v) ps m) i with
   | none => rfl
   | some y =>
    obtain ⟨a1, a2⟩ := atP_mem ha
    obtain ⟨j, b1, b2, rfl⟩ := mem_setOfM.1 a1
    have a2 : (j : Int) = (i : Int) := a2
    obtain rfl : j = i := by omega
    exact absurd b2 ht
 rcases var_owner hv hx with ⟨i, hi, rfl⟩ | ⟨i, k, hi, hk, rfl⟩
 ·rw [chVal_pick hv hi, hat i hi] at h
  have hp := litHolds_pick (ps := ps) (v := v) (m := m) i
  by_cases ht : litHolds m ((chW ps v).pick i) = true
  ·rw [if_pos ht] at h
   rw [ht] at hp
   revert h hp
   cases m.getD (ixP (ordP v.ins ps.length) i) false <;> cases (insP v.ins).contains i <;> simp
  ·rw [if_neg ht] at h
   have ht : litHolds m ((chW ps v).pick i) = false := by simpa using ht
   rw [ht] at hp
   revert h hp
   cases m.getD (ixP (ordP v.ins ps.length) i) false <;> cases (insP v.ins).contains i <;> simp
 ·rw [chVal_on hi hk, hat i hi] at h
  by_cases ht : litHolds m ((chW ps v).pick i) = true
  ·rw [if_pos ht] at h
   dsimp only at h
   rw [memM_on hk, litHolds_on] at h
   revert h
   cases m.getD (ps.length + flagsBef ps i + k) false <;> cases v.on.contains ((i : Int), (k : Int)) <;> simp
  ·rw [if_neg ht] at h; cases h
theorem least_choices {ps : List Pk} {v : Ws} {N : Nat} {cs : List (List Int)} (E : EncOk ps v N cs) (hv : WsOk ps v) {m : List Bool} (hh : holdsF m cs = true) (hleast : ∀ m' : List Bool, m'.length = N → holdsF m' cs = true → LexLe m m') :
  ∀ j, j < manyC ps → m.getD j false = (chVec ps v (setOfM (chW ps v) ps m)).getD j false := by
 have hset := setOf_chVec hv (setOfM_ck (ps := ps) (X := chW ps v) (m := m) fun _ _ => True.intro)
 obtain ⟨m', e1, e2, e3⟩ := E.ext (chVec ps v (setOfM (chW ps v) ps m)) chVec_len (by rw [hset]; exact E.sound m hh)
 have hl := hleast m' e1 e3
 intro j hj
 refine Classical.byContradiction fun hne => ?_
 obtain ⟨k, k1, k2, k3⟩ := lex_first ⟨j, hj, hne⟩
 have hm0 := hl k (fun i hi => by rw [e2 i (by omega)]; exact k3 i hi) (by rw [e2 k k1]; exact k2)
 cases hc : (chVec ps v (setOfM (chW ps v) ps m)).getD k false
 ·rw [hm0, hc] at k2; exact k2 rfl
 ·rw [chVec_le hv k1 hc] at hm0; cases hm0
end Go.Proofs.YtedbhlgjcnnknaaGreatDoor
