/- Parts of the proof: walks and plain laws, side by side. -/
import Derived.Test.YtedbhlgjcnnknaaGreatDoorP3
import Derived.Test.YtedbhlgjcnnknaaGreatDoorP2
import Derived.Test.YtedbhlgjcnnknaaGreatDoorP1
import Derived.WalkSpells
import Derived.Lib.AppendZerosOnto
import Derived.Lib.Walk
import Derived.Maps.AppendAt
import Derived.LoopN
import Derived.WideKeyPair
import Derived.DeepKeys4
set_option linter.unusedVariables false
set_option linter.unusedSimpArgs false
set_option linter.unusedSectionVars false
set_option maxRecDepth 100000
set_option maxHeartbeats 12800000
namespace Go.Proofs.YtedbhlgjcnnknaaGreatDoor
open Go.RowKit Qm
def insP (ins : List Mem) : List Nat := ins.map fun m => m.pl.toNat
def freeP (ins : List Mem) (n : Nat) : List Nat := (List.range n).filter fun i => !(insP ins).contains i
def ordP (ins : List Mem) (n : Nat) : List Nat := insP ins ++ freeP ins n
def ixP (l : List Nat) (i : Nat) : Nat := l.findIdx (fun j => j == i)
theorem ixP_lt {l : List Nat} {i : Nat} (h : i ∈ l) : ixP l i < l.length := by
  unfold ixP; rw [List.findIdx_lt_length]; exact ⟨i, h, by simp⟩
theorem ixP_at {l : List Nat} {i : Nat} (h : i ∈ l) : l[ixP l i]? = some i := by
  have hl := ixP_lt h
  rw [List.getElem?_eq_getElem hl]
  congr 1
  have := List.findIdx_getElem (p := fun j => j == i) (xs := l) (w := hl)
  exact eq_of_beq this
theorem ixP_of {l : List Nat} (hn : l.Nodup) {i j : Nat} (h : l[j]? = some i) : ixP l i = j := by
  have hm := List.mem_of_getElem? h
  have h2 := ixP_at hm
  obtain ⟨q1, q2⟩ := List.getElem?_eq_some_iff.1 h
  obtain ⟨r1, r2⟩ := List.getElem?_eq_some_iff.1 h2
  have := List.pairwise_iff_getElem.1 hn
  rcases Nat.lt_trichotomy (ixP l i) j with g | g | g
  · exact absurd (r2.trans q2.symm) (this _ _ r1 q1 g)
  · exact g
  · exact absurd (q2.trans r2.symm) (this _ _ q1 r1 g)
def flagsBef (ps : List Pk) : Nat → Nat
  | 0 => 0
  | i + 1 => flagsBef ps i + (pkOf ps i).fs.length
def manyC (ps : List Pk) : Nat := ps.length + flagsBef ps ps.length
theorem flagsBef_mono {ps : List Pk} {i : Nat} : ∀ {j : Nat}, i ≤ j → flagsBef ps i ≤ flagsBef ps j
  | 0, h => by obtain rfl : i = 0 := by omega
               exact Nat.le_refl _
  | j + 1, h => by
    by_cases e : i = j + 1
    · subst e; exact Nat.le_refl _
    · have := flagsBef_mono (ps := ps) (i := i) (j := j) (by omega)
      simp only [flagsBef]; omega
theorem flagsBef_lt {ps : List Pk} {i j k : Nat} (h : i < j) (hk : k < (pkOf ps i).fs.length) : flagsBef ps i + k < flagsBef ps j := by
  have := flagsBef_mono (ps := ps) (i := i + 1) (j := j) (by omega)
  simp only [flagsBef] at this; omega
theorem flag_owner {ps : List Pk} : ∀ {n v : Nat}, v < flagsBef ps n → ∃ i k, i < n ∧ k < (pkOf ps i).fs.length ∧ flagsBef ps i + k = v
  | 0, v, h => by simp [flagsBef] at h
  | n + 1, v, h => by
    simp only [flagsBef] at h
    by_cases g : v < flagsBef ps n
    · obtain ⟨i, k, h1, h2, h3⟩ := flag_owner g
      exact ⟨i, k, by omega, h2, h3⟩
    · exact ⟨n, v - flagsBef ps n, by omega, by omega, by omega⟩
theorem flag_owner_one {ps : List Pk} {i j k q : Nat} (hk : k < (pkOf ps i).fs.length) (hq : q < (pkOf ps j).fs.length) (h : flagsBef ps i + k = flagsBef ps j + q) : i = j ∧ k = q := by
  rcases Nat.lt_trichotomy i j with g | g | g
  · have := flagsBef_lt g hk; omega
  · subst g; exact ⟨rfl, by omega⟩
  · have := flagsBef_lt g hq; omega
def chW (ps : List Pk) (v : Ws) : Chs where
  pick i := if (insP v.ins).contains i = true then -((ixP (ordP v.ins ps.length) i : Int) + 1) else (ixP (ordP v.ins ps.length) i : Int) + 1
  on i k := if v.on.contains ((i : Int), (k : Int)) = true then -((ps.length + flagsBef ps i + k : Int) + 1) else (ps.length + flagsBef ps i + k : Int) + 1
structure WsOk (ps : List Pk) (v : Ws) : Prop where
  ins : ckMs ps none v.ins = 0
theorem insP_mem {ps : List Pk} {v : Ws} (h : WsOk ps v) : ∀ i ∈ insP v.ins, i < ps.length := by
  intro i hi
  obtain ⟨m, hm, rfl⟩ := List.mem_map.1 hi
  obtain ⟨h1, h2, _⟩ := ckMs_mem h.ins m hm
  omega
theorem insP_rise {ps : List Pk} {l : List Mem} (h : ckMs ps none l = 0) : (insP l).Pairwise (· < ·) := by
  have h2 := (ckMs_rises h).2
  unfold insP
  rw [List.pairwise_map] at h2 ⊢
  exact h2.imp_of_mem fun {a b} ha hb hab => by
    have := (ckMs_mem h a ha).1
    have := (ckMs_mem h b hb).1
    omega
theorem ordP_nodup {ps : List Pk} {v : Ws} (h : WsOk ps v) : (ordP v.ins ps.length).Nodup := by
  unfold ordP
  rw [List.nodup_append]
  refine ⟨(insP_rise h.ins).imp fun hab => Nat.ne_of_lt hab, ?_, ?_⟩
  · unfold freeP; exact (List.nodup_range).filter _
  · rintro a ha b hb rfl
    unfold freeP at hb
    have := (List.mem_filter.1 hb).2
    rw [List.contains_iff_mem.2 ha] at this; cases this
theorem mem_ordP {ps : List Pk} {v : Ws} (h : WsOk ps v) {i : Nat} : i ∈ ordP v.ins ps.length ↔ i < ps.length := by
  unfold ordP freeP
  rw [List.mem_append, List.mem_filter, List.mem_range]
  constructor
  · rintro (g | g)
    · exact insP_mem h i g
    · exact g.1
  · intro hi
    by_cases hc : i ∈ insP v.ins
    · exact .inl hc
    · refine .inr ⟨hi, ?_⟩
      cases hb : (insP v.ins).contains i
      · rfl
      · exact absurd (List.contains_iff_mem.1 hb) hc
theorem len_of_full : ∀ {n : Nat} {l : List Nat}, l.Nodup → (∀ i, i ∈ l ↔ i < n) → l.length = n := by
  intro n l hn hm
  have h1 : l.Perm (List.range n) := by
    rw [List.perm_ext_iff_of_nodup hn List.nodup_range]
    intro a; rw [hm a, List.mem_range]
  rw [h1.length_eq, List.length_range]
theorem ordP_len {ps : List Pk} {v : Ws} (h : WsOk ps v) : (ordP v.ins ps.length).length = ps.length := len_of_full (ordP_nodup h) fun _ => mem_ordP h
def keysW (ps : List Pk) (v : Ws) : List (Int × Int) :=
  (List.range ps.length).flatMap fun (i : Nat) => (List.range (pkOf ps i).fs.length).flatMap fun k => [((chW ps v).pick i, (chW ps v).on i k), ((chW ps v).pick i, -(chW ps v).on i k)]
theorem keysW_len {ps : List Pk} {v : Ws} : (keysW ps v).length = 2 * flagsBef ps ps.length := by
  unfold keysW
  have h2 : ∀ (x : Int) (f : Nat → Int) (n : Nat), ((List.range n).flatMap fun k => [(x, f k), (x, -f k)]).length = 2 * n := by
    intro x f n
    induction n with
    | zero => rfl
    | succ n ih => rw [List.range_succ, List.flatMap_append, List.length_append, ih]; simp; omega
  have : ∀ n, ((List.range n).flatMap fun (i : Nat) => (List.range (pkOf ps i).fs.length).flatMap fun k => [((chW ps v).pick i, (chW ps v).on i k), ((chW ps v).pick i, -(chW ps v).on i k)]).length = 2 * flagsBef ps n := by
    intro n
    induction n with
    | zero => rfl
    | succ n ih =>
      rw [List.range_succ, List.flatMap_append, List.length_append, ih]
      simp only [List.flatMap_cons, List.flatMap_nil, List.append_nil]
      rw [h2]; simp only [flagsBef]; omega
  exact this _
section
variable {ps : List Pk} {v : Ws}
theorem pick_abs (i : Nat) : ((chW ps v).pick i).natAbs = ixP (ordP v.ins ps.length) i + 1 := by
  unfold chW; dsimp only; split <;> omega
theorem on_abs (i k : Nat) : ((chW ps v).on i k).natAbs = ps.length + flagsBef ps i + k + 1 := by
  unfold chW; dsimp only; split <;> omega
theorem chW_ok (h : WsOk ps v) : ChsOk ps (manyC ps) (chW ps v) (keysW ps v) where
  pick i hi := by
    have h1 := pick_abs (ps := ps) (v := v) i
    have h2 := ixP_lt ((mem_ordP h).2 hi)
    rw [ordP_len h] at h2
    exact ⟨by intro e; rw [e] at h1; simp at h1, by unfold manyC; omega⟩
  on i hi k hk := by
    have h1 := on_abs (ps := ps) (v := v) i k
    have h2 := flagsBef_lt hi hk
    exact ⟨by intro e; rw [e] at h1; simp at h1, by unfold manyC; omega⟩
  keys i hi k hk := by
    unfold keysW
    constructor
    · exact List.mem_flatMap.2 ⟨i, List.mem_range.2 hi, List.mem_flatMap.2 ⟨k, List.mem_range.2 hk, by simp⟩⟩
    · exact List.mem_flatMap.2 ⟨i, List.mem_range.2 hi, List.mem_flatMap.2 ⟨k, List.mem_range.2 hk, by simp⟩⟩
theorem pick_pos (i : Nat) : decide (0 < (chW ps v).pick i) = !(insP v.ins).contains i := by
  by_cases hc : (insP v.ins).contains i = true
  · rw [hc]; refine decide_eq_false ?_
    show ¬ 0 < (if (insP v.ins).contains i = true then -((ixP (ordP v.ins ps.length) i : Int) + 1) else (ixP (ordP v.ins ps.length) i : Int) + 1)
    rw [if_pos hc]; omega
  · have hf : (insP v.ins).contains i = false := by simpa using hc
    rw [hf]; refine decide_eq_true ?_
    show 0 < (if (insP v.ins).contains i = true then -((ixP (ordP v.ins ps.length) i : Int) + 1) else (ixP (ordP v.ins ps.length) i : Int) + 1)
    rw [if_neg hc]; omega
theorem on_pos (i k : Nat) : decide (0 < (chW ps v).on i k) = !v.on.contains ((i : Int), (k : Int)) := by
  by_cases hc : v.on.contains ((i : Int), (k : Int)) = true
  · rw [hc]; refine decide_eq_false ?_
    show ¬ 0 < (if v.on.contains ((i : Int), (k : Int)) = true then -((ps.length + flagsBef ps i + k : Int) + 1) else (ps.length + flagsBef ps i + k : Int) + 1)
    rw [if_pos hc]; omega
  · have hf : v.on.contains ((i : Int), (k : Int)) = false := by simpa using hc
    rw [hf]; refine decide_eq_true ?_
    show 0 < (if v.on.contains ((i : Int), (k : Int)) = true then -((ps.length + flagsBef ps i + k : Int) + 1) else (ps.length + flagsBef ps i + k : Int) + 1)
    rw [if_neg hc]; omega
theorem litHolds_pick {m : List Bool} (i : Nat) : litHolds m ((chW ps v).pick i) = (m.getD (ixP (ordP v.ins ps.length) i) false != (insP v.ins).contains i) := by
  unfold litHolds
  rw [pick_abs, Nat.add_sub_cancel, pick_pos]
  cases m.getD (ixP (ordP v.ins ps.length) i) false <;> cases (insP v.ins).contains i <;> rfl
theorem litHolds_on {m : List Bool} (i k : Nat) : litHolds m ((chW ps v).on i k) = (m.getD (ps.length + flagsBef ps i + k) false != v.on.contains ((i : Int), (k : Int))) := by
  unfold litHolds
  rw [on_abs, Nat.add_sub_cancel, on_pos]
  cases m.getD (ps.length + flagsBef ps i + k) false <;> cases v.on.contains ((i : Int), (k : Int)) <;> rfl
def atP (l : List Mem) (i : Nat) : Option Mem := l.find? fun m => decide (m.pl = (i : Int))
def chVal (ps : List Pk) (v : Ws) (l : List Mem) (x : Nat) : Bool :=
  if x < ps.length then (match (ordP v.ins ps.length)[x]? with
    | some i => (atP l i).isSome != (insP v.ins).contains i
    | none => false)
  else ((List.range ps.length).any fun i => (List.range (pkOf ps i).fs.length).any fun k => decide (ps.length + flagsBef ps i + k = x) && (match atP l i with
    | some m => onOf m.on k != v.on.contains ((i : Int), (k : Int))
    | none => false))
def chVec (ps : List Pk) (v : Ws) (l : List Mem) : List Bool := (List.range (manyC ps)).map (chVal ps v l)
theorem chVec_len {l : List Mem} : (chVec ps v l).length = manyC ps := by unfold chVec; simp
theorem chVec_at {l : List Mem} {x : Nat} (hx : x < manyC ps) : (chVec ps v l).getD x false = chVal ps v l x := by
  unfold chVec
  rw [List.getD_eq_getElem?_getD, List.getElem?_map, List.getElem?_range hx]; rfl
theorem chVal_pick (h : WsOk ps v) {l : List Mem} {i : Nat} (hi : i < ps.length) : chVal ps v l (ixP (ordP v.ins ps.length) i) = ((atP l i).isSome != (insP v.ins).contains i) := by
  have hm := (mem_ordP h).2 hi
  have h2 := ixP_lt hm
  rw [ordP_len h] at h2
  unfold chVal
  rw [if_pos h2, ixP_at hm]
theorem chVal_on {l : List Mem} {i k : Nat} (hi : i < ps.length) (hk : k < (pkOf ps i).fs.length) : chVal ps v l (ps.length + flagsBef ps i + k) = (match atP l i with
    | some m => onOf m.on k != v.on.contains ((i : Int), (k : Int))
    | none => false) := by
  unfold chVal
  rw [if_neg (by omega), Bool.eq_iff_iff, List.any_eq_true]
  constructor
  · rintro ⟨j, hj, h⟩
    obtain ⟨q, hq, h⟩ := List.any_eq_true.1 h
    rw [Bool.and_eq_true, decide_eq_true_eq] at h
    obtain ⟨rfl, rfl⟩ := flag_owner_one (List.mem_range.1 hq) hk (by omega)
    exact h.2
  · intro h
    exact ⟨i, List.mem_range.2 hi, List.any_eq_true.2 ⟨k, List.mem_range.2 hk, by rw [decide_eq_true rfl, Bool.true_and]; exact h⟩⟩
theorem var_owner (h : WsOk ps v) {x : Nat} (hx : x < manyC ps) : (∃ i, i < ps.length ∧ x = ixP (ordP v.ins ps.length) i) ∨ ∃ i k, i < ps.length ∧ k < (pkOf ps i).fs.length ∧ x = ps.length + flagsBef ps i + k := by
  by_cases hn : x < ps.length
  · have hl : x < (ordP v.ins ps.length).length := by rw [ordP_len h]; exact hn
    have hg : (ordP v.ins ps.length)[x]? = some ((ordP v.ins ps.length)[x]) := List.getElem?_eq_getElem hl
    exact .inl ⟨_, (mem_ordP h).1 (List.mem_of_getElem? hg), (ixP_of (ordP_nodup h) hg).symm⟩
  · unfold manyC at hx
    obtain ⟨i, k, h1, h2, h3⟩ := flag_owner (ps := ps) (n := ps.length) (v := x - ps.length) (by omega)
    exact .inr ⟨i, k, h1, h2, by omega⟩
theorem atP_mem {l : List Mem} {i : Nat} {m : Mem} (h : atP l i = some m) : m ∈ l ∧ m.pl = (i : Int) := by
  unfold atP at h
  exact ⟨List.mem_of_find?_eq_some h, by simpa using List.find?_some h⟩
theorem atP_of {l : List Mem} (hr : (l.map Mem.pl).Pairwise (· < ·)) {m : Mem} (hm : m ∈ l) (h0 : 0 ≤ m.pl) : atP l m.pl.toNat = some m := by
  unfold atP
  cases h : l.find? fun x => decide (x.pl = (m.pl.toNat : Int)) with
  | none =>
    have := List.find?_eq_none.1 h m hm
    simp only [decide_eq_true_eq] at this
    omega
  | some x =>
    have hx := List.mem_of_find?_eq_some h
    have hxp : x.pl = (m.pl.toNat : Int) := by simpa using List.find?_some h
    have hxm : x.pl = m.pl := by omega
    congr 1
    rw [List.pairwise_map] at hr
    obtain ⟨a, ha, rfl⟩ := List.mem_iff_getElem.1 hx
    obtain ⟨b, hb, rfl⟩ := List.mem_iff_getElem.1 hm
    have hp := List.pairwise_iff_getElem.1 hr
    rcases Nat.lt_trichotomy a b with g | g | g
    · have := hp a b ha hb g; omega
    · subst g; rfl
    · have := hp b a hb ha g; omega
theorem atP_sorted : ∀ {l l' : List Mem}, (l.map Mem.pl).Pairwise (· < ·) → (l'.map Mem.pl).Pairwise (· < ·) → (∀ m ∈ l, 0 ≤ m.pl) → (∀ m ∈ l', 0 ≤ m.pl) → (∀ m, m ∈ l ↔ m ∈ l') → l = l'
  | [], [], _, _, _, _, _ => rfl
  | [], y :: r, _, _, _, _, h => absurd ((h y).2 (List.mem_cons_self ..)) (by simp)
  | x :: r, [], _, _, _, _, h => absurd ((h x).1 (List.mem_cons_self ..)) (by simp)
  | x :: r, y :: r', h1, h2, p1, p2, h => by
    simp only [List.map_cons, List.pairwise_cons] at h1 h2
    have hxy : x = y := by
      rcases List.mem_cons.1 ((h x).1 (List.mem_cons_self ..)) with e | hx
      · exact e
      · rcases List.mem_cons.1 ((h y).2 (List.mem_cons_self ..)) with e | hy
        · exact e.symm
        · have g1 := h2.1 x.pl (List.mem_map.2 ⟨x, hx, rfl⟩)
          have g2 := h1.1 y.pl (List.mem_map.2 ⟨y, hy, rfl⟩)
          omega
    subst hxy
    congr 1
    refine atP_sorted h1.2 h2.2 (fun m hm => p1 m (List.mem_cons_of_mem _ hm)) (fun m hm => p2 m (List.mem_cons_of_mem _ hm)) fun m => ?_
    constructor
    · intro hm
      rcases List.mem_cons.1 ((h m).1 (List.mem_cons_of_mem _ hm)) with e | hm'
      · subst e; have := h1.1 m.pl (List.mem_map.2 ⟨m, hm, rfl⟩); omega
      · exact hm'
    · intro hm
      rcases List.mem_cons.1 ((h m).2 (List.mem_cons_of_mem _ hm)) with e | hm'
      · subst e; have := h2.1 m.pl (List.mem_map.2 ⟨m, hm, rfl⟩); omega
      · exact hm'
theorem setOfM_rise {X : Chs} {m : List Bool} : ((setOfM X ps m).map Mem.pl).Pairwise (· < ·) := by
  unfold setOfM
  rw [List.map_map, List.pairwise_map]
  exact (taken_sorted (X := X) (ps := ps) (m := m)).imp fun {a b} hab => by show (a : Int) < (b : Int); omega
theorem mem_setOfM {X : Chs} {m : List Bool} {x : Mem} : x ∈ setOfM X ps m ↔ ∃ i, i < ps.length ∧ litHolds m (X.pick i) = true ∧ x = memM X ps m i := by
  unfold setOfM
  rw [List.mem_map]
  exact ⟨fun ⟨i, hi, e⟩ => ⟨i, (mem_taken.1 hi).1, (mem_taken.1 hi).2, e.symm⟩, fun ⟨i, h1, h2, e⟩ => ⟨i, mem_taken.2 ⟨h1, h2⟩, e.symm⟩⟩
theorem setOf_chVec (h : WsOk ps v) {l : List Mem} (hl : ckMs ps none l = 0) : setOfM (chW ps v) ps (chVec ps v l) = l := by
  have hr := (ckMs_rises hl).2
  have hpick : ∀ i, i < ps.length → litHolds (chVec ps v l) ((chW ps v).pick i) = (atP l i).isSome := by
    intro i hi
    have h2 := ixP_lt ((mem_ordP h).2 hi)
    rw [ordP_len h] at h2
    rw [litHolds_pick, chVec_at (by unfold manyC; omega), chVal_pick h hi]
    cases (atP l i).isSome <;> cases (insP v.ins).contains i <;> rfl
  have hmem : ∀ i x, i < ps.length → atP l i = some x → memM (chW ps v) ps (chVec ps v l) i = x := by
    intro i x hi hx
    obtain ⟨h1, h2⟩ := atP_mem hx
    obtain ⟨_, _, h3⟩ := ckMs_mem hl x h1
    obtain ⟨pl, on⟩ := x
    dsimp only at h2 h3
    subst h2
    unfold memM
    congr 1
    refine List.ext_getElem (by simp [h3]) fun k hk1 hk2 => ?_
    simp only [List.length_map, List.length_range] at hk1
    simp only [List.getElem_map, List.getElem_range]
    have h4 := flagsBef_lt hi hk1
    rw [litHolds_on, chVec_at (by unfold manyC; omega), chVal_on hi hk1, hx]
    dsimp only
    unfold onOf
    rw [List.getD_eq_getElem?_getD, List.getElem?_eq_getElem hk2]
    simp only [Option.getD_some]
    cases on[k] <;> cases v.on.contains ((i : Int), (k : Int)) <;> rfl
  refine atP_sorted setOfM_rise hr (fun m hm => ?_) (fun m hm => (ckMs_mem hl m hm).1) fun m => ?_
  · obtain ⟨i, _, _, rfl⟩ := mem_setOfM.1 hm
    show (0 : Int) ≤ (i : Int); omega
  · rw [mem_setOfM]
    constructor
    · rintro ⟨i, h1, h2, rfl⟩
      rw [hpick i h1, Option.isSome_iff_exists] at h2
      obtain ⟨x, hx⟩ := h2
      rw [hmem i x h1 hx]
      exact (atP_mem hx).1
    · intro hm
      obtain ⟨h0, h1, _⟩ := ckMs_mem hl m hm
      have ha := atP_of hr hm h0
      exact ⟨m.pl.toNat, by omega, by rw [hpick _ (by omega), ha]; rfl, (hmem _ _ (by omega) ha).symm⟩
end
end Go.Proofs.YtedbhlgjcnnknaaGreatDoor

namespace Qm
def Settles (N M : Nat) (cs : List (List Int)) : Prop := ∀ w, Fine N w → Closed cs w → (∀ j, j < M → w.getD (j + 1) 0 ≠ 0) → ∀ j, j < N → w.getD (j + 1) 0 ≠ 0
end Qm

namespace Go.Proofs.YtedbhlgjcnnknaaGreatDoor
open Go.RowKit Qm
def encW (ps : List Pk) (v : Ws) : Dk := encD (chW ps v) ps v.ts v.ms (manyC ps)
theorem flagsBef_ckT {ps : List Pk} : ∀ (j : Nat), flagsBef ps j = ((ps.take j).map fun p => p.fs.length).sum ∨ ps.length < j
 | 0 => .inl rfl
 | j + 1 => by
  by_cases hj : j < ps.length
  ·rcases flagsBef_ckT j with h | h
   ·refine .inl ?_
    rw [List.take_succ_eq_append_getElem hj, List.map_append, List.sum_append, flagsBef, h]
    have : pkOf ps (j : Int) = ps[j] := by
     unfold pkOf
     rw [Int.toNat_natCast, List.getD_eq_getElem?_getD, List.getElem?_eq_getElem hj]; rfl
    rw [this]; simp
   ·omega
  ·exact .inr (by omega)
theorem ckT_sum : ∀ {ps : List Pk} {prev : Option Pk} {n : Nat}, ckT prev n ps = 0 → ps = [] ∨ n + (ps.map fun p => p.fs.length).sum ≤ 14
 | [], _, _, _ => .inl rfl
 | p :: r, prev, n, h => by
  simp only [ckT] at h
  split at h
  ·rename_i h1; exact absurd h h1
  ·split at h
   ·cases h
   ·split at h
    ·cases h
    ·rename_i h3
     refine .inr ?_
     simp only [List.map_cons, List.sum_cons]
     rcases ckT_sum h with rfl | h
     ·simp; omega
     ·omega
theorem tree_parts {ps : List Pk} (h : ckTree ps = 0) : ps.length ≤ 8 ∧ manyC ps ≤ 14 ∧ NdsOk ps := by
 have hm := ckTree_mem h
 unfold ckTree at h
 split at h
 ·cases h
 ·rename_i h8
  refine ⟨by omega, ?_, fun i hi => ?_⟩
  ·unfold manyC
   rcases flagsBef_ckT (ps := ps) ps.length with g | g
   ·rw [g, List.take_length]
    rcases ckT_sum h with rfl | h
    ·simp
    ·exact h
   ·omega
  ·have hp : pkOf ps (i : Int) = ps[i] := by
    unfold pkOf
    rw [Int.toNat_natCast, List.getD_eq_getElem?_getD, List.getElem?_eq_getElem hi]; rfl
   have := pkOk (hm _ (List.getElem_mem hi))
   rw [hp]
   exact ⟨(ckNeed_zero this.nd).2.1, this.sub⟩
theorem ckMask_in {ps : List Pk} : ∀ {ms : List Int} {prev : Option Int}, ckMask ps prev ms = 0 → ∀ k ∈ ms, 0 ≤ k ∧ k < ps.length
 | [], _, _, k, hk => by cases hk
 | x :: r, prev, h, k, hk => by
  simp only [ckMask] at h
  split at h
  ·cases h
  ·split at h
   ·cases h
   ·rcases List.mem_cons.1 hk with rfl | hk
    ·omega
    ·exact ckMask_in h k hk
theorem ckMask_len {ps : List Pk} : ∀ {ms : List Int} {p : Int}, ckMask ps (some p) ms = 0 → p < ps.length → (ms.length : Int) ≤ ps.length - 1 - p
 | [], p, _, hp => by simp; omega
 | x :: r, p, h, hp => by
  simp only [ckMask] at h
  split at h
  ·cases h
  ·split at h
   ·cases h
   ·rename_i h1 h2
    simp only [badPl, decide_eq_true_eq] at h2
    have := ckMask_len h (by omega)
    simp only [List.length_cons]; omega
theorem ckMask_short {ps : List Pk} : ∀ {ms : List Int}, ckMask ps none ms = 0 → ms.length ≤ ps.length
 | [], _ => Nat.zero_le _
 | x :: r, h => by
  simp only [ckMask] at h
  split at h
  ·cases h
  ·split at h
   ·cases h
   ·have := ckMask_len h (by omega)
    simp only [List.length_cons]; omega
structure WishOk (ps : List Pk) (v : Ws) : Prop where
 tree : ckTree ps = 0
 ok : WsOk ps v
 ts : v.ts.length ≤ 6
 ats : ckAts v.ts = 0
 ms : ckMask ps none v.ms = 0
 on : ckOn ps none v.on = 0
theorem wish_parts {ps : List Pk} {v : Ws} (h : ckWish ps v = 0) : WishOk ps v := by
 unfold ckWish at h
 split at h
 ·rename_i h1; exact absurd h h1
 ·rename_i h1
  have h1 : ckSet ps v.ins = 0 := by simpa using h1
  unfold ckSet at h1
  split at h1
  ·rename_i h2; exact absurd h1 h2
  ·rename_i h2
   unfold ckWishR at h
   split at h
   ·cases h
   ·split at h
    ·rename_i h3; exact absurd h h3
    ·split at h
     ·rename_i h4; exact absurd h h4
     ·rename_i h3 h4 h5
      exact ⟨by simpa using h2, ⟨h1⟩, by omega, by simpa using h4, by simpa using h5, h⟩
theorem setOfM_congr {X : Chs} {ps : List Pk} {M : Nat} {K : List (Int × Int)} (hX : ChsOk ps M X K) {m m' : List Bool} (he : ∀ j, j < M → m.getD j false = m'.getD j false) : setOfM X ps m = setOfM X ps m' := by
 unfold setOfM takenM
 have h1 : (List.range ps.length).filter (fun i => litHolds m (X.pick i)) = (List.range ps.length).filter fun i => litHolds m' (X.pick i) := by
  refine List.filter_congr fun i hi => ?_
  rw [litHolds_take he (hX.pick i (List.mem_range.1 hi))]
 rw [h1]
 refine List.map_congr_left fun i hi => ?_
 have hi := (List.mem_range.1 (List.mem_filter.1 hi).1)
 unfold memM
 congr 1
 refine List.map_congr_left fun k hk => ?_
 exact litHolds_take he (hX.on i hi k (List.mem_range.1 hk))
structure EncOk (ps : List Pk) (v : Ws) (N : Nat) (cs : List (List Int)) : Prop where
 n400 : N ≤ 400
 many : manyC ps ≤ N
 many14 : manyC ps ≤ 14
 len : cs.length ≤ 4000
 cl : ∀ c ∈ cs, IsCl N c ∧ c.length ≤ 60
 settles : Settles N (manyC ps) cs
 sound : ∀ m, holdsF m cs = true → validP ps v.ts v.ms (setOfM (chW ps v) ps m) = true
 ext : ∀ m0 : List Bool, m0.length = manyC ps → validP ps v.ts v.ms (setOfM (chW ps v) ps m0) = true → ∃ m : List Bool, m.length = N ∧ (∀ j, j < manyC ps → m.getD j false = m0.getD j false) ∧ holdsF m cs = true
 one : ∀ m m' : List Bool, (∀ j, j < manyC ps → m.getD j false = m'.getD j false) → holdsF m cs = true → holdsF m' cs = true → ∀ j, j < N → m.getD j false = m'.getD j false
theorem encW_ok {ps : List Pk} {v : Ws} (h : ckWish ps v = 0) : EncOk ps v (encW ps v).vars (encW ps v).cls := by
 have W := wish_parts h
 obtain ⟨h8, h14, hN⟩ := tree_parts W.tree
 have hX := chW_ok W.ok
 have hm := ckMask_in W.ms
 have hms := ckMask_short W.ms
 have hts := W.ts
 obtain ⟨gs, hs, hb, hq, hv, hc, hl⟩ := encD_ok (ts := v.ts) hX h8 hN hm
 rw [keysW_len] at hv hc
 have hF : ps.length + flagsBef ps ps.length ≤ 14 := h14
 have hon : ∀ i, i < ps.length → ∀ k, k < (pkOf ps i).fs.length → (chW ps v).on i k ≠ 0 := fun i hi k hk => (hX.on i hi k hk).1
 have hval := fun m => validM_iff (m := m) hon hN (ts := v.ts) hm
 refine ⟨?_, hb.le, h14, ?_, fun c hcc => ⟨hb.cl c hcc, hl c hcc⟩, fun w hw hcl h0 => hb.total hw (Nat.le_refl _) hcl h0, fun m hm1 => ?_, fun m0 hl0 hv0 => ?_, fun m m' he h1 h2 => hb.one_ he (hb.holds.1 h1).1 (hb.holds.1 h2).1⟩
 ·show (encD (chW ps v) ps v.ts v.ms (manyC ps)).vars ≤ 400
  unfold manyC at hv ⊢; omega
 ·show (encD (chW ps v) ps v.ts v.ms (manyC ps)).cls.length ≤ 4000
  omega
 ·obtain ⟨g1, g2⟩ := hb.holds.1 hm1
  rw [← hval m, ← hq m g1]; exact g2
 ·obtain ⟨m, e1, e2, e3⟩ := hb.ext m0 hl0
  refine ⟨m, e1, e2, hb.holds.2 ⟨e3, ?_⟩⟩
  rw [hq m e3, hval m, setOfM_congr hX e2]
  exact hv0
def litsB (m : List Bool) : List Int := (List.range m.length).map fun (k : Nat) => if m.getD k false = true then (k : Int) + 1 else -((k : Int) + 1)
theorem chVec_le {ps : List Pk} {v : Ws} (hv : WsOk ps v) {m : List Bool} {x : Nat} (hx : x < manyC ps) (h : (chVec ps v (setOfM (chW ps v) ps m)).getD x false = true) : m.getD x false = true := by
 rw [chVec_at hx] at h
 have hr := setOfM_rise (ps := ps) (X := chW ps v) (m := m)
 have hat : ∀ i, i < ps.length → atP (setOfM (chW ps v) ps m) i = if litHolds m ((chW ps v).pick i) = true then some (memM (chW ps v) ps m i) else none := by
  intro i hi
  by_cases ht : litHolds m ((chW ps v).pick i) = true
  ·rw [if_pos ht]
   have := atP_of hr (mem_setOfM.2 ⟨i, hi, ht, rfl⟩) (by show (0 : Int) ≤ (i : Int); omega)
   simpa [memM] using this
  ·rw [if_neg ht]
   cases ha : atP (setOfM (chW ps v) ps m) i with
   | none => rfl
   | some y =>
    obtain ⟨a1, a2⟩ := atP_mem ha
    obtain ⟨j, b1, b2, rfl⟩ := mem_setOfM.1 a1
    have a2 : (j : Int) = (i : Int) := a2
    obtain rfl : j = i := by omega
    exact absurd b2 ht
 rcases var_owner hv hx with ⟨i, hi, rfl⟩ | ⟨i, k, hi, hk, rfl⟩
 ·rw [chVal_pick hv hi, hat i hi] at h
  have hp := litHolds_pick (ps := ps) (v := v) (m := m) i
  by_cases ht : litHolds m ((chW ps v).pick i) = true
  ·rw [if_pos ht] at h
   rw [ht] at hp
   revert h hp
   cases m.getD (ixP (ordP v.ins ps.length) i) false <;> cases (insP v.ins).contains i <;> simp
  ·rw [if_neg ht] at h
   have ht : litHolds m ((chW ps v).pick i) = false := by simpa using ht
   rw [ht] at hp
   revert h hp
   cases m.getD (ixP (ordP v.ins ps.length) i) false <;> cases (insP v.ins).contains i <;> simp
 ·rw [chVal_on hi hk, hat i hi] at h
  by_cases ht : litHolds m ((chW ps v).pick i) = true
  ·rw [if_pos ht] at h
   dsimp only at h
   rw [memM_on hk, litHolds_on] at h
   revert h
   cases m.getD (ps.length + flagsBef ps i + k) false <;> cases v.on.contains ((i : Int), (k : Int)) <;> simp
  ·rw [if_neg ht] at h; cases h
end Go.Proofs.YtedbhlgjcnnknaaGreatDoor

namespace Go.Proofs.YtedbhlgjcnnknaaGreatDoor
open Go.RowKit Qm
structure Best (ps : List Pk) (v : Ws) (l : List Mem) : Prop where
 ck : ckMs ps none l = 0
 ok : validP ps v.ts v.ms l = true
 first : ∀ l', ckMs ps none l' = 0 → validP ps v.ts v.ms l' = true → LexLe (chVec ps v l) (chVec ps v l')
end Go.Proofs.YtedbhlgjcnnknaaGreatDoor

namespace Go.Proofs.YtedbhlgjcnnknaaGreatDoor
open Go.RowKit Qm
structure UnmOk (q : List Int → Bool) (ks : List Int) (s : List Int × List Int) : Prop where
 s1 : s.1.Sublist ks
 s2 : s.2.Sublist ks
 part : ∀ k ∈ ks, k ∈ s.1 ∨ k ∈ s.2
 may : q s.1 = true
 no : ∀ k ∈ s.2, ∀ b, (∀ x ∈ s.1, x ∈ b) → k ∈ b → q b = false
end Go.Proofs.YtedbhlgjcnnknaaGreatDoor

namespace Go.Proofs.YtedbhlgjcnnknaaGreatDoor
open Go.RowKit
end Go.Proofs.YtedbhlgjcnnknaaGreatDoor

namespace Go.Proofs.YtedbhlgjcnnknaaGreatDoor
open Go.RowKit
end Go.Proofs.YtedbhlgjcnnknaaGreatDoor

namespace Go.Proofs.YtedbhlgjcnnknaaGreatDoor
open Go.RowKit
def hd (h : Option Addr × Nat × Nat) : Value := Value.slice h.1 h.2.1 h.2.2
def Heads (w : World) (S : Nat → Prop) (hs : List (Option Addr × Nat × Nat)) (cs : List (List Int)) : Prop :=
 cs.length = hs.length ∧ ∀ (j : Nat) (h : Option Addr × Nat × Nat) (c : List Int), hs[j]? = some h → cs[j]? = some c → RInts w S h.1 h.2.1 c ∧ h.2.1 ≤ h.2.2 ∧ h.2.2 ≤ maxLen
section
variable {w w' : World} {S S' : Nat → Prop} {A : Option Addr} {n : Nat} {cs ds : List (List Int)} {hs gs : List (Option Addr × Nat × Nat)}
theorem RClauses.of_ (hr : Row w S A n (hs.map hd)) (h : Heads w S hs cs) : RClauses w S A n cs := ⟨hs, hr, by have := hr.len; have := h.1; simp at *; omega, h.2⟩
theorem Heads.append (h : Heads w S hs cs) (g : Heads w S gs ds) : Heads w S (hs ++ gs) (cs ++ ds) := by
 refine ⟨by simp [h.1, g.1], fun j x c hx hc => ?_⟩
 by_cases hj : j < hs.length
 ·rw [List.getElem?_append_left hj] at hx
  rw [List.getElem?_append_left (by rw [h.1]; exact hj)] at hc
  exact h.2 j x c hx hc
 ·rw [List.getElem?_append_right (by omega)] at hx
  rw [List.getElem?_append_right (by rw [h.1]; omega), h.1] at hc
  exact g.2 _ x c hx hc
theorem Heads.one {A : Option Addr} {n c : Nat} {xs : List Int} (h : RInts w S A n xs) (hn : n ≤ c ∧ c ≤ maxLen) : Heads w S [(A, n, c)] [xs] := by
 refine ⟨rfl, fun j x y hx hy => ?_⟩
 match j with
 | 0 => simp at hx hy; subst hx hy; exact ⟨h, hn⟩
 | j + 1 => simp at hx
theorem Heads.nil_ : Heads w S [] [] := ⟨rfl, fun j x y hx _ => by simp at hx⟩
theorem Heads.more (h : Heads w S hs cs) (hS : ∀ k, S k → S' k) : Heads w S' hs cs := ⟨h.1, fun j x c hx hc => ⟨(h.2 j x c hx hc).1.more hS, (h.2 j x c hx hc).2⟩⟩
theorem Heads.keep (h : Heads w S hs cs) (hk : ∀ p : Addr, S p.block → w'.cell? p = w.cell? p) : Heads w' S hs cs := ⟨h.1, fun j x c hx hc => ⟨(h.2 j x c hx hc).1.keep hk, (h.2 j x c hx hc).2⟩⟩
end
end Go.Proofs.YtedbhlgjcnnknaaGreatDoor

namespace Go.Proofs.YtedbhlgjcnnknaaGreatDoor
open Go.RowKit
end Go.Proofs.YtedbhlgjcnnknaaGreatDoor

namespace Go.Proofs.YtedbhlgjcnnknaaGreatDoor
open Go.RowKit
end Go.Proofs.YtedbhlgjcnnknaaGreatDoor

namespace Go.Proofs.YtedbhlgjcnnknaaGreatDoor
open Go.RowKit
structure Far (D : Nat → Prop) (w w' : World) : Prop where
 base : Below 0 w w'
 block : ∀ i, i < w.heap.size → ¬ D i → w'.heap[i]? = w.heap[i]?
section
variable {w w' w'' : World} {D D' : Nat → Prop} {S : Nat → Prop} {A : Option Addr} {n b : Nat}
theorem Far.size (h : Far D w w') : w.heap.size ≤ w'.heap.size := h.base.size
theorem Far.refl (D : Nat → Prop) (w : World) : Far D w w := ⟨Below.refl _ _, fun _ _ _ => rfl⟩
theorem Far.trans (h : Far D w w') (k : Far D' w' w'') (hD : ∀ i, i < w.heap.size → D' i → D i) : Far D w w'' :=
 ⟨h.base.trans k.base, fun i hi hn => (k.block i (ql hi h.size) (fun hd => hn (hD i hi hd))).trans (h.block i hi hn)⟩
theorem Far.of_below (D : Nat → Prop) (h : Below w.heap.size w w') : Far D w w' := ⟨h.mono (Nat.zero_le _), fun i hi _ => h.block i hi⟩
theorem Far.of_grown {row : Option Nat} (h : w.grownBy w' row) (hD : ∀ i, some i = row → D i) : Far D w w' :=
 ⟨below_of_grown h (Nat.zero_le _) (fun _ _ => Nat.zero_le _), fun i hi hn => h.block i hi (fun e => hn (hD i e))⟩
theorem Far.set_ (hb : D b) (i : Nat) (u : Value) : Far D w (w.setCell ⟨b, i, none⟩ u) :=
 ⟨(Below.refl 0 w).setCell (Nat.zero_le _) _, fun k _ hn => heap_setCell_other w _ k u (fun e => hn (by rw [show k = b from e.symm ▸ rfl]; exact hb))⟩
theorem Far.drew (h : Far D w w') : Far D w w'.drew := ⟨below_drewN h.base 1, h.block⟩
theorem Far.mono (h : Far D w w') (hD : ∀ i, D i → D' i) : Far D' w w' := ⟨h.base, fun i hi hn => h.block i hi (fun hd => hn (hD i hd))⟩
theorem Far.below (h : Far D w w') {B : Nat} (hB : B ≤ w.heap.size) (hD : ∀ i, D i → B ≤ i) : Below B w w' :=
 ⟨h.base.os, h.base.tape, h.base.output, h.size, fun i hi => h.block i (ql hi hB) (fun hd => absurd (hD i hd) (by omega))⟩
theorem Far.whole {t : TypeId} {vs : List Value} (h : Far D w w') (hw : Whole w b t vs) (hb : ¬ D b) : Whole w' b t vs := (h.block b hw.lt hb).trans hw
theorem Far.cell (h : Far D w w') {p : Addr} (hp : p.block < w.heap.size) (hn : ¬ D p.block) : w'.cell? p = w.cell? p := World.cell?_of_block (h.block _ hp hn)
theorem Far.ints {xs : List Int} (h : Far D w w') (hr : RInts w S A n xs) (hS : ∀ k, S k → k < w.heap.size ∧ ¬ D k) : RInts w' S A n xs := hr.keep fun _ hp => h.cell (hS _ hp).1 (hS _ hp).2
theorem Far.clauses {cs : List (List Int)} (h : Far D w w') (hr : RClauses w S A n cs) (hS : ∀ k, S k → k < w.heap.size ∧ ¬ D k) : RClauses w' S A n cs := hr.keep fun _ hp => h.cell (hS _ hp).1 (hS _ hp).2
theorem Far.own {base : Nat} {e : TypeId} {size : Nat} {v : Value} {vs : List Value} (h : Far D w w') (ho : w.ownsRow base e size v n vs) (hv : ∀ g, v.ownBlock = some g → ¬ D g) : w'.ownsRow base e size v n vs := by
 rcases ho.2 with h0 | ⟨g, cap, cur, rfl, hb, hh, hc, hm, hs, ht⟩
 ·exact ⟨ho.1, .inl h0⟩
 ·exact ⟨ho.1, .inr ⟨g, cap, cur, rfl, hb, (h.block g (lt_of_block hh) (hv g rfl)).trans hh, hc, hm, hs, ht⟩⟩
theorem own_ne {base : Nat} {e t : TypeId} {size : Nat} {v : Value} {vs us : List Value} (ho : w.ownsRow base e size v n vs) (hw : Whole w b t us) (ht : t ≠ e) : v.ownBlock ≠ some b := by
 rcases ho.2 with ⟨rfl, _⟩ | ⟨g, cap, cur, rfl, _, hh, _⟩
 ·intro h; cases h
 ·intro h
  simp only [Value.ownBlock] at h
  injection h with h
  subst h
  unfold Whole at hw
  rw [hh] at hw
  injection hw with hw; injection hw with _ hw
  exact ht hw.symm
end
end Go.Proofs.YtedbhlgjcnnknaaGreatDoor

namespace Go.Proofs.YtedbhlgjcnnknaaGreatDoor
open Go.RowKit
section
variable {w w' : World} {D : Nat → Prop} {S : Nat → Prop}
end
def SBlk (w : World) (b : Nat) (vars : Int) (A : Option Addr) (n cap : Nat) (st : Int) (P M : Value) (out : Bool) : Prop :=
 Whole w b 125 [.int .i64 vars, .slice A n cap, .int .i64 st, P, M, .bool out]
end Go.Proofs.YtedbhlgjcnnknaaGreatDoor

namespace Go.Proofs.YtedbhlgjcnnknaaGreatDoor
open Go.RowKit
end Go.Proofs.YtedbhlgjcnnknaaGreatDoor

namespace Go.Proofs.YtedbhlgjcnnknaaGreatDoor
open Go.RowKit
def Inner (base b hi : Nat) (P : Value) (k : Nat) : Prop := base ≤ k ∧ k < hi ∧ k ≠ b ∧ P.ownBlock ≠ some k
structure SState (base b : Nat) (N : Nat) (A : Option Addr) (n cap : Nat) (cs : List (List Int)) (S0 : Nat → Prop) (st : Nat) (P : Value) (hs : List (Option Addr × Nat × Nat)) (pf : List (List Int)) (hi : Nat) (w : World) : Prop where
 blk : SBlk w b (N : Int) A n cap (st : Int) P (.slice none 0 0) false
 own : w.ownsRow base 117 1 P pf.length (hs.map hd)
 own_hi : ∀ g, P.ownBlock = some g → g < hi
 heads : Heads w (Inner base b hi P) hs pf
 cls : RClauses w S0 A n cs
 hi_ : hi ≤ w.heap.size
 base_ : base ≤ hi
 s0 : ∀ k, S0 k → k < base ∧ k ≠ b
section
variable {base b N n cap st hi : Nat} {A : Option Addr} {cs : List (List Int)} {S0 : Nat → Prop} {P : Value} {hs : List (Option Addr × Nat × Nat)} {pf : List (List Int)} {w w' : World}
end
end Go.Proofs.YtedbhlgjcnnknaaGreatDoor

namespace Go.Proofs.YtedbhlgjcnnknaaGreatDoor
open Go.RowKit
end Go.Proofs.YtedbhlgjcnnknaaGreatDoor

namespace Go.Proofs.YtedbhlgjcnnknaaGreatDoor
open Go.RowKit
end Go.Proofs.YtedbhlgjcnnknaaGreatDoor

namespace Go.Proofs.YtedbhlgjcnnknaaGreatDoor
open Go.RowKit
theorem ckClauses_zero {cs : List (List Int)} {vars : Int} (h : ∀ c ∈ cs, ckClause c vars = 0) : ckClauses cs vars = 0 :=
 ckClauses_good (k := cs.length) (fun c hc => h c (List.mem_of_mem_take hc)) rfl
end Go.Proofs.YtedbhlgjcnnknaaGreatDoor

namespace Go.Proofs.YtedbhlgjcnnknaaGreatDoor
open Go.RowKit
end Go.Proofs.YtedbhlgjcnnknaaGreatDoor

namespace Go.Proofs.YtedbhlgjcnnknaaGreatDoor
open Go.RowKit
theorem ckClause_of {N : Nat} {c : List Int} (h : Qm.IsCl N c) (hl : c.length ≤ 60) : ckClause c (N : Int) = 0 := by
 unfold ckClause
 rw [if_neg (by omega), if_neg]
 intro h2
 obtain ⟨x, hx, hb⟩ := List.any_eq_true.1 h2
 have h3 := h x hx
 have h4 := h3.1
 have h5 := h3.2
 rw [badLit_no (by omega)] at hb
 cases hb
end Go.Proofs.YtedbhlgjcnnknaaGreatDoor

namespace Go.Proofs.YtedbhlgjcnnknaaGreatDoor
open Go.RowKit Qm
theorem enc_formula {ps : List Pk} {v : Ws} (h : ckWish ps v = 0) : ckFormula ((encW ps v).vars : Int) (encW ps v).cls = 0 := by
 have E := encW_ok h
 have h1 := E.n400
 unfold ckFormula
 rw [if_neg (by omega), if_neg (by have := E.len; omega)]
 exact ckClauses_zero fun c hc => ckClause_of (E.cl c hc).1 (E.cl c hc).2
end Go.Proofs.YtedbhlgjcnnknaaGreatDoor

namespace Go.Proofs.YtedbhlgjcnnknaaGreatDoor
open Go.RowKit
end Go.Proofs.YtedbhlgjcnnknaaGreatDoor

namespace Go.Proofs.YtedbhlgjcnnknaaGreatDoor
open Go.RowKit Go.WideMaps
def keyL (x y : Int) : Lit := .string (keyBytes [.int .i64 x, .int .i64 y])
structure PairKey (P : Program) (k : TypeId) : Prop where
 law : Maps.Keyed P k
 arr : ArrKey P k 3 2
 i : P.underlying 3 = some (.int .i64)
 sz : ∃ m, P.types.size = m + 1
section
variable {P : Program} {w w' : World} {k : TypeId} {b m : Nat} {K : Int → Int → Int}
theorem PairKey.key (h : PairKey P k) {x y : Int} (hx : (Lit.int .i64 x).wf = true) (hy : (Lit.int .i64 y).wf = true) : keyOf P k (.agg #[.int .i64 x, .int .i64 y]) = some (keyL x y) := keyOf_pair h.arr h.i h.sz hx hy
theorem PairKey.ne (h : PairKey P k) {x y n f : Int} (hx : (Lit.int .i64 x).wf = true) (hy : (Lit.int .i64 y).wf = true) (hn : (Lit.int .i64 n).wf = true) (hf : (Lit.int .i64 f).wf = true) (hne : ¬ (x = n ∧ y = f)) : keyL x y ≠ keyL n f := by
 intro e
 have h1 := h.key hx hy
 rw [e] at h1
 have h2 := h.law.inj h1 (h.key hn hf)
 injection h2 with h2; injection h2 with h2
 simp only [List.cons.injEq, Value.int.injEq, true_and, and_true] at h2
 exact hne h2
def PairMap (P : Program) (k : TypeId) (w : World) (b : Nat) (K : Int → Int → Int) (m : Nat) : Prop :=
 ∃ D : DataW Unit, w.ownsMap P k (plainElem P 3) b m D ∧ ∀ x y : Int, (Lit.int .i64 x).wf = true → (Lit.int .i64 y).wf = true → D.atKey (keyL x y) (.lit (.int .i64 0)) = .lit (.int .i64 (K x y))
theorem PairMap.made (P : Program) (k : TypeId) (w : World) : PairMap P k (w.alloc (.map #[] 0)) w.heap.size (fun _ _ => 0) 0 :=
 ⟨.map [], World.ownsMap_made w P k _, fun _ _ _ _ => rfl⟩
theorem PairMap.kept {row : Option Nat} (h : PairMap P k w b K m) (hg : w.grownBy w' row) (hne : some b ≠ row) : PairMap P k w' b K m := by
 obtain ⟨D, h1, h2⟩ := h
 exact ⟨D, h1.kept hg hne, h2⟩
theorem PairMap.block (h : PairMap P k w b K m) (hb : w'.heap[b]? = w.heap[b]?) : PairMap P k w' b K m := by
 obtain ⟨D, ⟨es, clock, h1, r⟩, h2⟩ := h
 exact ⟨D, ⟨es, clock, hb.trans h1, r⟩, h2⟩
theorem PairMap.lt (h : PairMap P k w b K m) : b < w.heap.size := by obtain ⟨D, h1, _⟩ := h; exact h1.lt
theorem PairMap.look (h : PairMap P k w b K m) (hk : PairKey P k) (hz : (zeroValue 3).run P w = .ok (.int .i64 0) w) {t : TypeId} (ht : P.underlying t = some (.map k 3)) {x y : Int} (hx : (Lit.int .i64 x).wf = true) (hy : (Lit.int .i64 y).wf = true) :
  (Instr.lookup t (.map (some b)) (.agg #[.int .i64 x, .int .i64 y]) false).run P w = .ok (.int .i64 (K x y)) w := by
 obtain ⟨D, h1, h3⟩ := h
 obtain ⟨v, ps, hrun, hv⟩ := h1.lookup hk.law ht hz (plainElem_int hk.i (by decide)) (hk.key hx hy)
 rw [h3 x y hx hy] at hv
 obtain ⟨a, rfl, ha, _⟩ := plainElem_int_inv hk.i hv
 simp only [Prod.mk.injEq, DataW.lit.injEq, Lit.int.injEq, true_and] at ha
 rw [hrun, ha.1]
theorem PairMap.put (h : PairMap P k w b K m) (hk : PairKey P k) {t : TypeId} (ht : P.underlying t = some (.map k 3)) {x y v : Int} (hx : (Lit.int .i64 x).wf = true) (hy : (Lit.int .i64 y).wf = true) (hv : (Lit.int .i64 v).wf = true) (hm : m < maxLen) :
  ∃ w', (Instr.mapUpdate t (.map (some b)) (.agg #[.int .i64 x, .int .i64 y]) (.int .i64 v)).run P w = .ok () w' ∧ PairMap P k w' b (fun n f => if n = x ∧ f = y then v else K n f) (m + 1) ∧ w.grownBy w' (some b) ∧ w'.heap.size = w.heap.size := by
 obtain ⟨D, h1, h3⟩ := h
 have hkey := hk.key hx hy
 have hkl : WideAt.IsKeyLit (keyL x y) := hk.law.key hkey
 obtain ⟨w', hrun, h4, h5⟩ := h1.store hk.law ht hm hkey (plainElem_int hk.i hv)
 have htd := h1.tidy hk.law
 refine ⟨w', hrun, ⟨_, h4, fun n f hn hf => ?_⟩, h5.grown, ?_⟩
 ·by_cases e : n = x ∧ f = y
  ·obtain ⟨rfl, rfl⟩ := e
   rw [Maps.atKey_put_same htd.isMap hkl]
   dsimp only
   rw [if_pos (And.intro rfl rfl)]
  ·rw [Maps.atKey_put_other (hk.ne hn hf hx hy e)]
   dsimp only
   rw [if_neg e]
   exact h3 n f hn hf
 ·obtain ⟨es, clock, es', clock', _, rfl⟩ := h5
  simp [ChangeMaps.setBlock]
end
end Go.Proofs.YtedbhlgjcnnknaaGreatDoor

namespace Go.Proofs.YtedbhlgjcnnknaaGreatDoor
open Go.RowKit Qm
def DLe (d d' : Dk) : Prop := d.vars ≤ d'.vars ∧ d.cls.length ≤ d'.cls.length
theorem DLe.refl (d : Dk) : DLe d d := ⟨Nat.le_refl _, Nat.le_refl _⟩
theorem DLe.trans {a b c : Dk} (h : DLe a b) (k : DLe b c) : DLe a c := ⟨Nat.le_trans h.1 k.1, Nat.le_trans h.2 k.2⟩
theorem bothD_cases (d : Dk) (l : List Int) : (∃ x, l = [x] ∧ bothD d l = (d, x)) ∨ (l.length ≠ 1 ∧ bothD d l = ({ d with vars := d.vars + 1, cls := d.cls ++ gate ((d.vars : Int) + 1) l }, (d.vars : Int) + 1)) := by
 match l with
 | [x] => exact .inl ⟨x, rfl, rfl⟩
 | [] => exact .inr ⟨by simp, rfl⟩
 | x :: y :: r => exact .inr ⟨by simp, rfl⟩
theorem bothD_le (d : Dk) (l : List Int) : DLe d (bothD d l).1 := by
 rcases bothD_cases d l with ⟨x, _, h⟩ | ⟨_, h⟩
 ·rw [h]; exact DLe.refl _
 ·rw [h]; exact ⟨Nat.le_succ _, by show _ ≤ (d.cls ++ _).length; rw [List.length_append]; omega⟩
theorem oneD_le (d : Dk) (l : List Int) : DLe d (oneD d l).1 := bothD_le d _
theorem addD_le (d : Dk) (c : List Int) : DLe d (addD d c) := ⟨Nat.le_refl _, by show _ ≤ (d.cls ++ _).length; rw [List.length_append]; omega⟩
theorem meanStep_le (X : Chs) (ps : List Pk) (a : At) (but : Int) (s : Dk × List Int) (i : Nat) : DLe s.1 (meanStep X ps a but s i).1 := by
 unfold meanStep
 split
 ·exact DLe.refl _
 ·split
  ·exact DLe.refl _
  ·cases ixOf a.fl (pkOf ps i).fs with
   | none => exact DLe.refl _
   | some k =>
    dsimp only
    split
    ·exact bothD_le _ _
    ·exact DLe.refl _
theorem meansTo_le (X : Chs) (ps : List Pk) (a : At) (but : Int) (d : Dk) (j : Nat) : ∀ k, DLe (meansTo X ps a but d j).1 (meansTo X ps a but d (j + k)).1
 | 0 => DLe.refl _
 | k + 1 => (meansTo_le X ps a but d j k).trans (meanStep_le X ps a but _ _)
theorem meansD_le (X : Chs) (ps : List Pk) (a : At) (but : Int) (d : Dk) : DLe d (meansD X ps a but d).1 := by
 have := meansTo_le X ps a but d 0 ps.length
 rwa [Nat.zero_add] at this
theorem kidsD_le (X : Chs) (ps : List Pk) (i : Nat) : ∀ (ks : List Nd), (∀ x ∈ ks, ∀ d, DLe d (needD X ps i x d).1) → ∀ d, DLe d (kidsD X ps i ks d).1
 | [], _, d => DLe.refl _
 | x :: r, h, d => by
  rw [kidsD]
  exact (h x (List.mem_cons_self ..) d).trans (kidsD_le X ps i r (fun y hy => h y (List.mem_cons_of_mem _ hy)) _)
theorem needD_le (X : Chs) (ps : List Pk) (i : Nat) : ∀ (y : Nd) (d : Dk), DLe d (needD X ps i y d).1 := by
 refine Nd.ind fun kd a f no ks ih => ?_
 intro d
 have hk := kidsD_le X ps i ks ih d
 rw [needD]
 split
 ·exact (meansD_le ..).trans (oneD_le ..)
 ·split
  ·exact (meansD_le ..).trans (oneD_le ..)
  ·split
   ·exact hk.trans (oneD_le ..)
   ·split
    ·exact (hk.trans (bothD_le ..)).trans (oneD_le ..)
    ·exact hk.trans (bothD_le ..)
theorem confTo_le (X : Chs) (ps : List Pk) (i : Nat) (d : Dk) (j : Nat) : ∀ k, DLe (confTo X ps i d j) (confTo X ps i d (j + k))
 | 0 => DLe.refl _
 | k + 1 => by
  refine (confTo_le X ps i d j k).trans ?_
  show DLe _ (confTo X ps i d (j + k + 1))
  rw [confTo]
  split
  ·exact addD_le ..
  ·exact DLe.refl _
theorem pkD_le (X : Chs) (ps : List Pk) (i : Nat) (d : Dk) : DLe d (pkD X ps i d) := by
 unfold pkD
 have := confTo_le X ps i d 0 i
 rw [Nat.zero_add] at this
 exact (DLe.trans this (needD_le ..)).trans (addD_le ..)
theorem pksD_le (X : Chs) (ps : List Pk) (d : Dk) (j : Nat) : ∀ k, DLe (pksD X ps d j) (pksD X ps d (j + k))
 | 0 => DLe.refl _
 | k + 1 => (pksD_le X ps d j k).trans (pkD_le ..)
theorem masksD_le (X : Chs) : ∀ (ms : List Int) (d : Dk), DLe d (masksD X ms d)
 | [], d => DLe.refl _
 | k :: r, d => by rw [masksD]; exact (addD_le ..).trans (masksD_le X r _)
theorem tgtsD_le (X : Chs) (ps : List Pk) : ∀ (ts : List At) (d : Dk), DLe d (tgtsD X ps ts d)
 | [], d => DLe.refl _
 | a :: r, d => by rw [tgtsD]; exact ((meansD_le ..).trans (addD_le ..)).trans (tgtsD_le X ps r _)
def LIn (d : Dk) (l : List Int) : Prop := ∀ x ∈ l, x.natAbs ≤ d.vars
structure DIn (X : Chs) (ps : List Pk) (d : Dk) : Prop where
 pick : ∀ i, i < ps.length → (X.pick i).natAbs ≤ d.vars
 on : ∀ i k, i < ps.length → k < (pkOf ps i).fs.length → (X.on i k).natAbs ≤ d.vars
 pair : ∀ n f, (d.pair n f).natAbs ≤ d.vars
section
variable {X : Chs} {ps : List Pk} {d d' : Dk}
theorem DIn.up (h : DIn X ps d) (hd : d.vars ≤ d'.vars) (hp : d'.pair = d.pair) : DIn X ps d' :=
 ⟨fun i hi => Nat.le_trans (h.pick i hi) hd, fun i k hi hk => Nat.le_trans (h.on i k hi hk) hd, fun n f => by rw [hp]; exact Nat.le_trans (h.pair n f) hd⟩
theorem bothD_pair (d : Dk) (l : List Int) : (bothD d l).1.pair = d.pair := by
 rcases bothD_cases d l with ⟨x, _, h⟩ | ⟨_, h⟩ <;> rw [h]
theorem bothD_in (h : DIn X ps d) {l : List Int} (hl : LIn d l) : DIn X ps (bothD d l).1 ∧ (bothD d l).2.natAbs ≤ (bothD d l).1.vars := by
 refine ⟨h.up (bothD_le d l).1 (bothD_pair d l), ?_⟩
 rcases bothD_cases d l with ⟨x, rfl, h⟩ | ⟨_, h⟩
 ·rw [h]; exact hl x (List.mem_singleton.2 rfl)
 ·rw [h]; dsimp only; omega
theorem oneD_in (h : DIn X ps d) {l : List Int} (hl : LIn d l) : DIn X ps (oneD d l).1 ∧ (oneD d l).2.natAbs ≤ (oneD d l).1.vars := by
 have := bothD_in h (l := l.map Neg.neg) (fun x hx => by obtain ⟨y, hy, rfl⟩ := List.mem_map.1 hx; rw [Int.natAbs_neg]; exact hl y hy)
 refine ⟨this.1, ?_⟩
 show (-(bothD d (l.map Neg.neg)).2).natAbs ≤ _
 rw [Int.natAbs_neg]; exact this.2
theorem askD_in (h : DIn X ps d) {a : At} {i k : Nat} (hi : i < ps.length) (hk : k < (pkOf ps i).fs.length) : (askD X a i k).natAbs ≤ d.vars := by
 unfold askD
 split
 ·exact h.on i k hi hk
 ·rw [Int.natAbs_neg]; exact h.on i k hi hk
theorem meanStep_in {a : At} {but : Int} {s : Dk × List Int} {i : Nat} (h : DIn X ps s.1) (hl : LIn s.1 s.2) (hi : i < ps.length) : DIn X ps (meanStep X ps a but s i).1 ∧ LIn (meanStep X ps a but s i).1 (meanStep X ps a but s i).2 := by
 unfold meanStep
 split
 ·exact ⟨h, hl⟩
 ·split
  ·exact ⟨h, fun x hx => by
    rcases List.mem_append.1 hx with hx | hx
    ·exact hl x hx
    ·rw [List.mem_singleton.1 hx]; exact h.pick i hi⟩
  ·cases hix : ixOf a.fl (pkOf ps i).fs with
   | none => exact ⟨h, hl⟩
   | some k =>
    dsimp only
    split
    ·have hb := bothD_in h (l := [X.pick i, askD X a i k]) (fun x hx => by
      simp only [List.mem_cons, List.not_mem_nil, or_false] at hx
      rcases hx with rfl | rfl
      ·exact h.pick i hi
      ·exact askD_in h hi (ixOf_lt hix))
     have hle := bothD_le s.1 [X.pick i, askD X a i k]
     refine ⟨⟨hb.1.pick, hb.1.on, fun n f => ?_⟩, fun x hx => ?_⟩
     ·show (if _ then _ else _ : Int).natAbs ≤ (bothD s.1 [X.pick i, askD X a i k]).1.vars
      split
      ·exact hb.2
      ·exact hb.1.pair n f
     ·rcases List.mem_append.1 hx with hx | hx
      ·exact Nat.le_trans (hl x hx) hle.1
      ·rw [List.mem_singleton.1 hx]; exact hb.2
    ·exact ⟨h, fun x hx => by
      rcases List.mem_append.1 hx with hx | hx
      ·exact hl x hx
      ·rw [List.mem_singleton.1 hx]; exact h.pair _ _⟩
theorem meansTo_in (h : DIn X ps d) (a : At) (but : Int) : ∀ j, j ≤ ps.length → DIn X ps (meansTo X ps a but d j).1 ∧ LIn (meansTo X ps a but d j).1 (meansTo X ps a but d j).2
 | 0, _ => ⟨h, fun x hx => by cases hx⟩
 | j + 1, hj => by
  have := meansTo_in h a but j (by omega)
  exact meanStep_in this.1 this.2 (by omega)
theorem ifLit_in (h : DIn X ps d) {i : Nat} (hi : i < ps.length) (f : Qm.W) (no : Bool) : (ifLit X ps i f no).natAbs ≤ d.vars := by
 unfold ifLit
 cases hix : ixOf f (pkOf ps i).fs with
 | none => exact Nat.zero_le _
 | some j =>
  dsimp only
  split
  ·rw [Int.natAbs_neg]; exact h.on i j hi (ixOf_lt hix)
  ·exact h.on i j hi (ixOf_lt hix)
theorem kidsD_in {i : Nat} : ∀ (ks : List Nd), (∀ x ∈ ks, ∀ d, DIn X ps d → DIn X ps (needD X ps i x d).1 ∧ (needD X ps i x d).2.natAbs ≤ (needD X ps i x d).1.vars) → ∀ d, DIn X ps d → DIn X ps (kidsD X ps i ks d).1 ∧ LIn (kidsD X ps i ks d).1 (kidsD X ps i ks d).2
 | [], _, d, h => ⟨h, fun x hx => by cases hx⟩
 | x :: r, ih, d, h => by
  have h1 := ih x (List.mem_cons_self ..) d h
  have h2 := kidsD_in r (fun y hy => ih y (List.mem_cons_of_mem _ hy)) _ h1.1
  have hle := kidsD_le X ps i r (fun y _ d => needD_le X ps i y d) (needD X ps i x d).1
  rw [kidsD]
  refine ⟨h2.1, fun z hz => ?_⟩
  rcases List.mem_cons.1 hz with rfl | hz
  ·exact Nat.le_trans h1.2 hle.1
  ·exact h2.2 z hz
theorem needD_in {i : Nat} (hi : i < ps.length) : ∀ (y : Nd) (d : Dk), DIn X ps d → DIn X ps (needD X ps i y d).1 ∧ (needD X ps i y d).2.natAbs ≤ (needD X ps i y d).1.vars := by
 refine Nd.ind fun kd a f no ks ih => ?_
 intro d h
 have hk := kidsD_in ks ih d h
 have hm := fun but => meansTo_in h a but ps.length (Nat.le_refl _)
 rw [needD]
 split
 ·exact oneD_in (hm _).1 (hm _).2
 ·split
  ·have := oneD_in (hm (i : Int)).1 (hm (i : Int)).2
   refine ⟨this.1, ?_⟩
   dsimp only
   rw [Int.natAbs_neg]; exact this.2
  ·split
   ·exact oneD_in hk.1 hk.2
   ·have hb := bothD_in hk.1 hk.2
    split
    ·exact oneD_in hb.1 (fun x hx => by
      simp only [List.mem_cons, List.not_mem_nil, or_false] at hx
      rcases hx with rfl | rfl
      ·rw [Int.natAbs_neg]; exact ifLit_in hb.1 hi f no
      ·exact hb.2)
    ·exact hb
end
end Go.Proofs.YtedbhlgjcnnknaaGreatDoor
