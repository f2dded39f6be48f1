/- Parts of the proof: walks and plain laws, side by side. -/
import Derived.Test.YtpipgffbhpnmkaaGreatDoorM23
import Derived.Test.YtpipgffbhpnmkaaGreatDoorM3
import Derived.Maps.RangeWalk
import Derived.Maps.OwnSet
import Derived.Test.YtpipgffbhpnmkaaGreatDoorM1
import Derived.WideKeyPair
import Derived.DeepKeys4
import Derived.Test.YtpipgffbhpnmkaaGreatDoorM2
set_option linter.unusedVariables false
set_option linter.unusedSimpArgs false
set_option linter.unusedSectionVars false
/- What a plan makes of what is there; who leans on something. No program in sight. -/
namespace Go.Proofs.YtpipgffbhpnmkaaGreatDoor
open Qm

/-! ### what a plan makes -/
theorem sameKey_iff {ps : List Pk} {a b : Mem} : sameKey ps a b = true ↔ keyOfM ps b = keyOfM ps a := by
  unfold sameKey keyOfM
  rw [Bool.and_eq_true, decide_eq_true_eq, decide_eq_true_eq, Prod.mk.injEq]
theorem key_inj {ps : List Pk} : ∀ {l : List Mem}, (l.map (keyOfM ps)).Nodup → ∀ {a b : Mem}, a ∈ l → b ∈ l → keyOfM ps a = keyOfM ps b → a = b
  | [], _, _, _, ha, _, _ => by cases ha
  | x :: r, h, a, b, ha, hb, e => by
    rw [List.map_cons, List.nodup_cons] at h
    rcases List.mem_cons.1 ha with ha2 | ha2
    · rcases List.mem_cons.1 hb with hb2 | hb2
      · rw [ha2, hb2]
      · exact absurd (List.mem_map.2 ⟨b, hb2, by rw [← ha2]; exact e.symm⟩) h.1
    · rcases List.mem_cons.1 hb with hb2 | hb2
      · exact absurd (List.mem_map.2 ⟨a, ha2, by rw [← hb2]; exact e⟩) h.1
      · exact key_inj h.2 ha2 hb2 e
theorem nodup_of_map {α β : Type} {f : α → β} : ∀ {l : List α}, (l.map f).Nodup → l.Nodup
  | [], _ => List.nodup_nil
  | x :: r, h => by
    rw [List.map_cons, List.nodup_cons] at h
    rw [List.nodup_cons]
    exact ⟨fun g => h.1 (List.mem_map.2 ⟨x, g, rfl⟩), nodup_of_map h.2⟩
/-- What OrderMakes asks of the acts. -/
structure ActsOk (ps : List Pk) (there l : List Mem) (az : List Ac) : Prop where
  outs : ∀ (i : Nat) (a : Ac), az[i]? = some a → a.out = true → a.m ∈ there ∧ a.cyc = 0 ∧ (∀ o ∈ l, keyOfM ps o ≠ keyOfM ps a.m) ∧ ∀ (j : Nat) (b : Ac), j < i → az[j]? = some b → b.out = true ∧ b.m ≠ a.m
  ins : ∀ (i : Nat) (a : Ac), az[i]? = some a → a.out = false → a.m ∈ l ∧ a.m ∉ there ∧ ∀ (j : Nat) (b : Ac), j < i → az[j]? = some b → b.out = false → b.m ≠ a.m
  all : ∀ m ∈ l, m ∉ there → ∃ a ∈ az, a.out = false ∧ a.m = m
  go : ∀ m ∈ there, (∀ o ∈ l, keyOfM ps o ≠ keyOfM ps m) → ∃ a ∈ az, a.out = true ∧ a.m = m
theorem memAt_mem {l : List Mem} {k : Nat} (hk : k < l.length) : memAt l k ∈ l := by
  unfold memAt; rw [List.getD_eq_getElem?_getD, List.getElem?_eq_getElem hk]; exact List.getElem_mem hk
theorem oldB_iff {there l : List Mem} {k : Nat} : oldB there l k = true ↔ memAt l k ∈ there := by
  unfold oldB
  rw [List.any_eq_true]
  constructor
  · rintro ⟨o, h1, h2⟩; rw [of_decide_eq_true h2]; exact h1
  · intro h; exact ⟨_, h, by simp⟩
theorem acts_ok {ps : List Pk} {there l : List Mem} (h1 : there.Nodup) (h2 : l.Nodup) : ActsOk ps there l (planL ps there l) := by
  obtain ⟨ks, f, he, hnd, hmem, _⟩ := planN_all ps there l
  have hgnd : (goneL ps there l).Nodup := by unfold goneL; exact h1.filter _
  have hsplit : ∀ (i : Nat) (a : Ac), (planL ps there l)[i]? = some a → (i < (goneL ps there l).length ∧ ∃ m, (goneL ps there l)[i]? = some m ∧ a = ⟨true, m, 0⟩) ∨ ((goneL ps there l).length ≤ i ∧ ∃ k, ks[i - (goneL ps there l).length]? = some k ∧ a = ⟨false, memAt l k, (f k : Int)⟩) := by
    intro i a ha
    unfold planL at ha
    rw [he] at ha
    by_cases hj : i < (goneL ps there l).length
    · rw [List.getElem?_append_left (by simpa using hj), List.getElem?_map] at ha
      cases hg : (goneL ps there l)[i]? with
      | none => rw [hg] at ha; cases ha
      | some m => rw [hg] at ha; injection ha with ha; exact .inl ⟨hj, m, rfl, ha.symm⟩
    · rw [List.getElem?_append_right (by simpa using hj), List.length_map, List.getElem?_map, List.getElem?_map] at ha
      cases hk : ks[i - (goneL ps there l).length]? with
      | none => rw [hk] at ha; cases ha
      | some k => rw [hk] at ha; injection ha with ha; exact .inr ⟨by omega, k, rfl, ha.symm⟩
  have hgone : ∀ m ∈ goneL ps there l, m ∈ there ∧ ∀ o ∈ l, keyOfM ps o ≠ keyOfM ps m := by
    intro m hm
    unfold goneL at hm
    obtain ⟨g1, g2⟩ := List.mem_filter.1 hm
    refine ⟨g1, fun o ho e => ?_⟩
    have : l.any (sameKey ps m) = true := List.any_eq_true.2 ⟨o, ho, sameKey_iff.2 e⟩
    rw [this] at g2; cases g2
  have hidx : ∀ {a b : Nat}, a < l.length → b < l.length → memAt l a = memAt l b → a = b := by
    intro a b ha hb e
    unfold memAt at e
    rw [List.getD_eq_getElem?_getD, List.getD_eq_getElem?_getD, List.getElem?_eq_getElem ha, List.getElem?_eq_getElem hb] at e
    simp only [Option.getD_some] at e
    exact (List.getElem_inj h2).1 e
  refine ⟨?_, ?_, ?_, ?_⟩
  · intro i a ha ho
    rcases hsplit i a ha with ⟨hi, m, hm, rfl⟩ | ⟨_, k, _, rfl⟩
    · obtain ⟨g1, g2⟩ := hgone m (List.mem_of_getElem? hm)
      refine ⟨g1, rfl, g2, fun j b hj hb => ?_⟩
      rcases hsplit j b hb with ⟨_, m', hm', rfl⟩ | ⟨hj2, _⟩
      · refine ⟨rfl, fun e => ?_⟩
        have e : m' = m := e
        subst e
        have := (List.getElem?_inj (List.getElem?_eq_some_iff.1 hm).1 hgnd).1 (hm.trans hm'.symm)
        omega
      · omega
    · cases ho
  · intro i a ha ho
    rcases hsplit i a ha with ⟨_, m, _, rfl⟩ | ⟨hi, k, hk, rfl⟩
    · cases ho
    · obtain ⟨g1, g2⟩ := (hmem k).1 (List.mem_of_getElem? hk)
      refine ⟨memAt_mem g1, fun h => (by rw [oldB_iff.2 h] at g2; cases g2), fun j b hj hb hbo => ?_⟩
      rcases hsplit j b hb with ⟨_, m', _, rfl⟩ | ⟨hj2, k', hk', rfl⟩
      · cases hbo
      · intro e
        have e : memAt l k' = memAt l k := e
        have := hidx ((hmem k').1 (List.mem_of_getElem? hk')).1 g1 e
        subst this
        have := (List.getElem?_inj (List.getElem?_eq_some_iff.1 hk).1 hnd).1 (hk.trans hk'.symm)
        omega
  · intro m hm hno
    obtain ⟨j, hj, rfl⟩ := List.getElem_of_mem hm
    have e : memAt l j = l[j] := by unfold memAt; rw [List.getD_eq_getElem?_getD, List.getElem?_eq_getElem hj]; rfl
    have hk : j ∈ ks := (hmem j).2 ⟨hj, by
      cases hb : oldB there l j
      · rfl
      · rw [oldB_iff, e] at hb; exact absurd hb hno⟩
    refine ⟨⟨false, memAt l j, (f j : Int)⟩, ?_, rfl, e⟩
    unfold planL
    rw [he]
    exact List.mem_append.2 (.inr (List.mem_map.2 ⟨(j, f j), List.mem_map.2 ⟨j, hk, rfl⟩, rfl⟩))
  · intro m hm hno
    refine ⟨⟨true, m, 0⟩, ?_, rfl, rfl⟩
    unfold planL
    refine List.mem_append.2 (.inl (List.mem_map.2 ⟨m, ?_, rfl⟩))
    unfold goneL
    refine List.mem_filter.2 ⟨hm, ?_⟩
    cases hc : l.any (sameKey ps m)
    · rfl
    · obtain ⟨o, ho, hs⟩ := List.any_eq_true.1 hc
      exact absurd (sameKey_iff.1 hs) (hno o ho)
/-- What stands at a name and slot. -/
def lookE (ps : List Pk) (E : List Mem) (k : Qm.W × Int) : Option Mem := E.find? fun o => decide (keyOfM ps o = k)
def delE (ps : List Pk) (E : List Mem) (m : Mem) : List Mem := E.filter fun o => decide (keyOfM ps o ≠ keyOfM ps m)
def putE (ps : List Pk) (E : List Mem) (m : Mem) : List Mem := delE ps E m ++ [m]
theorem lookE_some {ps : List Pk} {E : List Mem} (h : (E.map (keyOfM ps)).Nodup) {k : Qm.W × Int} {m : Mem} : lookE ps E k = some m ↔ m ∈ E ∧ keyOfM ps m = k := by
  unfold lookE
  constructor
  · intro g; exact ⟨List.mem_of_find?_eq_some g, by have := List.find?_some g; simpa using this⟩
  · rintro ⟨g1, g2⟩
    cases hf : E.find? fun o => decide (keyOfM ps o = k) with
    | none => exact absurd (List.find?_eq_none.1 hf m g1) (by simpa using g2)
    | some o =>
      have e1 : keyOfM ps o = k := by have := List.find?_some hf; simpa using this
      rw [key_inj h (List.mem_of_find?_eq_some hf) g1 (e1.trans g2.symm)]
theorem lookE_none {ps : List Pk} {E : List Mem} {k : Qm.W × Int} : lookE ps E k = none ↔ ∀ m ∈ E, keyOfM ps m ≠ k := by
  unfold lookE; rw [List.find?_eq_none]; simp
theorem mem_delE {ps : List Pk} {E : List Mem} {m x : Mem} : x ∈ delE ps E m ↔ x ∈ E ∧ keyOfM ps x ≠ keyOfM ps m := by
  unfold delE; rw [List.mem_filter]; simp
theorem mem_putE {ps : List Pk} {E : List Mem} {m x : Mem} : x ∈ putE ps E m ↔ (x ∈ E ∧ keyOfM ps x ≠ keyOfM ps m) ∨ x = m := by
  unfold putE; rw [List.mem_append, mem_delE, List.mem_singleton]
theorem delE_nd {ps : List Pk} {E : List Mem} (h : (E.map (keyOfM ps)).Nodup) (m : Mem) : ((delE ps E m).map (keyOfM ps)).Nodup := by
  unfold delE
  exact h.sublist (List.filter_sublist.map _)
theorem putE_nd {ps : List Pk} {E : List Mem} (h : (E.map (keyOfM ps)).Nodup) (m : Mem) : ((putE ps E m).map (keyOfM ps)).Nodup := by
  unfold putE
  rw [List.map_append, List.nodup_append]
  refine ⟨delE_nd h m, by simp, fun a ha b hb e => ?_⟩
  obtain ⟨x, hx, rfl⟩ := List.mem_map.1 ha
  rw [List.map_singleton, List.mem_singleton] at hb
  subst hb
  exact (mem_delE.1 hx).2 e
theorem delE_len {ps : List Pk} : ∀ {E : List Mem}, (E.map (keyOfM ps)).Nodup → ∀ (m : Mem), (delE ps E m).length + (if (lookE ps E (keyOfM ps m)).isSome = true then 1 else 0) = E.length
  | [], _, m => rfl
  | x :: r, h, m => by
    rw [List.map_cons, List.nodup_cons] at h
    unfold delE lookE
    rw [List.filter_cons, List.find?_cons]
    by_cases e : keyOfM ps x = keyOfM ps m
    · rw [if_neg (by simpa using e), decide_eq_true e]
      have : r.filter (fun o => decide (keyOfM ps o ≠ keyOfM ps m)) = r := List.filter_eq_self.2 fun o ho => decide_eq_true fun e2 => h.1 (List.mem_map.2 ⟨o, ho, e2.trans e.symm⟩)
      rw [this]; rfl
    · rw [if_pos (by simpa using e), decide_eq_false e]
      have := delE_len h.2 m
      unfold delE lookE at this
      simp only [List.length_cons]
      omega
theorem putE_len {ps : List Pk} {E : List Mem} (h : (E.map (keyOfM ps)).Nodup) (m : Mem) : (putE ps E m).length = if (lookE ps E (keyOfM ps m)).isSome = true then E.length else E.length + 1 := by
  have := delE_len h m
  unfold putE
  rw [List.length_append, List.length_singleton]
  split <;> rename_i hc
  · rw [if_pos hc] at this; exact this
  · rw [if_neg hc] at this; omega
theorem lookE_put {ps : List Pk} {E : List Mem} (h : (E.map (keyOfM ps)).Nodup) (m : Mem) (k : Qm.W × Int) : lookE ps (putE ps E m) k = if k = keyOfM ps m then some m else lookE ps E k := by
  by_cases e : k = keyOfM ps m
  · rw [if_pos e, lookE_some (putE_nd h m)]
    exact ⟨mem_putE.2 (.inr rfl), e.symm⟩
  · rw [if_neg e]
    cases hl : lookE ps E k with
    | none =>
      rw [lookE_none] at hl ⊢
      intro x hx
      rcases mem_putE.1 hx with ⟨g1, _⟩ | rfl
      · exact hl x g1
      · exact fun e2 => e e2.symm
    | some o =>
      obtain ⟨g1, g2⟩ := (lookE_some h).1 hl
      exact (lookE_some (putE_nd h m)).2 ⟨mem_putE.2 (.inl ⟨g1, by rw [g2]; exact e⟩), g2⟩
theorem lookE_del {ps : List Pk} {E : List Mem} (h : (E.map (keyOfM ps)).Nodup) (m : Mem) (k : Qm.W × Int) : lookE ps (delE ps E m) k = if k = keyOfM ps m then none else lookE ps E k := by
  by_cases e : k = keyOfM ps m
  · rw [if_pos e, lookE_none]
    intro x hx
    rw [e]; exact (mem_delE.1 hx).2
  · rw [if_neg e]
    cases hl : lookE ps E k with
    | none =>
      rw [lookE_none] at hl ⊢
      exact fun x hx => hl x (mem_delE.1 hx).1
    | some o =>
      obtain ⟨g1, g2⟩ := (lookE_some h).1 hl
      exact (lookE_some (delE_nd h m)).2 ⟨mem_delE.2 ⟨g1, by rw [g2]; exact e⟩, g2⟩
/-- What stands after so many acts. -/
structure Made (ps : List Pk) (there : List Mem) (az : List Ac) (i : Nat) (E : List Mem) : Prop where
  nd : (E.map (keyOfM ps)).Nodup
  mem : ∀ x, x ∈ E ↔ (∃ a ∈ az.take i, a.out = false ∧ a.m = x) ∨ (x ∈ there ∧ (∀ a ∈ az.take i, a.out = true → a.m ≠ x) ∧ ∀ a ∈ az.take i, a.out = false → keyOfM ps a.m ≠ keyOfM ps x)
theorem Made.zero {ps : List Pk} {there : List Mem} {az : List Ac} (h : (there.map (keyOfM ps)).Nodup) : Made ps there az 0 there :=
  ⟨h, fun x => by simp⟩
theorem take_mem {α : Type} {az : List α} {i : Nat} {a b : α} (h : az[i]? = some a) : b ∈ az.take (i + 1) ↔ b ∈ az.take i ∨ b = a := by
  obtain ⟨hi, rfl⟩ := List.getElem?_eq_some_iff.1 h
  rw [List.take_succ_eq_append_getElem hi, List.mem_append, List.mem_singleton]
theorem mem_take_at {α : Type} {az : List α} {i : Nat} {b : α} (h : b ∈ az.take i) : ∃ j, j < i ∧ az[j]? = some b := by
  obtain ⟨j, hj⟩ := List.getElem?_of_mem h
  have h2 := (List.getElem?_eq_some_iff.1 hj).1
  rw [List.length_take] at h2
  exact ⟨j, by omega, by rwa [List.getElem?_take_of_lt (by omega)] at hj⟩
/-- What goes out stands there. -/
theorem Made.out_has {ps : List Pk} {there l : List Mem} {az : List Ac} (A : ActsOk ps there l az) {i : Nat} {E : List Mem} (h : Made ps there az i E) {a : Ac} (ha : az[i]? = some a) (ho : a.out = true) : lookE ps E (keyOfM ps a.m) = some a.m := by
  obtain ⟨g1, _, _, g4⟩ := A.outs i a ha ho
  refine (lookE_some h.nd).2 ⟨(h.mem _).2 (.inr ⟨g1, fun b hb _ => ?_, fun b hb hbo => ?_⟩), rfl⟩
  · obtain ⟨j, hj, hjb⟩ := mem_take_at hb
    exact (g4 j b hj hjb).2
  · obtain ⟨j, hj, hjb⟩ := mem_take_at hb
    rw [(g4 j b hj hjb).1] at hbo; cases hbo
theorem Made.out_ {ps : List Pk} {there l : List Mem} {az : List Ac} (A : ActsOk ps there l az) (h1 : (there.map (keyOfM ps)).Nodup) {i : Nat} {E : List Mem} (h : Made ps there az i E) {a : Ac} (ha : az[i]? = some a) (ho : a.out = true) : Made ps there az (i + 1) (delE ps E a.m) := by
  obtain ⟨g1, _, _, g4⟩ := A.outs i a ha ho
  refine ⟨delE_nd h.nd _, fun x => ?_⟩
  rw [mem_delE, h.mem]
  constructor
  · rintro ⟨(⟨b, hb, hbo, rfl⟩ | ⟨q1, q2, q3⟩), hne⟩
    · exact .inl ⟨b, (take_mem ha).2 (.inl hb), hbo, rfl⟩
    · refine .inr ⟨q1, fun b hb hbo => ?_, fun b hb hbo => ?_⟩
      · rcases (take_mem ha).1 hb with hb | rfl
        · exact q2 b hb hbo
        · exact fun e => hne (by rw [e])
      · rcases (take_mem ha).1 hb with hb | rfl
        · exact q3 b hb hbo
        · rw [ho] at hbo; cases hbo
  · rintro (⟨b, hb, hbo, rfl⟩ | ⟨q1, q2, q3⟩)
    · rcases (take_mem ha).1 hb with hb | rfl
      · obtain ⟨j, hj, hjb⟩ := mem_take_at hb
        rw [(g4 j b hj hjb).1] at hbo; cases hbo
      · rw [ho] at hbo; cases hbo
    · refine ⟨.inr ⟨q1, fun b hb => q2 b ((take_mem ha).2 (.inl hb)), fun b hb => q3 b ((take_mem ha).2 (.inl hb))⟩, fun e => ?_⟩
      exact q2 a ((take_mem ha).2 (.inr rfl)) ho (key_inj h1 q1 g1 e).symm
/-- What is put in doesn't stand there yet. -/
theorem Made.in_new {ps : List Pk} {there l : List Mem} {az : List Ac} (A : ActsOk ps there l az) {i : Nat} {E : List Mem} (h : Made ps there az i E) {a : Ac} (ha : az[i]? = some a) (ho : a.out = false) {k : Qm.W × Int} : lookE ps E k ≠ some a.m := by
  obtain ⟨_, g2, g3⟩ := A.ins i a ha ho
  intro e
  obtain ⟨q1, _⟩ := (lookE_some h.nd).1 e
  rcases (h.mem _).1 q1 with ⟨b, hb, hbo, hbm⟩ | ⟨q1, _⟩
  · obtain ⟨j, hj, hjb⟩ := mem_take_at hb
    exact g3 j b hj hjb hbo hbm
  · exact g2 q1
theorem Made.in_ {ps : List Pk} {there l : List Mem} {az : List Ac} (A : ActsOk ps there l az) (h2 : (l.map (keyOfM ps)).Nodup) {i : Nat} {E : List Mem} (h : Made ps there az i E) {a : Ac} (ha : az[i]? = some a) (ho : a.out = false) : Made ps there az (i + 1) (putE ps E a.m) := by
  obtain ⟨g1, g2, g3⟩ := A.ins i a ha ho
  refine ⟨putE_nd h.nd _, fun x => ?_⟩
  rw [mem_putE, h.mem]
  constructor
  · rintro (⟨(⟨b, hb, hbo, rfl⟩ | ⟨q1, q2, q3⟩), hne⟩ | rfl)
    · exact .inl ⟨b, (take_mem ha).2 (.inl hb), hbo, rfl⟩
    · refine .inr ⟨q1, fun b hb hbo => ?_, fun b hb hbo => ?_⟩
      · rcases (take_mem ha).1 hb with hb | rfl
        · exact q2 b hb hbo
        · rw [ho] at hbo; cases hbo
      · rcases (take_mem ha).1 hb with hb | rfl
        · exact q3 b hb hbo
        · exact fun e => hne e.symm
    · exact .inl ⟨a, (take_mem ha).2 (.inr rfl), ho, rfl⟩
  · rintro (⟨b, hb, hbo, rfl⟩ | ⟨q1, q2, q3⟩)
    · rcases (take_mem ha).1 hb with hb | rfl
      · obtain ⟨j, hj, hjb⟩ := mem_take_at hb
        by_cases e : keyOfM ps b.m = keyOfM ps a.m
        · exact .inr (key_inj h2 (A.ins j b hjb hbo).1 g1 e)
        · exact .inl ⟨.inl ⟨b, hb, hbo, rfl⟩, e⟩
      · exact .inr rfl
    · exact .inl ⟨.inr ⟨q1, fun b hb => q2 b ((take_mem ha).2 (.inl hb)), fun b hb => q3 b ((take_mem ha).2 (.inl hb))⟩, fun e => q3 a ((take_mem ha).2 (.inr rfl)) ho e.symm⟩
/-- In the end the set stands there. -/
theorem Made.end_ {ps : List Pk} {there l : List Mem} {az : List Ac} (A : ActsOk ps there l az) (h1 : (there.map (keyOfM ps)).Nodup) (h2 : (l.map (keyOfM ps)).Nodup) {E : List Mem} (h : Made ps there az az.length E) : E.length = l.length ∧ ∀ m ∈ l, lookE ps E (keyOfM ps m) = some m := by
  have hm : ∀ x, x ∈ E ↔ x ∈ l := by
    intro x
    rw [h.mem, List.take_length]
    constructor
    · rintro (⟨b, hb, hbo, rfl⟩ | ⟨q1, q2, q3⟩)
      · obtain ⟨j, hj⟩ := List.getElem?_of_mem hb
        exact (A.ins j b hj hbo).1
      · refine Classical.byContradiction fun hx => ?_
        obtain ⟨o, ho, hk⟩ : ∃ o ∈ l, keyOfM ps o = keyOfM ps x := Classical.byContradiction fun hno => by
          obtain ⟨a, ha, hao, hax⟩ := A.go x q1 fun o ho e => hno ⟨o, ho, e⟩
          exact q2 a ha hao hax
        by_cases hot : o ∈ there
        · exact hx (by rw [← key_inj h1 hot q1 hk]; exact ho)
        · obtain ⟨a, ha, hao, hax⟩ := A.all o ho hot
          exact q3 a ha hao (by rw [hax]; exact hk)
    · intro hx
      by_cases hxt : x ∈ there
      · refine .inr ⟨hxt, fun a ha hao e => ?_, fun a ha hao e => ?_⟩
        · obtain ⟨j, hj⟩ := List.getElem?_of_mem ha
          exact (A.outs j a hj hao).2.2.1 x hx (by rw [e])
        · obtain ⟨j, hj⟩ := List.getElem?_of_mem ha
          obtain ⟨g1, g2, _⟩ := A.ins j a hj hao
          rw [key_inj h2 g1 hx e] at g2
          exact g2 hxt
      · exact .inl (A.all x hx hxt)
  refine ⟨((List.perm_ext_iff_of_nodup (nodup_of_map h.nd) (nodup_of_map h2)).2 hm).length_eq, fun m hm' => (lookE_some h.nd).2 ⟨(hm m).2 hm', rfl⟩⟩
end Go.Proofs.YtpipgffbhpnmkaaGreatDoor

/-
  A map from ints to bools all of whose entries hold: a set of ints. What the operations on it give.
-/
namespace Go.Proofs.YtpipgffbhpnmkaaGreatDoor
open Go.RowKit

/-- block b is a map that holds just the ints of K, each with true; there are m of them -/
def IntSet (P : Program) (w : World) (b : Nat) (K : Int → Bool) (m : Nat) : Prop :=
  ∃ D : DataW Unit, w.ownsMap P 3 (plainElem P 4) b m D ∧ Maps.size D = m ∧ ∀ x : Int, (Lit.int .i64 x).wf = true → Maps.has D (.int .i64 x) = K x ∧ D.atKey (.int .i64 x) (.lit (.bool false)) = .lit (.bool (K x))

section
variable {P : Program} {w w' : World} {b m : Nat} {K : Int → Bool}
theorem IntSet.made (P : Program) (w : World) : IntSet P (w.alloc (.map #[] 0)) w.heap.size (fun _ => false) 0 :=
  ⟨.map [], World.ownsMap_made w P 3 _, rfl, fun x _ => ⟨rfl, rfl⟩⟩
theorem IntSet.kept {row : Option Nat} (h : IntSet P w b K m) (hg : w.grownBy w' row) (hne : some b ≠ row) : IntSet P w' b K m := by
  obtain ⟨D, h1, h2⟩ := h
  exact ⟨D, h1.kept hg hne, h2⟩
theorem IntSet.lt (h : IntSet P w b K m) : b < w.heap.size := by obtain ⟨D, h1, _⟩ := h; exact h1.lt
theorem IntSet.congr {K' : Int → Bool} {m' : Nat} (h : IntSet P w b K m) (hm : m = m') (hK : ∀ x, (Lit.int .i64 x).wf = true → K x = K' x) : IntSet P w b K' m' := by
  subst hm
  obtain ⟨D, h1, h2, h3⟩ := h
  exact ⟨D, h1, h2, fun x hx => by rw [← hK x hx]; exact h3 x hx⟩
theorem IntSet.look (h : IntSet P w b K m) (hk : P.underlying 3 = some (.int .i64)) (he : P.underlying 4 = some .bool) (hz : (zeroValue 4).run P w = .ok (.bool false) w) {t : TypeId} (ht : P.underlying t = some (.map 3 4)) {x : Int} (hx : (Lit.int .i64 x).wf = true) :
    (Instr.lookup t (.map (some b)) (.int .i64 x) false).run P w = .ok (.bool (K x)) w := by
  obtain ⟨D, h1, _, h3⟩ := h
  obtain ⟨v, ps, hrun, hv⟩ := h1.lookup (Maps.int_keyed hk) ht hz (plainElem_bool he false) (Maps.keyOf_int_mk hk hx)
  rw [(h3 x hx).2] at hv
  have : v = .bool (K x) := by
    unfold plainElem at hv
    rw [he] at hv
    cases v <;> simp at hv
    rw [hv.1]
  rw [hrun, this]
theorem IntSet.len_ (h : IntSet P w b K m) {t : TypeId} (ht : P.underlying t = some (.map 3 4)) (ty : TypeId) : (Builtin.len_ #[t] ty #[.map (some b)]).run P w = .ok (.int .i64 m) w := by
  obtain ⟨D, h1, h2, _⟩ := h
  rw [h1.len ht ty, h2]
theorem IntSet.put (h : IntSet P w b K m) (hk : P.underlying 3 = some (.int .i64)) (he : P.underlying 4 = some .bool) {t : TypeId} (ht : P.underlying t = some (.map 3 4)) {x : Int} (hx : (Lit.int .i64 x).wf = true) (hm : m < maxLen) :
    ∃ w', (Instr.mapUpdate t (.map (some b)) (.int .i64 x) (.bool true)).run P w = .ok () w' ∧ IntSet P w' b (fun y => y == x || K y) (if K x then m else m + 1) ∧ w.grownBy w' (some b) ∧ w'.heap.size = w.heap.size := by
  obtain ⟨D, h1, h2, h3⟩ := h
  have Kd := Maps.int_keyed (P := P) hk
  have hkey := Maps.keyOf_int_mk (P := P) hk hx
  have hkl : WideAt.IsKeyLit (.int .i64 x) := Kd.key hkey
  obtain ⟨w', hrun, h4, h5⟩ := h1.store Kd ht hm hkey (plainElem_bool he true)
  have htd := h1.tidy Kd
  have hsz : Maps.size (D.put (.int .i64 x) (.lit (.bool true))) = if K x then m else m + 1 := by
    rw [Maps.size_put htd, (h3 x hx).1, h2]
  refine ⟨w', hrun, ⟨_, ?_, hsz, fun y hy => ?_⟩, h5.grown, ?_⟩
  · have e : Maps.size (D.put (.int .i64 x) (.lit (.bool true))) ≤ if K x then m else m + 1 := by rw [hsz]; exact Nat.le_refl _
    obtain ⟨es, clock, hb, F, hs, hD⟩ := h4
    refine ⟨es, clock, hb, F, ?_, hD⟩
    rw [hD] at e
    simpa [Maps.size, length_sorted] using e
  · by_cases hyx : y = x
    · subst hyx
      rw [Maps.has_put_same htd.isMap hkl, Maps.atKey_put_same htd.isMap hkl]
      simp
    · have hne : (Lit.int .i64 y) ≠ .int .i64 x := by intro e; injection e with _ e; exact hyx e
      rw [Maps.has_put_other hne, Maps.atKey_put_other hne]
      have : (y == x) = false := by simpa using hyx
      show _ = (y == x || K y) ∧ _ = DataW.lit (.bool (y == x || K y))
      rw [this, Bool.false_or]
      exact h3 y hy
  · obtain ⟨es, clock, es', clock', _, rfl⟩ := h5
    simp [ChangeMaps.setBlock]
end
end Go.Proofs.YtpipgffbhpnmkaaGreatDoor

/- A map with keys of one kind and elements of whatever type, by what it holds. What the operations on it give. -/
namespace Go.Proofs.YtpipgffbhpnmkaaGreatDoor
open Go.RowKit Go.WideMaps

/-- Keys of one type, each for one of κ. -/
structure KeyFam (P : Program) (k : TypeId) {κ : Type} (kv : κ → Value) (ok : κ → Prop) : Prop where
  law : Maps.Keyed P k
  key : ∀ i, ok i → ∃ kl, keyOf P k (kv i) = some kl
  inj : ∀ i j, ok i → ok j → kv i = kv j → i = j
def heldR (v : Value) : Option (DataW Value × List MemPlace) := some (.held v, [])
/-- block b is a map that holds, at the key of i, the value K i, where it holds any; there are m entries -/
def GMap (P : Program) (k : TypeId) {κ : Type} (kv : κ → Value) (ok : κ → Prop) (w : World) (b : Nat) (K : κ → Option Value) (m : Nat) : Prop :=
  ∃ D : DataW Value, w.ownsMap P k heldR b m D ∧ Maps.size D = m ∧ ∀ i kl, ok i → keyOf P k (kv i) = some kl → Maps.has D kl = (K i).isSome ∧ ∀ z, D.atKey kl (.held z) = .held ((K i).getD z)

section
variable {P : Program} {w w' : World} {k : TypeId} {κ : Type} {kv : κ → Value} {ok : κ → Prop} {b m : Nat} {K : κ → Option Value}
theorem GMap.made (P : Program) (k : TypeId) (kv : κ → Value) (ok : κ → Prop) (w : World) : GMap P k kv ok (w.alloc (.map #[] 0)) w.heap.size (fun _ => none) 0 :=
  ⟨.map [], World.ownsMap_made w P k _, rfl, fun _ _ _ _ => ⟨rfl, fun _ => rfl⟩⟩
theorem GMap.kept {row : Option Nat} (h : GMap P k kv ok w b K m) (hg : w.grownBy w' row) (hne : some b ≠ row) : GMap P k kv ok w' b K m := by
  obtain ⟨D, h1, h2⟩ := h
  exact ⟨D, h1.kept hg hne, h2⟩
theorem GMap.lt (h : GMap P k kv ok w b K m) : b < w.heap.size := by obtain ⟨D, h1, _⟩ := h; exact h1.lt
theorem GMap.congr {K' : κ → Option Value} {m' : Nat} (h : GMap P k kv ok w b K m) (hm : m = m') (hK : ∀ i, ok i → K i = K' i) : GMap P k kv ok w b K' m' := by
  subst hm
  obtain ⟨D, h1, h2, h3⟩ := h
  exact ⟨D, h1, h2, fun i kl hi hkl => by rw [← hK i hi]; exact h3 i kl hi hkl⟩
theorem GMap.look (h : GMap P k kv ok w b K m) (F : KeyFam P k kv ok) {t e : TypeId} (ht : P.underlying t = some (.map k e)) {z : Value} (hz : (zeroValue e).run P w = .ok z w) {i : κ} (hi : ok i) :
    (Instr.lookup t (.map (some b)) (kv i) false).run P w = .ok ((K i).getD z) w := by
  obtain ⟨D, h1, _, h3⟩ := h
  obtain ⟨kl, hkl⟩ := F.key i hi
  obtain ⟨v, ps, hrun, hv⟩ := h1.lookup F.law ht hz (show heldR z = some (.held z, []) from rfl) hkl
  rw [(h3 i kl hi hkl).2] at hv
  unfold heldR at hv
  simp only [Option.some.injEq, Prod.mk.injEq, DataW.held.injEq] at hv
  rw [hrun, hv.1]
theorem GMap.look_ok (h : GMap P k kv ok w b K m) (F : KeyFam P k kv ok) {t e : TypeId} (ht : P.underlying t = some (.map k e)) {z : Value} (hz : (zeroValue e).run P w = .ok z w) {i : κ} (hi : ok i) :
    (Instr.lookup t (.map (some b)) (kv i) true).run P w = .ok (.tuple #[(K i).getD z, .bool (K i).isSome]) w := by
  obtain ⟨D, h1, _, h3⟩ := h
  obtain ⟨kl, hkl⟩ := F.key i hi
  obtain ⟨v, ps, hrun, hv⟩ := h1.look_ok F.law ht hz (show heldR z = some (.held z, []) from rfl) hkl
  obtain ⟨g1, g2⟩ := h3 i kl hi hkl
  rw [g2] at hv
  unfold heldR at hv
  simp only [Option.some.injEq, Prod.mk.injEq, DataW.held.injEq] at hv
  rw [hrun, hv.1, g1]
theorem GMap.len_ (h : GMap P k kv ok w b K m) {t e : TypeId} (ht : P.underlying t = some (.map k e)) (ty : TypeId) : (Builtin.len_ #[t] ty #[.map (some b)]).run P w = .ok (.int .i64 m) w := by
  obtain ⟨D, h1, h2, _⟩ := h
  rw [h1.len ht ty, h2]
theorem ownsMap_exact {D : DataW Value} {n : Nat} (h : w.ownsMap P k heldR b n D) : w.ownsMap P k heldR b (Maps.size D) D := by
  obtain ⟨es, clock, hb, F, hs, hD⟩ := h
  refine ⟨es, clock, hb, F, ?_, hD⟩
  rw [hD]
  simp [Maps.size, length_sorted]
theorem GMap.put [DecidableEq κ] (h : GMap P k kv ok w b K m) (F : KeyFam P k kv ok) {t e : TypeId} (ht : P.underlying t = some (.map k e)) {i : κ} (hi : ok i) (v : Value) (hm : m < maxLen) :
    ∃ w', (Instr.mapUpdate t (.map (some b)) (kv i) v).run P w = .ok () w' ∧ GMap P k kv ok w' b (fun j => if j = i then some v else K j) (if (K i).isSome then m else m + 1) ∧ w.grownBy w' (some b) ∧ w'.heap.size = w.heap.size := by
  obtain ⟨D, h1, h2, h3⟩ := h
  obtain ⟨kl, hkey⟩ := F.key i hi
  have hkl : WideAt.IsKeyLit kl := F.law.key hkey
  obtain ⟨w', hrun, h4, h5⟩ := h1.store F.law ht hm hkey (show heldR v = some (.held v, []) from rfl)
  have htd := h1.tidy F.law
  have hsz : Maps.size (D.put kl (.held v)) = if (K i).isSome then m else m + 1 := by
    rw [Maps.size_put htd, (h3 i kl hi hkey).1, h2]
  have h6 := ownsMap_exact h4
  rw [hsz] at h6
  refine ⟨w', hrun, ⟨_, h6, hsz, fun j jl hj hjl => ?_⟩, h5.grown, ?_⟩
  · by_cases hji : j = i
    · subst hji
      obtain rfl : jl = kl := by rw [hkey] at hjl; exact (Option.some.inj hjl).symm
      rw [Maps.has_put_same htd.isMap hkl]
      dsimp only
      rw [if_pos rfl]
      refine ⟨rfl, fun z => ?_⟩
      rw [Maps.atKey_put_same htd.isMap hkl]; rfl
    · have hne : jl ≠ kl := by
        intro e
        subst e
        exact hji (F.inj j i hj hi (F.law.inj hjl hkey))
      rw [Maps.has_put_other hne]
      dsimp only
      rw [if_neg hji]
      refine ⟨(h3 j jl hj hjl).1, fun z => ?_⟩
      rw [Maps.atKey_put_other hne]
      exact (h3 j jl hj hjl).2 z
  · obtain ⟨es, clock, es', clock', _, rfl⟩ := h5
    simp [ChangeMaps.setBlock]
theorem GMap.drop [DecidableEq κ] (h : GMap P k kv ok w b K m) (F : KeyFam P k kv ok) {t e : TypeId} (ht : P.underlying t = some (.map k e)) {i : κ} (hi : ok i) (ty : TypeId) :
    ∃ w', (Builtin.delete_ #[t, k] ty #[.map (some b), kv i]).run P w = .ok (.tuple #[]) w' ∧ GMap P k kv ok w' b (fun j => if j = i then none else K j) (m - if (K i).isSome then 1 else 0) ∧ w.grownBy w' (some b) ∧ w'.heap.size = w.heap.size := by
  obtain ⟨D, h1, h2, h3⟩ := h
  obtain ⟨kl, hkey⟩ := F.key i hi
  have hkl : WideAt.IsKeyLit kl := F.law.key hkey
  obtain ⟨w', hrun, h4, h5⟩ := h1.drop F.law ht hkey ty
  have htd := h1.tidy F.law
  have hsz : Maps.size (D.del kl) = m - if (K i).isSome then 1 else 0 := by
    have := Maps.size_del (k := kl) htd
    rw [(h3 i kl hi hkey).1, h2] at this
    omega
  have h6 := ownsMap_exact h4
  rw [hsz] at h6
  refine ⟨w', hrun, ⟨_, h6, hsz, fun j jl hj hjl => ?_⟩, h5.grown, ?_⟩
  · by_cases hji : j = i
    · subst hji
      obtain rfl : jl = kl := by rw [hkey] at hjl; exact (Option.some.inj hjl).symm
      dsimp only
      rw [if_pos rfl]
      refine ⟨?_, fun z => ?_⟩
      · rw [Maps.has_del_same]; rfl
      · rw [Maps.atKey_del_same]; rfl
    · have hne : jl ≠ kl := by
        intro e
        subst e
        exact hji (F.inj j i hj hi (F.law.inj hjl hkey))
      rw [Maps.has_del_other hne]
      dsimp only
      rw [if_neg hji]
      refine ⟨(h3 j jl hj hjl).1, fun z => ?_⟩
      rw [Maps.atKey_del_other hne]
      exact (h3 j jl hj hjl).2 z
  · obtain ⟨es, clock, es', clock', _, rfl⟩ := h5
    simp [ChangeMaps.setBlock]
end
theorem keyOf_strs {P : Program} {k e : TypeId} (A : ArrKey P k e 2) (he : P.underlying e = some .string) (hsz : ∃ m, P.types.size = m + 1) {a b : ByteArray} (wa : a.size ≤ maxLen) (wb : b.size ≤ maxLen) :
    keyOf P k (.agg #[.string a, .string b]) = some (.string (keyBytes [.string a.data.toList, .string b.data.toList])) := by
  have hkt := A.keyType hsz
  obtain ⟨m, hm⟩ := hsz
  unfold keyOf
  simp only [A.hu]
  rw [if_pos (by simp [hkt, Value.formed, A.hu, A.size]), hm]
  unfold Program.keyLits
  simp only [A.hu, Value.cells]
  rw [if_pos (by rw [A.size]; rfl), show List.range 2 = [0, 1] from rfl, List.mapM_cons, List.mapM_cons, List.mapM_nil]
  simp [A.one, Program.keyLits, he, wa, wb]
/-- Names and slots as keys: two strings. -/
def nsVal (i : Qm.W × Int) : Value := .agg #[.string ⟨i.1.toArray⟩, .string ⟨#[UInt8.ofNat (48 + i.2.toNat)]⟩]
def nsOk (i : Qm.W × Int) : Prop := i.1.length ≤ maxLen ∧ 0 ≤ i.2 ∧ i.2 ≤ 9
theorem nsFam {P : Program} {k e : TypeId} (hl : Maps.Keyed P k) (A : ArrKey P k e 2) (he : P.underlying e = some .string) (hsz : ∃ m, P.types.size = m + 1) : KeyFam P k nsVal nsOk where
  law := hl
  key i hi := ⟨_, keyOf_strs A he hsz (by simpa [ByteArray.size] using hi.1) (by unfold maxLen; show 1 ≤ 2 ^ 63 - 1; decide)⟩
  inj i j hi hj h := by
    obtain ⟨a, x⟩ := i
    obtain ⟨b, y⟩ := j
    unfold nsVal at h
    simp only [Value.agg.injEq, Array.mk.injEq, List.cons.injEq, Value.string.injEq, ByteArray.mk.injEq, and_true] at h
    obtain ⟨h1, h2⟩ := h
    obtain ⟨_, hx0, hx9⟩ := hi
    obtain ⟨_, hy0, hy9⟩ := hj
    dsimp only at hx0 hx9 hy0 hy9 h1 h2
    have e1 : a = b := h1
    have e2 := congrArg UInt8.toNat h2
    simp only [UInt8.toNat_ofNat'] at e2
    have e3 : x = y := by omega
    rw [e1, e3]
end Go.Proofs.YtpipgffbhpnmkaaGreatDoor

/- The name and slot of a member as a map's key: OrderMakes' closure, walked. -/
namespace Go.Proofs.YtpipgffbhpnmkaaGreatDoor
open Go.RowKit Qm

theorem laidOutM : laidOutB Tryz.prog = true := by kernel_rfl
theorem strsRowM : (34 : TypeId) < Tryz.prog.types.size := of_decide_eq_true (by kernel_rfl)
theorem keyFam : KeyFam Tryz.prog 34 nsVal nsOk :=
  nsFam (e := 9) (Maps.Keyed.of_law (deep_law_laid laidOutM (m := 2) (by omega) strsRowM (by kernel_rfl) (by rw [Tryz.underlying34])))
    ⟨Tryz.underlying34, by kernel_rfl, by kernel_rfl, by kernel_rfl⟩ Tryz.underlying9 ⟨Tryz.prog.types.size - 1, by kernel_rfl⟩
theorem enc_digit {z : Int} (h0 : 1 ≤ z) (h1 : z ≤ 9) : Utf8.encode (48 + z) = ⟨#[UInt8.ofNat (48 + z.toNat)]⟩ := by
  obtain rfl | rfl | rfl | rfl | rfl | rfl | rfl | rfl | rfl : z = 1 ∨ z = 2 ∨ z = 3 ∨ z = 4 ∨ z = 5 ∨ z = 6 ∨ z = 7 ∨ z = 8 ∨ z = 9 := by omega
  all_goals decide +kernel
set_option maxRecDepth 100000 in
set_option maxHeartbeats 3200000 in
theorem omkey_any (ps : List Pk) (j : Nat) (E A : Option Addr) (u v0 n c tb : Nat) (S : Nat → Prop) (w : World) (hT : RTree w S A n ps) (hn : n ≤ 100000) (hS : ∀ k, S k → k < w.heap.size) (ht : w.cell? ⟨tb, 0, none⟩ = some (.slice A n c)) (hj : j < n) (hs : 1 ≤ (pkOf ps j).slot ∧ (pkOf ps j).slot ≤ 9) :
    Calls Tryz.prog 10 #[.agg #[.int .i64 (j : Int), .slice E u v0], .pointer (some ⟨tb, 0, none⟩)] w fun e w' => e = .returned (nsVal ((pkOf ps j).nm, (pkOf ps j).slot)) ∧ Below w.heap.size w w' := by
  obtain ⟨b2, o2, p, F, fn, fc, kd, pa, f, no, E2, r2, d2, rfl, hbS2, hp, hP, hcell⟩ := hT.at_ hj
  rw [pkOf_at hp] at hs ⊢
  have h0 := hcell 0 (by omega); have h1 := hcell 1 (by omega); have h2 := hcell 2 (by omega); have h3 := hcell 3 (by omega); have h4 := hcell 4 (by omega); have h5 := hcell 5 (by omega); have h6 := hcell 6 (by omega); have h7 := hcell 7 (by omega); have h8 := hcell 8 (by omega); have h9 := hcell 9 (by omega); have h10 := hcell 10 (by omega); have h11 := hcell 11 (by omega); have h12 := hcell 12 (by omega); have h13 := hcell 13 (by omega)
  unfold pkRow ndRow at h0 h1 h2 h3 h4 h5 h6 h7 h8 h9 h10 h11 h12 h13
  simp only [List.getElem?_cons_zero, List.getElem?_cons_succ, Nat.add_zero] at h0 h1 h2 h3 h4 h5 h6 h7 h8 h9 h10 h11 h12 h13
  have hbl2 : b2 < w.heap.size := hS _ hbS2
  have hbl3 : b2 < w.heap.size + 1 := by omega
  have tlt := World.block_lt_of_cell? _ _ ht
  dsimp only at tlt
  have tlt1 : tb < w.heap.size + 1 := by omega
  have hjn1 : (j : Int) < n := by omega
  have hjn0 : (0 : Int) ≤ (j : Int) := by omega
  obtain ⟨nm2, ver2, slot2, fs2, nd2⟩ := p
  dsimp only at hs h0 h1 h2 ⊢
  obtain ⟨hs1, hs9⟩ := hs
  have hw1 : IntKind.i64.wrap (48 + slot2) = 48 + slot2 := IntWalk.i64_in _ (by omega)
  have hw2 : IntKind.i32.wrap (48 + slot2) = 48 + slot2 := by simp only [IntKind.wrap, IntKind.bits, IntKind.signed]; (try simp); (try split) <;> omega
  have hcv := fun wx => run_convert_int_string (P := Tryz.prog) wx 21 9 .i32 (48 + slot2) (by kernel_rfl) Tryz.underlying9
  rw [enc_digit hs1 hs9] at hcv
  have HK : Hid (nsVal (nm2, slot2) = .agg #[.string ⟨nm2.toArray⟩, .string ⟨#[UInt8.ofNat (48 + slot2.toNat)]⟩]) := Lib.hid rfl
  generalize nsVal (nm2, slot2) = R at HK
  generalize (⟨#[UInt8.ofNat (48 + slot2.toNat)]⟩ : ByteArray) = sl at HK hcv
  clear hcell hP hp hT
  go_enter Tryz.func10, Tryz.ntmps10
  go_wp2
  (try simp only [Exit.inBlock, Exit.then])
  have RF : Whole (((w.alloc (.cells #[.int .i64 (j : Int), .slice E u v0] 33)).alloc (.cells #[.string ⟨nm2.toArray⟩, .string sl] 34)).alloc (.cells #[.string ⟨nm2.toArray⟩, .int .i64 ver2, .int .i64 slot2, .slice F fn fc, .int .i64 kd, .string ⟨pa.nm.toArray⟩, .int .i64 pa.op, .int .i64 pa.ver, .int .i64 pa.slot, .string ⟨pa.fl.toArray⟩, .bool pa.on, .string ⟨f.toArray⟩, .bool no, .slice E2 r2 d2] 42)) (w.heap.size + 1) 34 [.string ⟨nm2.toArray⟩, .string sl] :=
    (Whole.new (w.alloc (.cells #[.int .i64 (j : Int), .slice E u v0] 33)) (w.heap.size + 1) 34 [.string ⟨nm2.toArray⟩, .string sl] (by simp)).alloc _
  refine bodyPost_ret (results_cell_row rfl _ _ (w.heap.size + 1) 34 #[.string ⟨nm2.toArray⟩, .string sl] (0, 0) _ rfl RF Tryz.underlying34 rfl (by kernel_rfl)) rfl ?_
  exact ⟨by rw [HK.out], (((Below.refl _ w).alloc (Nat.le_refl _) _).alloc (by simp) _).alloc (by simp; omega) _⟩
end Go.Proofs.YtpipgffbhpnmkaaGreatDoor

/- Names and slots as words: equal just where both are. No program in sight. -/
namespace Go.Proofs.YtpipgffbhpnmkaaGreatDoor
open Go.RowKit Qm

theorem pkOf_ok {ps : List Pk} (h : ckTree ps = 0) {m : Mem} (hm : MemOk ps m) : PkOk (pkOf ps m.pl) := by
  obtain ⟨h0, h1, _⟩ := hm
  have hj : m.pl.toNat < ps.length := by omega
  have : pkOf ps m.pl = ps[m.pl.toNat] := by
    unfold pkOf
    rw [List.getD_eq_getElem?_getD, List.getElem?_eq_getElem hj]; rfl
  rw [this]
  exact pkOk (ckTree_mem h _ (List.getElem_mem hj))
end Go.Proofs.YtpipgffbhpnmkaaGreatDoor
