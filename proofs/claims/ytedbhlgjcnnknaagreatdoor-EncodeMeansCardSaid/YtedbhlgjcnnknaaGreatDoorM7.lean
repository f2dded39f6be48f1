/- Parts of the proof: walks and plain laws, side by side. -/
import Derived.Test.YtedbhlgjcnnknaaGreatDoorM6
import Derived.Test.YtedbhlgjcnnknaaGreatDoorM2
import Derived.Test.YtedbhlgjcnnknaaGreatDoorM3
import Derived.WalkSpells
import Derived.Test.YtedbhlgjcnnknaaGreatDoorM1
import Derived.Lib.AppendZerosOnto
import Derived.Lib.Walk
import Derived.Maps.AppendAt
import Derived.Test.YtedbhlgjcnnknaaGreatDoorM5
import Derived.LoopN
import Derived.WideKeyPair
import Derived.DeepKeys4
set_option linter.unusedVariables false
set_option linter.unusedSimpArgs false
set_option linter.unusedSectionVars false
namespace Go.Proofs.YtedbhlgjcnnknaaGreatDoor
/- A right wish's formula: its size; choices settle all; its models are the sets that may be; the least one. No program in sight. -/
section
open Go.RowKit Qm

def encW (ps : List Pk) (v : Ws) : Dk := encD (chW ps v) ps v.ts v.ms (manyC ps)
/-! ### a right wish's parts -/
theorem flagsBef_ckT {ps : List Pk} : ∀ (j : Nat), flagsBef ps j = ((ps.take j).map fun p => p.fs.length).sum ∨ ps.length < j
 | 0 => .inl rfl
 | j + 1 => by
  by_cases hj : j < ps.length
  ·rcases flagsBef_ckT j with h | h
   ·refine .inl ?_
    rw [List.take_succ_eq_append_getElem hj, List.map_append, List.sum_append, flagsBef, h]
    have : pkOf ps (j : Int) = ps[j] := by
     unfold pkOf
     rw [Int.toNat_natCast, List.getD_eq_getElem?_getD, List.getElem?_eq_getElem hj]; rfl
    rw [this]; simp
   ·omega
  ·exact .inr (by omega)
theorem ckT_sum : ∀ {ps : List Pk} {prev : Option Pk} {n : Nat}, ckT prev n ps = 0 → ps = [] ∨ n + (ps.map fun p => p.fs.length).sum ≤ 14
 | [], _, _, _ => .inl rfl
 | p :: r, prev, n, h => by
  simp only [ckT] at h
  split at h
  ·rename_i h1; exact absurd h h1
  ·split at h
   ·cases h
   ·split at h
    ·cases h
    ·rename_i h3
     refine .inr ?_
     simp only [List.map_cons, List.sum_cons]
     rcases ckT_sum h with rfl | h
     ·simp; omega
     ·omega
theorem tree_parts {ps : List Pk} (h : ckTree ps = 0) : ps.length ≤ 8 ∧ manyC ps ≤ 14 ∧ NdsOk ps := by
 have hm := ckTree_mem h
 unfold ckTree at h
 split at h
 ·cases h
 ·rename_i h8
  refine ⟨by omega, ?_, fun i hi => ?_⟩
  ·unfold manyC
   rcases flagsBef_ckT (ps := ps) ps.length with g | g
   ·rw [g, List.take_length]
    rcases ckT_sum h with rfl | h
    ·simp
    ·exact h
   ·omega
  ·have hp : pkOf ps (i : Int) = ps[i] := by
    unfold pkOf
    rw [Int.toNat_natCast, List.getD_eq_getElem?_getD, List.getElem?_eq_getElem hi]; rfl
   have := pkOk (hm _ (List.getElem_mem hi))
   rw [hp]
   exact ⟨(ckNeed_zero this.nd).2.1, this.sub⟩
theorem ckMask_in {ps : List Pk} : ∀ {ms : List Int} {prev : Option Int}, ckMask ps prev ms = 0 → ∀ k ∈ ms, 0 ≤ k ∧ k < ps.length
 | [], _, _, k, hk => by cases hk
 | x :: r, prev, h, k, hk => by
  simp only [ckMask] at h
  split at h
  ·cases h
  ·split at h
   ·cases h
   ·rcases List.mem_cons.1 hk with rfl | hk
    ·omega
    ·exact ckMask_in h k hk
theorem ckMask_len {ps : List Pk} : ∀ {ms : List Int} {p : Int}, ckMask ps (some p) ms = 0 → p < ps.length → (ms.length : Int) ≤ ps.length - 1 - p
 | [], p, _, hp => by simp; omega
 | x :: r, p, h, hp => by
  simp only [ckMask] at h
  split at h
  ·cases h
  ·split at h
   ·cases h
   ·rename_i h1 h2
    simp only [badPl, decide_eq_true_eq] at h2
    have := ckMask_len h (by omega)
    simp only [List.length_cons]; omega
theorem ckMask_short {ps : List Pk} : ∀ {ms : List Int}, ckMask ps none ms = 0 → ms.length ≤ ps.length
 | [], _ => Nat.zero_le _
 | x :: r, h => by
  simp only [ckMask] at h
  split at h
  ·cases h
  ·split at h
   ·cases h
   ·have := ckMask_len h (by omega)
    simp only [List.length_cons]; omega
structure WishOk (ps : List Pk) (v : Ws) : Prop where
 tree : ckTree ps = 0
 ok : WsOk ps v
 ts : v.ts.length ≤ 6
 ats : ckAts v.ts = 0
 ms : ckMask ps none v.ms = 0
 on : ckOn ps none v.on = 0
theorem wish_parts {ps : List Pk} {v : Ws} (h : ckWish ps v = 0) : WishOk ps v := by
 unfold ckWish at h
 split at h
 ·rename_i h1; exact absurd h h1
 ·rename_i h1
  have h1 : ckSet ps v.ins = 0 := by simpa using h1
  unfold ckSet at h1
  split at h1
  ·rename_i h2; exact absurd h1 h2
  ·rename_i h2
   unfold ckWishR at h
   split at h
   ·cases h
   ·split at h
    ·rename_i h3; exact absurd h h3
    ·split at h
     ·rename_i h4; exact absurd h h4
     ·rename_i h3 h4 h5
      exact ⟨by simpa using h2, ⟨h1⟩, by omega, by simpa using h4, by simpa using h5, h⟩
/-! ### what the formula is -/
theorem setOfM_congr {X : Chs} {ps : List Pk} {M : Nat} {K : List (Int × Int)} (hX : ChsOk ps M X K) {m m' : List Bool} (he : ∀ j, j < M → m.getD j false = m'.getD j false) : setOfM X ps m = setOfM X ps m' := by
 unfold setOfM takenM
 have h1 : (List.range ps.length).filter (fun i => litHolds m (X.pick i)) = (List.range ps.length).filter fun i => litHolds m' (X.pick i) := by
  refine List.filter_congr fun i hi => ?_
  rw [litHolds_take he (hX.pick i (List.mem_range.1 hi))]
 rw [h1]
 refine List.map_congr_left fun i hi => ?_
 have hi := (List.mem_range.1 (List.mem_filter.1 hi).1)
 unfold memM
 congr 1
 refine List.map_congr_left fun k hk => ?_
 exact litHolds_take he (hX.on i hi k (List.mem_range.1 hk))
structure EncOk (ps : List Pk) (v : Ws) (N : Nat) (cs : List (List Int)) : Prop where
 n400 : N ≤ 400
 many : manyC ps ≤ N
 many14 : manyC ps ≤ 14
 len : cs.length ≤ 4000
 cl : ∀ c ∈ cs, IsCl N c ∧ c.length ≤ 60
 settles : Settles N (manyC ps) cs
 sound : ∀ m, holdsF m cs = true → validP ps v.ts v.ms (setOfM (chW ps v) ps m) = true
 ext : ∀ m0 : List Bool, m0.length = manyC ps → validP ps v.ts v.ms (setOfM (chW ps v) ps m0) = true → ∃ m : List Bool, m.length = N ∧ (∀ j, j < manyC ps → m.getD j false = m0.getD j false) ∧ holdsF m cs = true
 one : ∀ m m' : List Bool, (∀ j, j < manyC ps → m.getD j false = m'.getD j false) → holdsF m cs = true → holdsF m' cs = true → ∀ j, j < N → m.getD j false = m'.getD j false
theorem encW_ok {ps : List Pk} {v : Ws} (h : ckWish ps v = 0) : EncOk ps v (encW ps v).vars (encW ps v).cls := by
 have W := wish_parts h
 obtain ⟨h8, h14, hN⟩ := tree_parts W.tree
 have hX := chW_ok W.ok
 have hm := ckMask_in W.ms
 have hms := ckMask_short W.ms
 have hts := W.ts
 obtain ⟨gs, hs, hb, hq, hv, hc, hl⟩ := encD_ok (ts := v.ts) hX h8 hN hm
 rw [keysW_len] at hv hc
 have hF : ps.length + flagsBef ps ps.length ≤ 14 := h14
 have hon : ∀ i, i < ps.length → ∀ k, k < (pkOf ps i).fs.length → (chW ps v).on i k ≠ 0 := fun i hi k hk => (hX.on i hi k hk).1
 have hval := fun m => validM_iff (m := m) hon hN (ts := v.ts) hm
 refine ⟨?_, hb.le, h14, ?_, fun c hcc => ⟨hb.cl c hcc, hl c hcc⟩, fun w hw hcl h0 => hb.total hw (Nat.le_refl _) hcl h0, fun m hm1 => ?_, fun m0 hl0 hv0 => ?_, fun m m' he h1 h2 => hb.one_ he (hb.holds.1 h1).1 (hb.holds.1 h2).1⟩
 ·show (encD (chW ps v) ps v.ts v.ms (manyC ps)).vars ≤ 400
  unfold manyC at hv ⊢; omega
 ·show (encD (chW ps v) ps v.ts v.ms (manyC ps)).cls.length ≤ 4000
  omega
 ·obtain ⟨g1, g2⟩ := hb.holds.1 hm1
  rw [← hval m, ← hq m g1]; exact g2
 ·obtain ⟨m, e1, e2, e3⟩ := hb.ext m0 hl0
  refine ⟨m, e1, e2, hb.holds.2 ⟨e3, ?_⟩⟩
  rw [hq m e3, hval m, setOfM_congr hX e2]
  exact hv0
/-! ### what follows from choices -/
def litsB (m : List Bool) : List Int := (List.range m.length).map fun (k : Nat) => if m.getD k false = true then (k : Int) + 1 else -((k : Int) + 1)
theorem litsB_lit {m : List Bool} {N : Nat} (hN : m.length ≤ N) : ∀ n ∈ litsB m, IsLit N n := by
 intro n hn
 obtain ⟨k, hk, rfl⟩ := List.mem_map.1 hn
 have hk := List.mem_range.1 hk
 split
 ·exact ⟨by omega, by omega⟩
 ·exact ⟨by omega, by omega⟩
theorem litsB_holds {m m' : List Bool} (he : ∀ j, j < m.length → m'.getD j false = m.getD j false) : ∀ n ∈ litsB m, litHolds m' n = true := by
 intro n hn
 obtain ⟨k, hk, rfl⟩ := List.mem_map.1 hn
 have hk := List.mem_range.1 hk
 by_cases hb : m.getD k false = true
 ·rw [if_pos hb]
  unfold litHolds
  have e1 : ((k : Int) + 1).natAbs - 1 = k := by omega
  rw [e1, he k hk, hb, decide_eq_true (show (0 : Int) < (k : Int) + 1 by omega)]; rfl
 ·rw [if_neg hb]
  unfold litHolds
  have e1 : (-((k : Int) + 1)).natAbs - 1 = k := by omega
  have hb : m.getD k false = false := by simpa using hb
  rw [e1, he k hk, hb, decide_eq_false (show ¬ (0 : Int) < -((k : Int) + 1) by omega)]; rfl
theorem litsB_of {m : List Bool} {w : List Int} (h : ∀ n ∈ litsB m, vof w n = 1) {j : Nat} (hj : j < m.length) : w.getD (j + 1) 0 ≠ 0 ∧ decide (0 < w.getD (j + 1) 0) = m.getD j false := by
 have := h _ (List.mem_map.2 ⟨j, List.mem_range.2 hj, rfl⟩)
 by_cases hb : m.getD j false = true
 ·rw [if_pos hb, vof_pos] at this
  rw [this, hb]; exact ⟨by decide, rfl⟩
 ·rw [if_neg hb, vof_neg _ _ (by omega), vof_pos] at this
  have h2 : w.getD (j + 1) 0 = -1 := by omega
  rw [h2]; exact ⟨by decide, by simpa using hb⟩
theorem follows_enc {ps : List Pk} {v : Ws} {N : Nat} {cs : List (List Int)} (E : EncOk ps v N cs) (hv : WsOk ps v) {m0 : List Bool} (hl : m0.length = manyC ps) :
  (validP ps v.ts v.ms (setOfM (chW ps v) ps m0) = true → ∃ w, followsV N cs (litsB m0) = some w) ∧
  ∀ w, followsV N cs (litsB m0) = some w → validP ps v.ts v.ms (setOfM (chW ps v) ps m0) = true ∧ idx0 w = none ∧ Fine N w ∧ holdsF (boolsOf w) cs = true := by
 have hlit := litsB_lit (m := m0) (N := N) (by have := E.many; omega)
 have hcl := fun c hc => (E.cl c hc).1
 refine ⟨fun hval => ?_, fun w hw => ?_⟩
 ·obtain ⟨m, e1, e2, e3⟩ := E.ext m0 hl hval
  obtain ⟨w, hw, _⟩ := fol_sound hcl e3 (az := litsB m0) fun n hn => ⟨hlit n hn, litsB_holds (m' := m) (fun j hj => e2 j (by omega)) n hn⟩
  exact ⟨w, hw⟩
 ·obtain ⟨h1, h2, h3, h4⟩ := fol_parts hcl hlit hw
  have hz := fun j (hj : j < manyC ps) => litsB_of h4 (j := j) (by omega)
  have ht := E.settles w h2 h1 fun j hj => (hz j hj).1
  have hh := total_holds hcl h2 h1 ht
  have hi : idx0 w = none := by
   cases hi : idx0 w with
   | none => rfl
   | some i =>
    obtain ⟨g1, g2, _⟩ := idx0_some h2 hi
    exact absurd g2 (ht i g1)
  refine ⟨?_, hi, h2, hh⟩
  have := E.sound _ hh
  rw [setOfM_congr (chW_ok hv) (m' := m0) fun j hj => ?_] at this
  ·exact this
  ·rw [boolsOf_at h2 (by have := E.many; omega)]; exact (hz j hj).2
/-! ### the least -/
theorem setOfM_ck {ps : List Pk} {X : Chs} {m : List Bool} (hp : ∀ i, i < ps.length → True) : ckMs ps none (setOfM X ps m) = 0 := by
 have key : ∀ (t : List Nat) (prev : Option Int), t.Pairwise (· < ·) → (∀ i ∈ t, i < ps.length) → (∀ q, prev = some q → ∀ i ∈ t, q < (i : Int)) → ckMs ps prev (t.map (memM X ps m)) = 0 := by
  intro t
  induction t with
  | nil => intro _ _ _ _; rfl
  | cons i r ih =>
   intro prev hs hr hq
   rw [List.pairwise_cons] at hs
   rw [List.map_cons]
   show (if (i : Int) < 0 ∨ (ps.length : Int) ≤ (i : Int) then (5 : Int) else if badPl prev (i : Int) = true then 6 else if (memM X ps m i).on.length ≠ (pkOf ps (i : Int)).fs.length then 4 else ckMs ps (some (i : Int)) (r.map (memM X ps m))) = 0
   have hi := hr i (List.mem_cons_self ..)
   rw [if_neg (by omega), if_neg, if_neg (by unfold memM; simp)]
   ·exact ih _ hs.2 (fun j hj => hr j (List.mem_cons_of_mem _ hj)) (fun q hq' j hj => by
     injection hq' with hq'; have := hs.1 j hj; omega)
   ·cases hpv : prev with
    | none => simp [badPl]
    | some q =>
     have := hq q hpv i (List.mem_cons_self ..)
     simp only [badPl, decide_eq_true_eq]; omega
 exact key _ _ taken_sorted (fun i hi => (mem_taken.1 hi).1) (fun q h => by cases h)
end
/- The best set that a wish asks for, in plain words (no program in sight). -/
section
open Go.RowKit Qm

/-! ### right wishes, by their parts -/
/-! ### what may be where less is asked -/
/-! ### the best one -/
structure Best (ps : List Pk) (v : Ws) (l : List Mem) : Prop where
 ck : ckMs ps none l = 0
 ok : validP ps v.ts v.ms l = true
 first : ∀ l', ckMs ps none l' = 0 → validP ps v.ts v.ms l' = true → LexLe (chVec ps v l) (chVec ps v l')
/-! ### who has it keeps it -/
/-! ### by trying all -/
end
/- What would have to be unmasked, and all choices one after the other: in plain words (no program in sight). -/
section
open Go.RowKit Qm

/-! ### what would have to be unmasked: q tells whether there is a set, with so many masked -/
structure UnmOk (q : List Int → Bool) (ks : List Int) (s : List Int × List Int) : Prop where
 s1 : s.1.Sublist ks
 s2 : s.2.Sublist ks
 part : ∀ k ∈ ks, k ∈ s.1 ∨ k ∈ s.2
 may : q s.1 = true
 no : ∀ k ∈ s.2, ∀ b, (∀ x ∈ s.1, x ∈ b) → k ∈ b → q b = false
/-! ### all choices, one after the other -/
end
/- Walks: Values.Set, Values.Spread, with spare cells behind the values (a clone's). -/
section
open Go.RowKit
end
/- Walks: slices.Clone over []int, []api.Clause. -/
section
open Go.RowKit


end
/- Lists of rows of ints by their headers: side by side. -/
section
open Go.RowKit
def hd (h : Option Addr × Nat × Nat) : Value := Value.slice h.1 h.2.1 h.2.2
def Heads (w : World) (S : Nat → Prop) (hs : List (Option Addr × Nat × Nat)) (cs : List (List Int)) : Prop :=
 cs.length = hs.length ∧ ∀ (j : Nat) (h : Option Addr × Nat × Nat) (c : List Int), hs[j]? = some h → cs[j]? = some c → RInts w S h.1 h.2.1 c ∧ h.2.1 ≤ h.2.2 ∧ h.2.2 ≤ maxLen
section
variable {w w' : World} {S S' : Nat → Prop} {A : Option Addr} {n : Nat} {cs ds : List (List Int)} {hs gs : List (Option Addr × Nat × Nat)}
theorem RClauses.of_ (hr : Row w S A n (hs.map hd)) (h : Heads w S hs cs) : RClauses w S A n cs := ⟨hs, hr, by have := hr.len; have := h.1; simp at *; omega, h.2⟩
theorem Heads.append (h : Heads w S hs cs) (g : Heads w S gs ds) : Heads w S (hs ++ gs) (cs ++ ds) := by
 refine ⟨by simp [h.1, g.1], fun j x c hx hc => ?_⟩
 by_cases hj : j < hs.length
 ·rw [List.getElem?_append_left hj] at hx
  rw [List.getElem?_append_left (by rw [h.1]; exact hj)] at hc
  exact h.2 j x c hx hc
 ·rw [List.getElem?_append_right (by omega)] at hx
  rw [List.getElem?_append_right (by rw [h.1]; omega), h.1] at hc
  exact g.2 _ x c hx hc
theorem Heads.one {A : Option Addr} {n c : Nat} {xs : List Int} (h : RInts w S A n xs) (hn : n ≤ c ∧ c ≤ maxLen) : Heads w S [(A, n, c)] [xs] := by
 refine ⟨rfl, fun j x y hx hy => ?_⟩
 match j with
 | 0 => simp at hx hy; subst hx hy; exact ⟨h, hn⟩
 | j + 1 => simp at hx
theorem Heads.nil_ : Heads w S [] [] := ⟨rfl, fun j x y hx _ => by simp at hx⟩
theorem Heads.below {B : Nat} (h : Heads w S hs cs) (hb : Below B w w') (hS : ∀ k, S k → k < B) : Heads w' S hs cs := ⟨h.1, fun j x c hx hc => ⟨(h.2 j x c hx hc).1.below hb hS, (h.2 j x c hx hc).2⟩⟩
theorem Heads.more (h : Heads w S hs cs) (hS : ∀ k, S k → S' k) : Heads w S' hs cs := ⟨h.1, fun j x c hx hc => ⟨(h.2 j x c hx hc).1.more hS, (h.2 j x c hx hc).2⟩⟩
theorem Heads.keep (h : Heads w S hs cs) (hk : ∀ p : Addr, S p.block → w'.cell? p = w.cell? p) : Heads w' S hs cs := ⟨h.1, fun j x c hx hc => ⟨(h.2 j x c hx hc).1.keep hk, (h.2 j x c hx hc).2⟩⟩
end
end
/- Lists of clauses by their headers: side by side. -/
section
open Go.RowKit
end
/- Laws and walks: append of whatever row; slices.Grow of nil, slices.Concat of two. -/
section
open Go.RowKit


end
/- What a call may change: some blocks alone. -/
section
open Go.RowKit
structure Far (D : Nat → Prop) (w w' : World) : Prop where
 base : Below 0 w w'
 block : ∀ i, i < w.heap.size → ¬ D i → w'.heap[i]? = w.heap[i]?
section
variable {w w' w'' : World} {D D' : Nat → Prop} {S : Nat → Prop} {A : Option Addr} {n b : Nat}
theorem Far.size (h : Far D w w') : w.heap.size ≤ w'.heap.size := h.base.size
theorem Far.refl (D : Nat → Prop) (w : World) : Far D w w := ⟨Below.refl _ _, fun _ _ _ => rfl⟩
theorem Far.trans (h : Far D w w') (k : Far D' w' w'') (hD : ∀ i, i < w.heap.size → D' i → D i) : Far D w w'' :=
 ⟨h.base.trans k.base, fun i hi hn => (k.block i (ql hi h.size) (fun hd => hn (hD i hi hd))).trans (h.block i hi hn)⟩
theorem Far.of_below (D : Nat → Prop) (h : Below w.heap.size w w') : Far D w w' := ⟨h.mono (Nat.zero_le _), fun i hi _ => h.block i hi⟩
theorem Far.of_grown {row : Option Nat} (h : w.grownBy w' row) (hD : ∀ i, some i = row → D i) : Far D w w' :=
 ⟨below_of_grown h (Nat.zero_le _) (fun _ _ => Nat.zero_le _), fun i hi hn => h.block i hi (fun e => hn (hD i e))⟩
theorem Far.set_ (hb : D b) (i : Nat) (u : Value) : Far D w (w.setCell ⟨b, i, none⟩ u) :=
 ⟨(Below.refl 0 w).setCell (Nat.zero_le _) _, fun k _ hn => heap_setCell_other w _ k u (fun e => hn (by rw [show k = b from e.symm ▸ rfl]; exact hb))⟩
theorem Far.drew (h : Far D w w') : Far D w w'.drew := ⟨below_drewN h.base 1, h.block⟩
theorem Far.drewN (h : Far D w w') (k : Nat) : Far D w (w'.drewN k) := ⟨below_drewN h.base k, h.block⟩
theorem Far.mono (h : Far D w w') (hD : ∀ i, D i → D' i) : Far D' w w' := ⟨h.base, fun i hi hn => h.block i hi (fun hd => hn (hD i hd))⟩
theorem Far.below (h : Far D w w') {B : Nat} (hB : B ≤ w.heap.size) (hD : ∀ i, D i → B ≤ i) : Below B w w' :=
 ⟨h.base.os, h.base.tape, h.base.output, h.size, fun i hi => h.block i (ql hi hB) (fun hd => absurd (hD i hd) (by omega))⟩
theorem Far.whole {t : TypeId} {vs : List Value} (h : Far D w w') (hw : Whole w b t vs) (hb : ¬ D b) : Whole w' b t vs := (h.block b hw.lt hb).trans hw
theorem Far.cell (h : Far D w w') {p : Addr} (hp : p.block < w.heap.size) (hn : ¬ D p.block) : w'.cell? p = w.cell? p := World.cell?_of_block (h.block _ hp hn)
theorem Far.ints {xs : List Int} (h : Far D w w') (hr : RInts w S A n xs) (hS : ∀ k, S k → k < w.heap.size ∧ ¬ D k) : RInts w' S A n xs := hr.keep fun _ hp => h.cell (hS _ hp).1 (hS _ hp).2
theorem Far.clauses {cs : List (List Int)} (h : Far D w w') (hr : RClauses w S A n cs) (hS : ∀ k, S k → k < w.heap.size ∧ ¬ D k) : RClauses w' S A n cs := hr.keep fun _ hp => h.cell (hS _ hp).1 (hS _ hp).2
theorem Far.own {base : Nat} {e : TypeId} {size : Nat} {v : Value} {vs : List Value} (h : Far D w w') (ho : w.ownsRow base e size v n vs) (hv : ∀ g, v.ownBlock = some g → ¬ D g) : w'.ownsRow base e size v n vs := by
 rcases ho.2 with h0 | ⟨g, cap, cur, rfl, hb, hh, hc, hm, hs, ht⟩
 ·exact ⟨ho.1, .inl h0⟩
 ·exact ⟨ho.1, .inr ⟨g, cap, cur, rfl, hb, (h.block g (lt_of_block hh) (hv g rfl)).trans hh, hc, hm, hs, ht⟩⟩
theorem own_ne {base : Nat} {e t : TypeId} {size : Nat} {v : Value} {vs us : List Value} (ho : w.ownsRow base e size v n vs) (hw : Whole w b t us) (ht : t ≠ e) : v.ownBlock ≠ some b := by
 rcases ho.2 with ⟨rfl, _⟩ | ⟨g, cap, cur, rfl, _, hh, _⟩
 ·intro h; cases h
 ·intro h
  simp only [Value.ownBlock] at h
  injection h with h
  subst h
  unfold Whole at hw
  rw [hh] at hw
  injection hw with hw; injection hw with _ hw
  exact ht hw.symm
end
end
/- What a call may change: some blocks alone; the search's 'no'. -/
section
open Go.RowKit
section
variable {w w' : World} {D : Nat → Prop} {S : Nat → Prop}
theorem Far.heads {hs : List (Option Addr × Nat × Nat)} {cs : List (List Int)} (h : Far D w w') (hr : Heads w S hs cs) (hS : ∀ k, S k → k < w.heap.size ∧ ¬ D k) : Heads w' S hs cs := hr.keep fun _ hp => h.cell (hS _ hp).1 (hS _ hp).2
end
def SBlk (w : World) (b : Nat) (vars : Int) (A : Option Addr) (n cap : Nat) (st : Int) (P M : Value) (out : Bool) : Prop :=
 Whole w b 125 [.int .i64 vars, .slice A n cap, .int .i64 st, P, M, .bool out]
end
/- Walks: slices.Index, slices.Contains over ints. -/
section
open Go.RowKit
end
/- The search's state in memory; what 'from' leaves. -/
section
open Go.RowKit
def Inner (base b hi : Nat) (P : Value) (k : Nat) : Prop := base ≤ k ∧ k < hi ∧ k ≠ b ∧ P.ownBlock ≠ some k
structure SState (base b : Nat) (N : Nat) (A : Option Addr) (n cap : Nat) (cs : List (List Int)) (S0 : Nat → Prop) (st : Nat) (P : Value) (hs : List (Option Addr × Nat × Nat)) (pf : List (List Int)) (hi : Nat) (w : World) : Prop where
 blk : SBlk w b (N : Int) A n cap (st : Int) P (.slice none 0 0) false
 own : w.ownsRow base 117 1 P pf.length (hs.map hd)
 own_hi : ∀ g, P.ownBlock = some g → g < hi
 heads : Heads w (Inner base b hi P) hs pf
 cls : RClauses w S0 A n cs
 hi_ : hi ≤ w.heap.size
 base_ : base ≤ hi
 s0 : ∀ k, S0 k → k < base ∧ k ≠ b
section
variable {base b N n cap st hi : Nat} {A : Option Addr} {cs : List (List Int)} {S0 : Nat → Prop} {P : Value} {hs : List (Option Addr × Nat × Nat)} {pf : List (List Int)} {w w' : World}
theorem SState.far {D : Nat → Prop} (h : SState base b N A n cap cs S0 st P hs pf hi w) (k : Far D w w') (hD : ∀ i, i < hi → ¬ D i) (hb : ¬ D b) : SState base b N A n cap cs S0 st P hs pf hi w' where
 blk := k.whole h.blk hb
 own := k.own h.own (fun g hg => hD g (h.own_hi g hg))
 own_hi := h.own_hi
 heads := k.heads h.heads (fun j hj => ⟨ql hj.2.1 h.hi_, hD j hj.2.1⟩)
 cls := k.clauses h.cls (fun j hj => by have := h.s0 j hj; have := h.base_; have := h.hi_; exact ⟨by omega, hD j (by omega)⟩)
 hi_ := Nat.le_trans h.hi_ k.size
 base_ := h.base_
 s0 := h.s0
theorem SState.below (h : SState base b N A n cap cs S0 st P hs pf hi w) (k : Below w.heap.size w w') : SState base b N A n cap cs S0 st P hs pf hi w' := h.far (Far.of_below (fun _ => False) k) (fun _ _ h => h) (fun h => h)
theorem SState.drewN (h : SState base b N A n cap cs S0 st P hs pf hi w) (k : Nat) : SState base b N A n cap cs S0 st P hs pf hi (w.drewN k) := h.below (below_drewN (Below.refl _ _) k)
theorem Inner.mono {hi hi' : Nat} (hh : hi ≤ hi') {k : Nat} (h : Inner base b hi P k) : Inner base b hi' P k := ⟨h.1, by have := h.2.1; omega, h.2.2⟩
end
end
/- Walk: the search's 'from'. -/
section
open Go.RowKit
end
/- Walk: sat.Solve. -/
section
open Go.RowKit
end
/- Plain: what RupMore says of badErr, badK, refOk. -/
section
open Go.RowKit
theorem ckClauses_zero {cs : List (List Int)} {vars : Int} (h : ∀ c ∈ cs, ckClause c vars = 0) : ckClauses cs vars = 0 :=
 ckClauses_good (k := cs.length) (fun c hc => h c (List.mem_of_mem_take hc)) rfl
end
/- Walk: cnf.Holds. -/
section
open Go.RowKit
theorem callFunc48 (args : Array Value) (W : World) : (callFunc 63 args).run Tryz.prog W = .ok (.enter 63 args) W := by kernel_rfl
theorem all_no {m : List Bool} {cs : List (List Int)} {k : Nat} {c : List Int} (hk : k < cs.length) (hc : cs.getD k [] = c) (h : c.any (Qm.litHolds m) = false) : Qm.holdsF m cs = false := by
 unfold Qm.holdsF
 rw [List.all_eq_false]
 rw [List.getD_eq_getElem?_getD, List.getElem?_eq_getElem hk, Option.getD_some] at hc
 exact ⟨c, by rw [← hc]; exact List.getElem_mem hk, by rw [h]; simp⟩
theorem all_yes {m : List Bool} {cs : List (List Int)} {k : Nat} (hk : k = cs.length) (h : (cs.take k).all (fun c => c.any (Qm.litHolds m)) = true) : Qm.holdsF m cs = true := by
 rw [hk, List.take_length] at h; exact h
theorem all_next {m : List Bool} {cs : List (List Int)} {k : Nat} {c : List Int} (hk : k < cs.length) (hc : cs.getD k [] = c) (h : c.any (Qm.litHolds m) = true) (h1 : (cs.take k).all (fun c => c.any (Qm.litHolds m)) = true) : (cs.take (k+1)).all (fun c => c.any (Qm.litHolds m)) = true := by
 rw [List.getD_eq_getElem?_getD, List.getElem?_eq_getElem hk, Option.getD_some] at hc
 rw [List.take_succ_eq_append_getElem hk, List.all_append, h1, hc]; simp; exact List.any_eq_true.1 h

set_option maxHeartbeats 2000000 in
theorem choldsF_any (A Am : Option Addr) (n cap nm cm : Nat) (vars : Int) (cs : List (List Int)) (m : List Bool) (w : World) (S : Nat → Prop) (hS : ∀ k, S k → k < w.heap.size)
  (hr : RClauses w S A n cs) (hm : RBools w S Am nm m) (hn : n ≤ cap ∧ cap ≤ maxLen) (hnm : nm ≤ maxLen) (hv : -9223372036854775808 ≤ vars) (hv' : vars ≤ 9223372036854775807) :
  Calls Tryz.prog 20 #[.agg #[.int .i64 vars, .slice A n cap], .slice Am nm cm] w fun e w' => e = .returned (.tuple #[.bool (holdsOk vars cs m), .int .i64 (holdsErr vars cs m)]) ∧ Below w.heap.size w w' := by
 have Hr := qh hr; have Hm := qh hm; have Hn := qh hn
 clear hr hm hn
 unfold maxLen at hnm
 have hb0 : Below w.heap.size w ((w.alloc (.cells #[.int .i64 vars, .slice A n cap] 33)).alloc (.cells #[.slice Am nm cm] 40)) := ((Below.refl _ _).alloc (qr _) _).alloc (by simp) _
 have hck := checkFormula_any A n cap cs vars _ S (Hr.out.below hb0 hS) (fun k hk => by have := hS k hk; simp; omega) (Nat.le_trans Hn.out.1 Hn.out.2) hv hv'
 generalize he : ckFormula vars cs = E at hck
 have He := qh he; clear he
 have Hck := qh hck; have Hb0 := qh hb0
 clear hck hb0
 go_enter Tryz.func20, Tryz.ntmps20
 go_wp2_with fail
 refine Hck.out.mono ?_
 rintro e w1 ⟨rfl, hb1⟩
 have hW1 : Whole w1 w.heap.size 33 [.int .i64 vars, .slice A n cap] := Whole.below (Whole.alloc (Whole.new w _ _ _ rfl) _) hb1 (by simp; omega)
 have hM1 : Whole w1 (w.heap.size + 1) 40 [.slice Am nm cm] := Whole.below (Whole.new _ _ _ _ (by simp)) hb1 (by simp)
 have Hb1 := qh (Hb0.out.trans (hb1.mono (by simp; omega)))
 clear hb1
 have hf0 := hW1.cell 0
 have hf1 := hW1.cell 1
 have hm0 := hM1.cell 0
 simp only [qgz, qgs] at hf0 hf1 hm0
 clear hW1 hM1
 by_cases hE : E = 0
 ·subst hE
  have hml := Hm.out.len
  by_cases hl : (nm : Int) = vars
  ·subst hl
   obtain ⟨N, hNv, hN, hcl, hcs⟩ := ckFormula_ok He.out
   obtain rfl : N = nm := by omega
   have HE : Hid (holdsErr (N : Int) cs m = 0) := by show _ = _; unfold holdsErr; rw [if_neg (by rw [He.out]; simp), if_neg (by rw [hml]; simp)]
   have HO : Hid (holdsOk (N : Int) cs m = Qm.holdsF m cs) := by show _ = _; unfold holdsOk; rw [HE.out]; simp
   have Hcs := qh hcs; clear hcs hml hNv
   have hne : ((N : Int) != (N : Int)) = false := by simp
   have hn2 : n ≤ 4000 := by rw [← Hr.out.len]; exact hcl
   go_wp2_with fail
   go_loopg [22] n (fun g i wr => ∃ (k d : Nat), Hid (k + g = n) ∧ i = .int .i64 k ∧ wr = w1.drewN d ∧ Hid ((cs.take k).all (fun c => c.any (Qm.litHolds m)) = true))
   case atStart => exact ⟨0, 0, Nat.zero_add _, rfl, rfl, rfl⟩
   case round =>
    obtain ⟨k, d, Hk, rfl, rfl, Hall⟩ := hrel
    by_cases hk : k < n
    ·obtain ⟨bp, op, A2, n2, c2, rfl, hbp, hcell, hc, hnc, hcm⟩ := (Hr.out.below Hb1.out hS).at_ hk
     have hlc : k < cs.length := by rw [Hr.out.len]; exact hk
     have hmem := Hcs.out _ (getD_mem (l := cs) (k := k) (d := []) hlc)
     generalize hcd : cs.getD k [] = c at hc hmem
     have Hcd := qh hcd; have Hlc := qh hlc; clear hcd hlc
     have hcall := containsFuncC_any A2 n2 c2 c 63 #[.pointer (some ⟨w.heap.size + 1, 0, none⟩)] (Qm.litHolds m) (w1.drewN d) S hc (Nat.le_trans hnc hcm)
      ⟨callFunc48, fun x hx d' => by
       have := holdsLit_any x (w.heap.size + 1) Am N cm m ((w1.drewN d).drewN d') S hm0 (Hm.out.below (below_drewN (below_drewN Hb1.out d) d') hS) (hmem.1 x hx) hN
       exact this.mono fun e w' ⟨h1, q, h2⟩ => ⟨h1, d' + q, by rw [h2, World.drewN_drewN]⟩⟩
     generalize hb : c.any (Qm.litHolds m) = bb at hcall
     have Hb := qh hb
     have Hcall := qh hcall
     clear hcall hb hc hmem
     cases bb
     ·go_wp2_with fail
      refine Hcall.out.mono ?_
      rintro e w' ⟨rfl, q, rfl⟩
      go_wp2_with fail
      go_ret2
      exact ⟨ret2_bi (by rw [HO.out, all_no Hlc.out Hcd.out Hb.out]) HE.out.symm, below_drewN Hb1.out _⟩
     ·go_wp2_with fail
      refine Hcall.out.mono ?_
      rintro e w' ⟨rfl, q, rfl⟩
      go_wp2_with fail
      go_roundg (gk - 1)
      case measure => have := Hk.out; omega
      case rel => exact ⟨k + 1, d + q, by have := Hk.out; show _ = _; omega, by go_num, by first | rfl | exact World.drewN_drewN _ _ _, all_next Hlc.out Hcd.out Hb.out Hall.out⟩
    ·go_wp2_with fail
     go_ret2
     exact ⟨ret2_bi (by rw [HO.out, all_yes (by rw [Hr.out.len]; have := Hk.out; omega) Hall.out]) HE.out.symm, below_drewN Hb1.out _⟩
  ·have hl' : ((nm : Int) != vars) = true := by simpa using hl
   have HE : Hid (holdsErr vars cs m = 4) := by show _ = _; unfold holdsErr; rw [if_neg (by rw [He.out]; simp), if_pos (by rw [hml]; exact hl)]
   have HO : Hid (holdsOk vars cs m = false) := by show _ = _; unfold holdsOk; rw [HE.out]; simp
   clear hl hml
   go_wp2_with fail
   go_ret2
   exact ⟨ret2_bi HO.out.symm HE.out.symm, Hb1.out⟩
 ·have hE' : (E != 0) = true := by simpa using hE
  have HE : Hid (holdsErr vars cs m = E) := by show _ = _; unfold holdsErr; rw [if_pos (by rw [He.out]; exact hE), He.out]
  have HO : Hid (holdsOk vars cs m = false) := by show _ = _; unfold holdsOk; rw [HE.out]; simp [hE]
  clear hE
  go_wp2_with fail
  go_ret2
  exact ⟨ret2_bi HO.out.symm HE.out.symm, Hb1.out⟩
end
/- Plain: what Solve tells: the least model, or a proof. -/
section
open Go.RowKit
theorem ckClause_of {N : Nat} {c : List Int} (h : Qm.IsCl N c) (hl : c.length ≤ 60) : ckClause c (N : Int) = 0 := by
 unfold ckClause
 rw [if_neg (by omega), if_neg]
 intro h2
 obtain ⟨x, hx, hb⟩ := List.any_eq_true.1 h2
 have h3 := h x hx
 have h4 := h3.1
 have h5 := h3.2
 rw [badLit_no (by omega)] at hb
 cases hb
end
/- The search over a wish's formula takes at most twice as many steps as there are choices' models. No program in sight. -/
section
open Go.RowKit Qm

theorem enc_formula {ps : List Pk} {v : Ws} (h : ckWish ps v = 0) : ckFormula ((encW ps v).vars : Int) (encW ps v).cls = 0 := by
 have E := encW_ok h
 have h1 := E.n400
 unfold ckFormula
 rw [if_neg (by omega), if_neg (by have := E.len; omega)]
 exact ckClauses_zero fun c hc => ckClause_of (E.cl c hc).1 (E.cl c hc).2
end
/- Plain: a model forbidden; the least model again. -/
section
open Go.RowKit
end
/- A map from pairs of ints to ints, by what it holds (0 where it holds nothing). What the operations on it give. -/
section
open Go.RowKit Go.WideMaps

def keyL (x y : Int) : Lit := .string (keyBytes [.int .i64 x, .int .i64 y])
structure PairKey (P : Program) (k : TypeId) : Prop where
 law : Maps.Keyed P k
 arr : ArrKey P k 3 2
 i : P.underlying 3 = some (.int .i64)
 sz : ∃ m, P.types.size = m + 1
section
variable {P : Program} {w w' : World} {k : TypeId} {b m : Nat} {K : Int → Int → Int}
theorem PairKey.key (h : PairKey P k) {x y : Int} (hx : (Lit.int .i64 x).wf = true) (hy : (Lit.int .i64 y).wf = true) : keyOf P k (.agg #[.int .i64 x, .int .i64 y]) = some (keyL x y) := keyOf_pair h.arr h.i h.sz hx hy
theorem PairKey.ne (h : PairKey P k) {x y n f : Int} (hx : (Lit.int .i64 x).wf = true) (hy : (Lit.int .i64 y).wf = true) (hn : (Lit.int .i64 n).wf = true) (hf : (Lit.int .i64 f).wf = true) (hne : ¬ (x = n ∧ y = f)) : keyL x y ≠ keyL n f := by
 intro e
 have h1 := h.key hx hy
 rw [e] at h1
 have h2 := h.law.inj h1 (h.key hn hf)
 injection h2 with h2; injection h2 with h2
 simp only [List.cons.injEq, Value.int.injEq, true_and, and_true] at h2
 exact hne h2
def PairMap (P : Program) (k : TypeId) (w : World) (b : Nat) (K : Int → Int → Int) (m : Nat) : Prop :=
 ∃ D : DataW Unit, w.ownsMap P k (plainElem P 3) b m D ∧ ∀ x y : Int, (Lit.int .i64 x).wf = true → (Lit.int .i64 y).wf = true → D.atKey (keyL x y) (.lit (.int .i64 0)) = .lit (.int .i64 (K x y))
theorem PairMap.made (P : Program) (k : TypeId) (w : World) : PairMap P k (w.alloc (.map #[] 0)) w.heap.size (fun _ _ => 0) 0 :=
 ⟨.map [], World.ownsMap_made w P k _, fun _ _ _ _ => rfl⟩
theorem PairMap.kept {row : Option Nat} (h : PairMap P k w b K m) (hg : w.grownBy w' row) (hne : some b ≠ row) : PairMap P k w' b K m := by
 obtain ⟨D, h1, h2⟩ := h
 exact ⟨D, h1.kept hg hne, h2⟩
theorem PairMap.block (h : PairMap P k w b K m) (hb : w'.heap[b]? = w.heap[b]?) : PairMap P k w' b K m := by
 obtain ⟨D, ⟨es, clock, h1, r⟩, h2⟩ := h
 exact ⟨D, ⟨es, clock, hb.trans h1, r⟩, h2⟩
theorem PairMap.mono {m' : Nat} (h : PairMap P k w b K m) (hm : m ≤ m') : PairMap P k w b K m' := by
 obtain ⟨D, h1, h2⟩ := h
 exact ⟨D, h1.mono hm, h2⟩
theorem PairMap.lt (h : PairMap P k w b K m) : b < w.heap.size := by obtain ⟨D, h1, _⟩ := h; exact h1.lt
theorem PairMap.look (h : PairMap P k w b K m) (hk : PairKey P k) (hz : (zeroValue 3).run P w = .ok (.int .i64 0) w) {t : TypeId} (ht : P.underlying t = some (.map k 3)) {x y : Int} (hx : (Lit.int .i64 x).wf = true) (hy : (Lit.int .i64 y).wf = true) :
  (Instr.lookup t (.map (some b)) (.agg #[.int .i64 x, .int .i64 y]) false).run P w = .ok (.int .i64 (K x y)) w := by
 obtain ⟨D, h1, h3⟩ := h
 obtain ⟨v, ps, hrun, hv⟩ := h1.lookup hk.law ht hz (plainElem_int hk.i (by decide)) (hk.key hx hy)
 rw [h3 x y hx hy] at hv
 obtain ⟨a, rfl, ha, _⟩ := plainElem_int_inv hk.i hv
 simp only [Prod.mk.injEq, DataW.lit.injEq, Lit.int.injEq, true_and] at ha
 rw [hrun, ha.1]
theorem PairMap.put (h : PairMap P k w b K m) (hk : PairKey P k) {t : TypeId} (ht : P.underlying t = some (.map k 3)) {x y v : Int} (hx : (Lit.int .i64 x).wf = true) (hy : (Lit.int .i64 y).wf = true) (hv : (Lit.int .i64 v).wf = true) (hm : m < maxLen) :
  ∃ w', (Instr.mapUpdate t (.map (some b)) (.agg #[.int .i64 x, .int .i64 y]) (.int .i64 v)).run P w = .ok () w' ∧ PairMap P k w' b (fun n f => if n = x ∧ f = y then v else K n f) (m + 1) ∧ w.grownBy w' (some b) ∧ w'.heap.size = w.heap.size := by
 obtain ⟨D, h1, h3⟩ := h
 have hkey := hk.key hx hy
 have hkl : WideAt.IsKeyLit (keyL x y) := hk.law.key hkey
 obtain ⟨w', hrun, h4, h5⟩ := h1.store hk.law ht hm hkey (plainElem_int hk.i hv)
 have htd := h1.tidy hk.law
 refine ⟨w', hrun, ⟨_, h4, fun n f hn hf => ?_⟩, h5.grown, ?_⟩
 ·by_cases e : n = x ∧ f = y
  ·obtain ⟨rfl, rfl⟩ := e
   rw [Maps.atKey_put_same htd.isMap hkl]
   dsimp only
   rw [if_pos (And.intro rfl rfl)]
  ·rw [Maps.atKey_put_other (hk.ne hn hf hx hy e)]
   dsimp only
   rw [if_neg e]
   exact h3 n f hn hf
 ·obtain ⟨es, clock, es', clock', _, rfl⟩ := h5
  simp [ChangeMaps.setBlock]
end
end
/- What only grows while a wish is encoded; how big the literals are. No program in sight. -/
section
open Go.RowKit Qm

def DLe (d d' : Dk) : Prop := d.vars ≤ d'.vars ∧ d.cls.length ≤ d'.cls.length
theorem DLe.refl (d : Dk) : DLe d d := ⟨Nat.le_refl _, Nat.le_refl _⟩
theorem DLe.trans {a b c : Dk} (h : DLe a b) (k : DLe b c) : DLe a c := ⟨Nat.le_trans h.1 k.1, Nat.le_trans h.2 k.2⟩
theorem bothD_cases (d : Dk) (l : List Int) : (∃ x, l = [x] ∧ bothD d l = (d, x)) ∨ (l.length ≠ 1 ∧ bothD d l = ({ d with vars := d.vars + 1, cls := d.cls ++ gate ((d.vars : Int) + 1) l }, (d.vars : Int) + 1)) := by
 match l with
 | [x] => exact .inl ⟨x, rfl, rfl⟩
 | [] => exact .inr ⟨by simp, rfl⟩
 | x :: y :: r => exact .inr ⟨by simp, rfl⟩
theorem bothD_le (d : Dk) (l : List Int) : DLe d (bothD d l).1 := by
 rcases bothD_cases d l with ⟨x, _, h⟩ | ⟨_, h⟩
 ·rw [h]; exact DLe.refl _
 ·rw [h]; exact ⟨Nat.le_succ _, by show _ ≤ (d.cls ++ _).length; rw [List.length_append]; omega⟩
theorem oneD_le (d : Dk) (l : List Int) : DLe d (oneD d l).1 := bothD_le d _
theorem addD_le (d : Dk) (c : List Int) : DLe d (addD d c) := ⟨Nat.le_refl _, by show _ ≤ (d.cls ++ _).length; rw [List.length_append]; omega⟩
theorem meanStep_le (X : Chs) (ps : List Pk) (a : At) (but : Int) (s : Dk × List Int) (i : Nat) : DLe s.1 (meanStep X ps a but s i).1 := by
 unfold meanStep
 split
 ·exact DLe.refl _
 ·split
  ·exact DLe.refl _
  ·cases ixOf a.fl (pkOf ps i).fs with
   | none => exact DLe.refl _
   | some k =>
    dsimp only
    split
    ·exact bothD_le _ _
    ·exact DLe.refl _
theorem meansTo_le (X : Chs) (ps : List Pk) (a : At) (but : Int) (d : Dk) (j : Nat) : ∀ k, DLe (meansTo X ps a but d j).1 (meansTo X ps a but d (j + k)).1
 | 0 => DLe.refl _
 | k + 1 => (meansTo_le X ps a but d j k).trans (meanStep_le X ps a but _ _)
theorem meansD_le (X : Chs) (ps : List Pk) (a : At) (but : Int) (d : Dk) : DLe d (meansD X ps a but d).1 := by
 have := meansTo_le X ps a but d 0 ps.length
 rwa [Nat.zero_add] at this
theorem kidsD_le (X : Chs) (ps : List Pk) (i : Nat) : ∀ (ks : List Nd), (∀ x ∈ ks, ∀ d, DLe d (needD X ps i x d).1) → ∀ d, DLe d (kidsD X ps i ks d).1
 | [], _, d => DLe.refl _
 | x :: r, h, d => by
  rw [kidsD]
  exact (h x (List.mem_cons_self ..) d).trans (kidsD_le X ps i r (fun y hy => h y (List.mem_cons_of_mem _ hy)) _)
theorem needD_le (X : Chs) (ps : List Pk) (i : Nat) : ∀ (y : Nd) (d : Dk), DLe d (needD X ps i y d).1 := by
 refine Nd.ind fun kd a f no ks ih => ?_
 intro d
 have hk := kidsD_le X ps i ks ih d
 rw [needD]
 split
 ·exact (meansD_le ..).trans (oneD_le ..)
 ·split
  ·exact (meansD_le ..).trans (oneD_le ..)
  ·split
   ·exact hk.trans (oneD_le ..)
   ·split
    ·exact (hk.trans (bothD_le ..)).trans (oneD_le ..)
    ·exact hk.trans (bothD_le ..)
theorem confTo_le (X : Chs) (ps : List Pk) (i : Nat) (d : Dk) (j : Nat) : ∀ k, DLe (confTo X ps i d j) (confTo X ps i d (j + k))
 | 0 => DLe.refl _
 | k + 1 => by
  refine (confTo_le X ps i d j k).trans ?_
  show DLe _ (confTo X ps i d (j + k + 1))
  rw [confTo]
  split
  ·exact addD_le ..
  ·exact DLe.refl _
theorem pkD_le (X : Chs) (ps : List Pk) (i : Nat) (d : Dk) : DLe d (pkD X ps i d) := by
 unfold pkD
 have := confTo_le X ps i d 0 i
 rw [Nat.zero_add] at this
 exact (DLe.trans this (needD_le ..)).trans (addD_le ..)
theorem pksD_le (X : Chs) (ps : List Pk) (d : Dk) (j : Nat) : ∀ k, DLe (pksD X ps d j) (pksD X ps d (j + k))
 | 0 => DLe.refl _
 | k + 1 => (pksD_le X ps d j k).trans (pkD_le ..)
theorem masksD_le (X : Chs) : ∀ (ms : List Int) (d : Dk), DLe d (masksD X ms d)
 | [], d => DLe.refl _
 | k :: r, d => by rw [masksD]; exact (addD_le ..).trans (masksD_le X r _)
theorem tgtsD_le (X : Chs) (ps : List Pk) : ∀ (ts : List At) (d : Dk), DLe d (tgtsD X ps ts d)
 | [], d => DLe.refl _
 | a :: r, d => by rw [tgtsD]; exact ((meansD_le ..).trans (addD_le ..)).trans (tgtsD_le X ps r _)

/-! ### how big -/
def LIn (d : Dk) (l : List Int) : Prop := ∀ x ∈ l, x.natAbs ≤ d.vars
structure DIn (X : Chs) (ps : List Pk) (d : Dk) : Prop where
 pick : ∀ i, i < ps.length → (X.pick i).natAbs ≤ d.vars
 on : ∀ i k, i < ps.length → k < (pkOf ps i).fs.length → (X.on i k).natAbs ≤ d.vars
 pair : ∀ n f, (d.pair n f).natAbs ≤ d.vars
section
variable {X : Chs} {ps : List Pk} {d d' : Dk}
theorem DIn.up (h : DIn X ps d) (hd : d.vars ≤ d'.vars) (hp : d'.pair = d.pair) : DIn X ps d' :=
 ⟨fun i hi => Nat.le_trans (h.pick i hi) hd, fun i k hi hk => Nat.le_trans (h.on i k hi hk) hd, fun n f => by rw [hp]; exact Nat.le_trans (h.pair n f) hd⟩
theorem bothD_pair (d : Dk) (l : List Int) : (bothD d l).1.pair = d.pair := by
 rcases bothD_cases d l with ⟨x, _, h⟩ | ⟨_, h⟩ <;> rw [h]
theorem bothD_in (h : DIn X ps d) {l : List Int} (hl : LIn d l) : DIn X ps (bothD d l).1 ∧ (bothD d l).2.natAbs ≤ (bothD d l).1.vars := by
 refine ⟨h.up (bothD_le d l).1 (bothD_pair d l), ?_⟩
 rcases bothD_cases d l with ⟨x, rfl, h⟩ | ⟨_, h⟩
 ·rw [h]; exact hl x (List.mem_singleton.2 rfl)
 ·rw [h]; dsimp only; omega
theorem oneD_in (h : DIn X ps d) {l : List Int} (hl : LIn d l) : DIn X ps (oneD d l).1 ∧ (oneD d l).2.natAbs ≤ (oneD d l).1.vars := by
 have := bothD_in h (l := l.map Neg.neg) (fun x hx => by obtain ⟨y, hy, rfl⟩ := List.mem_map.1 hx; rw [Int.natAbs_neg]; exact hl y hy)
 refine ⟨this.1, ?_⟩
 show (-(bothD d (l.map Neg.neg)).2).natAbs ≤ _
 rw [Int.natAbs_neg]; exact this.2
theorem askD_in (h : DIn X ps d) {a : At} {i k : Nat} (hi : i < ps.length) (hk : k < (pkOf ps i).fs.length) : (askD X a i k).natAbs ≤ d.vars := by
 unfold askD
 split
 ·exact h.on i k hi hk
 ·rw [Int.natAbs_neg]; exact h.on i k hi hk
theorem meanStep_in {a : At} {but : Int} {s : Dk × List Int} {i : Nat} (h : DIn X ps s.1) (hl : LIn s.1 s.2) (hi : i < ps.length) : DIn X ps (meanStep X ps a but s i).1 ∧ LIn (meanStep X ps a but s i).1 (meanStep X ps a but s i).2 := by
 unfold meanStep
 split
 ·exact ⟨h, hl⟩
 ·split
  ·exact ⟨h, fun x hx => by
    rcases List.mem_append.1 hx with hx | hx
    ·exact hl x hx
    ·rw [List.mem_singleton.1 hx]; exact h.pick i hi⟩
  ·cases hix : ixOf a.fl (pkOf ps i).fs with
   | none => exact ⟨h, hl⟩
   | some k =>
    dsimp only
    split
    ·have hb := bothD_in h (l := [X.pick i, askD X a i k]) (fun x hx => by
      simp only [List.mem_cons, List.not_mem_nil, or_false] at hx
      rcases hx with rfl | rfl
      ·exact h.pick i hi
      ·exact askD_in h hi (ixOf_lt hix))
     have hle := bothD_le s.1 [X.pick i, askD X a i k]
     refine ⟨⟨hb.1.pick, hb.1.on, fun n f => ?_⟩, fun x hx => ?_⟩
     ·show (if _ then _ else _ : Int).natAbs ≤ (bothD s.1 [X.pick i, askD X a i k]).1.vars
      split
      ·exact hb.2
      ·exact hb.1.pair n f
     ·rcases List.mem_append.1 hx with hx | hx
      ·exact Nat.le_trans (hl x hx) hle.1
      ·rw [List.mem_singleton.1 hx]; exact hb.2
    ·exact ⟨h, fun x hx => by
      rcases List.mem_append.1 hx with hx | hx
      ·exact hl x hx
      ·rw [List.mem_singleton.1 hx]; exact h.pair _ _⟩
theorem meansTo_in (h : DIn X ps d) (a : At) (but : Int) : ∀ j, j ≤ ps.length → DIn X ps (meansTo X ps a but d j).1 ∧ LIn (meansTo X ps a but d j).1 (meansTo X ps a but d j).2
 | 0, _ => ⟨h, fun x hx => by cases hx⟩
 | j + 1, hj => by
  have := meansTo_in h a but j (by omega)
  exact meanStep_in this.1 this.2 (by omega)
theorem ifLit_in (h : DIn X ps d) {i : Nat} (hi : i < ps.length) (f : Qm.W) (no : Bool) : (ifLit X ps i f no).natAbs ≤ d.vars := by
 unfold ifLit
 cases hix : ixOf f (pkOf ps i).fs with
 | none => exact Nat.zero_le _
 | some j =>
  dsimp only
  split
  ·rw [Int.natAbs_neg]; exact h.on i j hi (ixOf_lt hix)
  ·exact h.on i j hi (ixOf_lt hix)
theorem kidsD_in {i : Nat} : ∀ (ks : List Nd), (∀ x ∈ ks, ∀ d, DIn X ps d → DIn X ps (needD X ps i x d).1 ∧ (needD X ps i x d).2.natAbs ≤ (needD X ps i x d).1.vars) → ∀ d, DIn X ps d → DIn X ps (kidsD X ps i ks d).1 ∧ LIn (kidsD X ps i ks d).1 (kidsD X ps i ks d).2
 | [], _, d, h => ⟨h, fun x hx => by cases hx⟩
 | x :: r, ih, d, h => by
  have h1 := ih x (List.mem_cons_self ..) d h
  have h2 := kidsD_in r (fun y hy => ih y (List.mem_cons_of_mem _ hy)) _ h1.1
  have hle := kidsD_le X ps i r (fun y _ d => needD_le X ps i y d) (needD X ps i x d).1
  rw [kidsD]
  refine ⟨h2.1, fun z hz => ?_⟩
  rcases List.mem_cons.1 hz with rfl | hz
  ·exact Nat.le_trans h1.2 hle.1
  ·exact h2.2 z hz
theorem needD_in {i : Nat} (hi : i < ps.length) : ∀ (y : Nd) (d : Dk), DIn X ps d → DIn X ps (needD X ps i y d).1 ∧ (needD X ps i y d).2.natAbs ≤ (needD X ps i y d).1.vars := by
 refine Nd.ind fun kd a f no ks ih => ?_
 intro d h
 have hk := kidsD_in ks ih d h
 have hm := fun but => meansTo_in h a but ps.length (Nat.le_refl _)
 rw [needD]
 split
 ·exact oneD_in (hm _).1 (hm _).2
 ·split
  ·have := oneD_in (hm (i : Int)).1 (hm (i : Int)).2
   refine ⟨this.1, ?_⟩
   dsimp only
   rw [Int.natAbs_neg]; exact this.2
  ·split
   ·exact oneD_in hk.1 hk.2
   ·have hb := bothD_in hk.1 hk.2
    split
    ·exact oneD_in hb.1 (fun x hx => by
      simp only [List.mem_cons, List.not_mem_nil, or_false] at hx
      rcases hx with rfl | rfl
      ·rw [Int.natAbs_neg]; exact ifLit_in hb.1 hi f no
      ·exact hb.2)
    ·exact hb
end
end
end Go.Proofs.YtedbhlgjcnnknaaGreatDoor
