/- Parts of the proof: walks and plain laws, side by side. -/
import Derived.Test.YtpipgffbhpnmkaaGreatDoorM24
import Derived.Test.YtpipgffbhpnmkaaGreatDoorM3
import Derived.Maps.RangeWalk
import Derived.Maps.OwnSet
set_option linter.unusedVariables false
set_option linter.unusedSimpArgs false
set_option linter.unusedSectionVars false
/- What comes first in a plan. No program in sight. -/
namespace Go.Proofs.YtpipgffbhpnmkaaGreatDoor
open Qm

/-- What OrderFirst looks at: two that lean on each other, the later first; and rings. -/
structure FirstOk (ps : List Pk) (there l : List Mem) (ks : List Nat) (f : Nat → Nat) : Prop where
  eq : planN ps there l = ks.map (fun k => (k, f k))
  nd : ks.Nodup
  mem : ∀ k, k ∈ ks ↔ k < l.length ∧ oldB there l k = false
  ahead : ∀ (i j a b : Nat), ks[i]? = some a → ks[j]? = some b → i < j → leanB ps l a b = true → f b = f a ∧ f a ≠ 0
  two : ∀ a ∈ ks, f a ≠ 0 → ∃ b ∈ ks, b ≠ a ∧ f b = f a
theorem first_ok (ps : List Pk) (there l : List Mem) : ∃ (ks : List Nat) (f : Nat → Nat), FirstOk ps there l ks f := by
  obtain ⟨ks, f, h1, h2, h3, h4, h5, h6⟩ := planN_all ps there l
  refine ⟨ks, f, h1, h2, h3, ?_, ?_⟩
  · intro i j a b hi hj hij hl
    obtain ⟨hi', rfl⟩ := List.getElem?_eq_some_iff.1 hi
    obtain ⟨hj', rfl⟩ := List.getElem?_eq_some_iff.1 hj
    have ha := (h3 _).1 (List.getElem_mem hi')
    have hb := (h3 _).1 (List.getElem_mem hj')
    have he : edgeB ps l ks[i] ks[j] = true := by unfold edgeB; rw [decide_eq_true ha.1, decide_eq_true hb.1, hl]; rfl
    have hr : reachB ps l ks[i] ks[j] = true := (RB_iff edgeB_lt).2 (Comes.one he)
    obtain ⟨hr2, hf⟩ := List.pairwise_iff_getElem.1 h6 i j hi' hj' hij hr
    exact ⟨(h4 _ _ hr hr2).symm, hf⟩
  · intro a ha hf
    have ha' := (h3 a).1 ha
    obtain ⟨k, hk, hne, hold, hr, hr2⟩ := loopsB_iff.1 (h5 a ha'.1 ha'.2 hf)
    exact ⟨k, (h3 k).2 ⟨hk, hold⟩, hne, (h4 _ _ hr hr2).symm⟩
/-- What the first loop has gathered of the acts: where each package is put in, its cycle, each cycle's size. -/
structure Seen (az : List Ac) (k : Nat) (at_ cy sz : Int → Option Int) : Prop where
  a1 : ∀ x y, at_ x = some y → ∃ (j : Nat) (a : Ac), j < k ∧ az[j]? = some a ∧ a.out = false ∧ a.m.pl = x ∧ y = j
  a2 : ∀ (j : Nat) (a : Ac), j < k → az[j]? = some a → a.out = false → at_ a.m.pl = some (j : Int) ∧ cy a.m.pl = some a.cyc
  c1 : ∀ x, at_ x = none → cy x = none
  z1 : ∀ c, sz c = none ∨ 0 < c
  z3 : ∀ c n, sz c = some n → 1 ≤ n
  z2 : ∀ c, 0 < c → (sz c).getD 0 = (((az.take k).filter fun a => !a.out && a.cyc == c).length : Int)
theorem Seen.zero {az : List Ac} : Seen az 0 (fun _ => none) (fun _ => none) (fun _ => none) :=
  ⟨fun _ _ h => (by cases h), fun _ _ h => (by omega), fun _ _ => rfl, fun _ => .inl rfl, fun _ _ h => (by cases h), fun c _ => (by simp)⟩
theorem Seen.skip {az : List Ac} {k : Nat} {at_ cy sz : Int → Option Int} {a : Ac} (h : Seen az k at_ cy sz) (ha : az[k]? = some a) (ho : a.out = true) : Seen az (k + 1) at_ cy sz := by
  refine ⟨fun x y hxy => ?_, fun j b hj hb hbo => ?_, h.c1, h.z1, h.z3, fun c hc => ?_⟩
  · obtain ⟨j, b, hj, r⟩ := h.a1 x y hxy
    exact ⟨j, b, by omega, r⟩
  · by_cases e : j = k
    · subst e; rw [ha] at hb; injection hb with hb; subst hb; rw [ho] at hbo; cases hbo
    · exact h.a2 j b (by omega) hb hbo
  · obtain ⟨hk, rfl⟩ := List.getElem?_eq_some_iff.1 ha
    rw [h.z2 c hc, List.take_succ_eq_append_getElem hk, List.filter_append]
    simp [ho]
/-- An act that puts in: its package is new to the maps. -/
theorem Seen.put {az : List Ac} {k : Nat} {at_ cy sz sz' : Int → Option Int} {a : Ac} (h : Seen az k at_ cy sz) (ha : az[k]? = some a) (ho : a.out = false) (hnew : at_ a.m.pl = none)
    (hs : sz' = if 0 < a.cyc then fun c => if c = a.cyc then some ((sz a.cyc).getD 0 + 1) else sz c else sz) : Seen az (k + 1) (fun x => if x = a.m.pl then some (k : Int) else at_ x) (fun x => if x = a.m.pl then some a.cyc else cy x) sz' := by
  refine ⟨fun x y hxy => ?_, fun j b hj hb hbo => ?_, fun x hx => ?_, fun c => ?_, fun c n hn => ?_, fun c hc => ?_⟩
  · (try dsimp only at hxy)
    by_cases e : x = a.m.pl
    · rw [if_pos e] at hxy
      injection hxy with hxy
      exact ⟨k, a, by omega, ha, ho, e.symm, hxy.symm⟩
    · rw [if_neg e] at hxy
      obtain ⟨j, b, hj, r⟩ := h.a1 x y hxy
      exact ⟨j, b, by omega, r⟩
  · (try dsimp only)
    by_cases e : j = k
    · subst e; rw [ha] at hb; injection hb with hb; subst hb; rw [if_pos rfl, if_pos rfl]; exact ⟨rfl, rfl⟩
    · have h2 := h.a2 j b (by omega) hb hbo
      have hne : b.m.pl ≠ a.m.pl := fun e2 => by rw [e2, hnew] at h2; cases h2.1
      rw [if_neg hne, if_neg hne]; exact h2
  · (try dsimp only at hx ⊢)
    by_cases e : x = a.m.pl
    · rw [if_pos e] at hx; cases hx
    · rw [if_neg e] at hx ⊢; exact h.c1 x hx
  · rw [hs]
    by_cases hp : 0 < a.cyc
    · rw [if_pos hp]
      (try dsimp only)
      by_cases e : c = a.cyc
      · right; omega
      · rw [if_neg e]; exact h.z1 c
    · rw [if_neg hp]; exact h.z1 c
  · rw [hs] at hn
    by_cases hp : 0 < a.cyc
    · rw [if_pos hp] at hn
      (try dsimp only at hn)
      by_cases e : c = a.cyc
      · rw [if_pos e] at hn
        injection hn with hn
        have := h.z2 a.cyc hp
        omega
      · rw [if_neg e] at hn; exact h.z3 c n hn
    · rw [if_neg hp] at hn; exact h.z3 c n hn
  · obtain ⟨hk, rfl⟩ := List.getElem?_eq_some_iff.1 ha
    rw [List.take_succ_eq_append_getElem hk, List.filter_append, List.length_append, hs]
    have hz := h.z2 c hc
    by_cases e : c = az[k].cyc
    · subst e
      rw [if_pos hc]
      simp [ho, hz]
    · have hne : (az[k].cyc == c) = false := by rw [beq_eq_false_iff_ne]; exact fun e2 => e e2.symm
      have hf : [az[k]].filter (fun a => !a.out && a.cyc == c) = [] := by simp [ho, hne]
      rw [hf]
      by_cases hp : 0 < az[k].cyc
      · rw [if_pos hp]; (try dsimp only); rw [if_neg e, hz]; simp
      · rw [if_neg hp, hz]; simp
theorem pl_inj {l : List Mem} (h : (l.map Mem.pl).Pairwise (· < ·)) {i k : Nat} (hi : i < l.length) (hk : k < l.length) (he : (memAt l i).pl = (memAt l k).pl) : i = k := by
  have hm : ∀ j, j < l.length → memAt l j = l.getD j ⟨0, []⟩ := fun _ _ => rfl
  rw [hm i hi, hm k hk, List.getD_eq_getElem?_getD, List.getD_eq_getElem?_getD, List.getElem?_eq_getElem hi, List.getElem?_eq_getElem hk] at he
  simp only [Option.getD_some] at he
  have hp := List.pairwise_iff_getElem.1 h
  rcases Nat.lt_trichotomy i k with hlt | heq | hgt
  · have := hp i k (by simpa using hi) (by simpa using hk) hlt; simp at this; omega
  · exact heq
  · have := hp k i (by simpa using hk) (by simpa using hi) hgt; simp at this; omega
/-- An act of a plan that puts in: which, and where. -/
theorem FirstOk.act {ps : List Pk} {there l : List Mem} {ks : List Nat} {f : Nat → Nat} (h : FirstOk ps there l ks f) {j : Nat} {a : Ac} (ha : (planL ps there l)[j]? = some a) (ho : a.out = false) :
    ∃ k, (goneL ps there l).length ≤ j ∧ ks[j - (goneL ps there l).length]? = some k ∧ a = ⟨false, memAt l k, (f k : Int)⟩ := by
  unfold planL at ha
  rw [h.eq] at ha
  by_cases hj : j < (goneL ps there l).length
  · rw [List.getElem?_append_left (by simpa using hj), List.getElem?_map] at ha
    cases hg : (goneL ps there l)[j]? with
    | none => rw [hg] at ha; cases ha
    | some m => rw [hg] at ha; injection ha with ha; subst ha; cases ho
  · rw [List.getElem?_append_right (by simpa using hj), List.length_map, List.getElem?_map, List.getElem?_map] at ha
    cases hk : ks[j - (goneL ps there l).length]? with
    | none => rw [hk] at ha; cases ha
    | some k => rw [hk] at ha; injection ha with ha; exact ⟨k, by omega, rfl, ha.symm⟩
theorem Seen.at_of {ps : List Pk} {there l : List Mem} {ks : List Nat} {f : Nat → Nat} (h : FirstOk ps there l ks f) (hp : (l.map Mem.pl).Pairwise (· < ·)) {at_ cy sz : Int → Option Int} (S : Seen (planL ps there l) (planL ps there l).length at_ cy sz) {i : Nat} (hi : i < l.length) {y : Int} (h1 : at_ (memAt l i).pl = some y) :
    ∃ j : Nat, ks[j]? = some i ∧ y = ((goneL ps there l).length + j : Nat) ∧ cy (memAt l i).pl = some (f i : Int) := by
  obtain ⟨j, a, hj, ha, ho, hpl, rfl⟩ := S.a1 _ _ h1
  obtain ⟨k, hg, hk, rfl⟩ := h.act ha ho
  have hkl : k < l.length := ((h.mem k).1 (List.mem_of_getElem? hk)).1
  obtain rfl := pl_inj hp hkl hi hpl
  exact ⟨_, hk, by omega, (S.a2 j _ hj ha ho).2⟩
/-- A lean that comes later is of the same ring. -/
theorem Seen.pair {ps : List Pk} {there l : List Mem} {ks : List Nat} {f : Nat → Nat} (h : FirstOk ps there l ks f) (hp : (l.map Mem.pl).Pairwise (· < ·)) {at_ cy sz : Int → Option Int} (S : Seen (planL ps there l) (planL ps there l).length at_ cy sz) {i x : Nat} (hi : i < l.length) (hx : x < l.length) (hl : leanB ps l i x = true)
    {yi yx : Int} (h1 : at_ (memAt l i).pl = some yi) (h2 : at_ (memAt l x).pl = some yx) (hgt : yi < yx) : ∃ z : Int, z ≠ 0 ∧ cy (memAt l i).pl = some z ∧ cy (memAt l x).pl = some z := by
  obtain ⟨ji, hji, rfl, hci⟩ := S.at_of h hp hi h1
  obtain ⟨jx, hjx, rfl, hcx⟩ := S.at_of h hp hx h2
  obtain ⟨he, hne⟩ := h.ahead ji jx i x hji hjx (by omega) hl
  exact ⟨(f i : Int), by omega, hci, by rw [hcx, he]⟩
theorem two_le {α : Type} {p : α → Bool} {xs : List α} {i j : Nat} {a b : α} (hi : xs[i]? = some a) (hj : xs[j]? = some b) (hij : i ≠ j) (ha : p a = true) (hb : p b = true) : 2 ≤ (xs.filter p).length := by
  have key : ∀ {xs : List α} {i j : Nat} {a b : α}, xs[i]? = some a → xs[j]? = some b → i < j → p a = true → p b = true → 2 ≤ (xs.filter p).length := by
    intro xs i j a b hi hj hij ha hb
    have h1 : xs = xs.take j ++ xs.drop j := (List.take_append_drop j xs).symm
    rw [h1, List.filter_append, List.length_append]
    have m1 : a ∈ (xs.take j).filter p := List.mem_filter.2 ⟨List.mem_of_getElem? (i := i) (by rw [List.getElem?_take_of_lt hij]; exact hi), ha⟩
    have m2 : b ∈ (xs.drop j).filter p := List.mem_filter.2 ⟨List.mem_of_getElem? (i := 0) (by rw [List.getElem?_drop]; exact hj), hb⟩
    have := List.length_pos_of_mem m1
    have := List.length_pos_of_mem m2
    omega
  rcases Nat.lt_or_gt_of_ne hij with h | h
  · exact key hi hj h ha hb
  · exact key hj hi h hb ha
/-- Every ring that is numbered has two that are put in. -/
theorem Seen.rings {ps : List Pk} {there l : List Mem} {ks : List Nat} {f : Nat → Nat} (h : FirstOk ps there l ks f) {at_ cy sz : Int → Option Int} (S : Seen (planL ps there l) (planL ps there l).length at_ cy sz) {c n : Int} (hc : sz c = some n) : 2 ≤ n := by
  have hpos : 0 < c := (S.z1 c).resolve_left (by rw [hc]; simp)
  have h1 := S.z3 c n hc
  have h2 := S.z2 c hpos
  rw [hc, List.take_length, Option.getD_some] at h2
  obtain ⟨a, ha⟩ : ∃ a, a ∈ (planL ps there l).filter fun a => !a.out && a.cyc == c := List.exists_mem_of_length_pos (by omega)
  obtain ⟨ha, hq⟩ := List.mem_filter.1 ha
  simp only [Bool.and_eq_true, Bool.not_eq_true', beq_iff_eq] at hq
  obtain ⟨j, hj⟩ := List.getElem?_of_mem ha
  obtain ⟨k, hg, hk, rfl⟩ := h.act hj hq.1
  obtain ⟨b, hb, hne, hf⟩ := h.two k (List.mem_of_getElem? hk) (by have := hq.2; dsimp only at this; omega)
  obtain ⟨j2, hj2⟩ := List.getElem?_of_mem hb
  have hj2' : (planL ps there l)[(goneL ps there l).length + j2]? = some ⟨false, memAt l b, (f b : Int)⟩ := by
    unfold planL
    rw [h.eq, List.getElem?_append_right (by simp), List.length_map, Nat.add_sub_cancel_left, List.getElem?_map, List.getElem?_map, hj2]; rfl
  have := two_le (p := fun a : Ac => !a.out && a.cyc == c) hj hj2' (fun e => by
    have : j - (goneL ps there l).length = j2 := by omega
    rw [this, hj2] at hk; injection hk with hk; exact hne hk) (by have := hq.2; dsimp only at this; simp [this]) (by have := hq.2; dsimp only at this; simp [hf, this])
  omega
/-- What is put in is new to the maps. -/
theorem Seen.fresh {ps : List Pk} {there l : List Mem} {ks : List Nat} {f : Nat → Nat} (h : FirstOk ps there l ks f) (hp : (l.map Mem.pl).Pairwise (· < ·)) {k : Nat} {at_ cy sz : Int → Option Int} (S : Seen (planL ps there l) k at_ cy sz) {a : Ac} (ha : (planL ps there l)[k]? = some a) (ho : a.out = false) : at_ a.m.pl = none := by
  cases hat : at_ a.m.pl with
  | none => rfl
  | some y =>
    obtain ⟨j, b, hj, hb, hbo, hpl, _⟩ := S.a1 _ _ hat
    obtain ⟨i1, hg1, hi1, rfl⟩ := h.act ha ho
    obtain ⟨i2, hg2, hi2, rfl⟩ := h.act hb hbo
    have h1 := ((h.mem i1).1 (List.mem_of_getElem? hi1)).1
    have h2 := ((h.mem i2).1 (List.mem_of_getElem? hi2)).1
    obtain rfl := pl_inj hp h2 h1 hpl
    have := (List.getElem?_inj (List.getElem?_eq_some_iff.1 hi1).1 h.nd).1 (hi1.trans hi2.symm)
    omega
theorem planGo_small {r : Nat → Nat → Bool} {n : Nat} {old : Nat → Bool} : ∀ (g : Nat) (s : PSt), (∀ a, s.num a ≤ s.cyc) → ∀ p ∈ planGo r n old g s, p.2 ≤ s.cyc + g
  | 0, s, _, p, hp => by rw [planGo] at hp; cases hp
  | g + 1, s, h, p, hp => by
    rw [planGo] at hp
    cases hk : pickO r n s.done with
    | none => rw [hk] at hp; cases hp
    | some i =>
      rw [hk] at hp
      have h1 : (stepP r n old s i).cyc ≤ s.cyc + 1 ∧ ∀ a, (stepP r n old s i).num a ≤ (stepP r n old s i).cyc := by
        unfold stepP
        split
        · refine ⟨Nat.le_refl _, fun a => ?_⟩
          show (if ringB r i a = true then s.cyc + 1 else s.num a) ≤ s.cyc + 1
          split
          · exact Nat.le_refl _
          · exact Nat.le_succ_of_le (h a)
        · exact ⟨Nat.le_succ _, h⟩
      rcases List.mem_cons.1 hp with rfl | hp
      · have := h1.2 i
        show (stepP r n old s i).num i ≤ s.cyc + (g + 1)
        omega
      · have := planGo_small g _ h1.2 p hp
        omega
theorem FirstOk.small {ps : List Pk} {there l : List Mem} {ks : List Nat} {f : Nat → Nat} (h : FirstOk ps there l ks f) {k : Nat} (hk : k ∈ ks) : f k ≤ l.length + 1 := by
  have h1 : (k, f k) ∈ planN ps there l := by rw [h.eq]; exact List.mem_map.2 ⟨k, hk, rfl⟩
  have := planGo_small _ _ (fun a => Nat.le_refl 0) _ h1
  simpa using this
end Go.Proofs.YtpipgffbhpnmkaaGreatDoor

/-
  A map from ints to bools all of whose entries hold: a set of ints. What the operations on it give.
-/
namespace Go.Proofs.YtpipgffbhpnmkaaGreatDoor
open Go.RowKit

/-- block b is a map that holds just the ints of K, each with true; there are m of them -/
def IntSet (P : Program) (w : World) (b : Nat) (K : Int → Bool) (m : Nat) : Prop :=
  ∃ D : DataW Unit, w.ownsMap P 3 (plainElem P 4) b m D ∧ Maps.size D = m ∧ ∀ x : Int, (Lit.int .i64 x).wf = true → Maps.has D (.int .i64 x) = K x ∧ D.atKey (.int .i64 x) (.lit (.bool false)) = .lit (.bool (K x))

section
variable {P : Program} {w w' : World} {b m : Nat} {K : Int → Bool}
theorem wf_of {x : Int} (h1 : -9223372036854775808 ≤ x) (h2 : x ≤ 9223372036854775807) : (Lit.int .i64 x).wf = true := WalkArith.wf_i64 (by omega)
theorem IntSet.made (P : Program) (w : World) : IntSet P (w.alloc (.map #[] 0)) w.heap.size (fun _ => false) 0 :=
  ⟨.map [], World.ownsMap_made w P 3 _, rfl, fun x _ => ⟨rfl, rfl⟩⟩
theorem IntSet.kept {row : Option Nat} (h : IntSet P w b K m) (hg : w.grownBy w' row) (hne : some b ≠ row) : IntSet P w' b K m := by
  obtain ⟨D, h1, h2⟩ := h
  exact ⟨D, h1.kept hg hne, h2⟩
theorem IntSet.lt (h : IntSet P w b K m) : b < w.heap.size := by obtain ⟨D, h1, _⟩ := h; exact h1.lt
theorem IntSet.congr {K' : Int → Bool} {m' : Nat} (h : IntSet P w b K m) (hm : m = m') (hK : ∀ x, (Lit.int .i64 x).wf = true → K x = K' x) : IntSet P w b K' m' := by
  subst hm
  obtain ⟨D, h1, h2, h3⟩ := h
  exact ⟨D, h1, h2, fun x hx => by rw [← hK x hx]; exact h3 x hx⟩
theorem IntSet.look (h : IntSet P w b K m) (hk : P.underlying 3 = some (.int .i64)) (he : P.underlying 4 = some .bool) (hz : (zeroValue 4).run P w = .ok (.bool false) w) {t : TypeId} (ht : P.underlying t = some (.map 3 4)) {x : Int} (hx : (Lit.int .i64 x).wf = true) :
    (Instr.lookup t (.map (some b)) (.int .i64 x) false).run P w = .ok (.bool (K x)) w := by
  obtain ⟨D, h1, _, h3⟩ := h
  obtain ⟨v, ps, hrun, hv⟩ := h1.lookup (Maps.int_keyed hk) ht hz (plainElem_bool he false) (Maps.keyOf_int_mk hk hx)
  rw [(h3 x hx).2] at hv
  have : v = .bool (K x) := by
    unfold plainElem at hv
    rw [he] at hv
    cases v <;> simp at hv
    rw [hv.1]
  rw [hrun, this]
theorem IntSet.put (h : IntSet P w b K m) (hk : P.underlying 3 = some (.int .i64)) (he : P.underlying 4 = some .bool) {t : TypeId} (ht : P.underlying t = some (.map 3 4)) {x : Int} (hx : (Lit.int .i64 x).wf = true) (hm : m < maxLen) :
    ∃ w', (Instr.mapUpdate t (.map (some b)) (.int .i64 x) (.bool true)).run P w = .ok () w' ∧ IntSet P w' b (fun y => y == x || K y) (if K x then m else m + 1) ∧ w.grownBy w' (some b) ∧ w'.heap.size = w.heap.size := by
  obtain ⟨D, h1, h2, h3⟩ := h
  have Kd := Maps.int_keyed (P := P) hk
  have hkey := Maps.keyOf_int_mk (P := P) hk hx
  have hkl : WideAt.IsKeyLit (.int .i64 x) := Kd.key hkey
  obtain ⟨w', hrun, h4, h5⟩ := h1.store Kd ht hm hkey (plainElem_bool he true)
  have htd := h1.tidy Kd
  have hsz : Maps.size (D.put (.int .i64 x) (.lit (.bool true))) = if K x then m else m + 1 := by
    rw [Maps.size_put htd, (h3 x hx).1, h2]
  refine ⟨w', hrun, ⟨_, ?_, hsz, fun y hy => ?_⟩, h5.grown, ?_⟩
  · have e : Maps.size (D.put (.int .i64 x) (.lit (.bool true))) ≤ if K x then m else m + 1 := by rw [hsz]; exact Nat.le_refl _
    obtain ⟨es, clock, hb, F, hs, hD⟩ := h4
    refine ⟨es, clock, hb, F, ?_, hD⟩
    rw [hD] at e
    simpa [Maps.size, length_sorted] using e
  · by_cases hyx : y = x
    · subst hyx
      rw [Maps.has_put_same htd.isMap hkl, Maps.atKey_put_same htd.isMap hkl]
      simp
    · have hne : (Lit.int .i64 y) ≠ .int .i64 x := by intro e; injection e with _ e; exact hyx e
      rw [Maps.has_put_other hne, Maps.atKey_put_other hne]
      have : (y == x) = false := by simpa using hyx
      show _ = (y == x || K y) ∧ _ = DataW.lit (.bool (y == x || K y))
      rw [this, Bool.false_or]
      exact h3 y hy
  · obtain ⟨es, clock, es', clock', _, rfl⟩ := h5
    simp [ChangeMaps.setBlock]
end
end Go.Proofs.YtpipgffbhpnmkaaGreatDoor

/- A map from ints to ints, by what it holds. What the operations on it give. -/
namespace Go.Proofs.YtpipgffbhpnmkaaGreatDoor
open Go.RowKit

/-- block b is a map that holds, at x, the int K x, where it holds any; there are m entries -/
def IntMap (P : Program) (w : World) (b : Nat) (K : Int → Option Int) (m : Nat) : Prop :=
  ∃ D : DataW Unit, w.ownsMap P 3 (plainElem P 3) b m D ∧ Maps.size D = m ∧ ∀ x : Int, (Lit.int .i64 x).wf = true → Maps.has D (.int .i64 x) = (K x).isSome ∧ D.atKey (.int .i64 x) (.lit (.int .i64 0)) = .lit (.int .i64 ((K x).getD 0))

section
variable {P : Program} {w w' : World} {b m : Nat} {K : Int → Option Int}
theorem IntMap.made (P : Program) (w : World) : IntMap P (w.alloc (.map #[] 0)) w.heap.size (fun _ => none) 0 :=
  ⟨.map [], World.ownsMap_made w P 3 _, rfl, fun x _ => ⟨rfl, rfl⟩⟩
theorem IntMap.kept {row : Option Nat} (h : IntMap P w b K m) (hg : w.grownBy w' row) (hne : some b ≠ row) : IntMap P w' b K m := by
  obtain ⟨D, h1, h2⟩ := h
  exact ⟨D, h1.kept hg hne, h2⟩
theorem IntMap.lt (h : IntMap P w b K m) : b < w.heap.size := by obtain ⟨D, h1, _⟩ := h; exact h1.lt
theorem IntMap.congr {K' : Int → Option Int} {m' : Nat} (h : IntMap P w b K m) (hm : m = m') (hK : ∀ x, (Lit.int .i64 x).wf = true → K x = K' x) : IntMap P w b K' m' := by
  subst hm
  obtain ⟨D, h1, h2, h3⟩ := h
  exact ⟨D, h1, h2, fun x hx => by rw [← hK x hx]; exact h3 x hx⟩
theorem IntMap.look (h : IntMap P w b K m) (hk : P.underlying 3 = some (.int .i64)) (hz : (zeroValue 3).run P w = .ok (.int .i64 0) w) {t : TypeId} (ht : P.underlying t = some (.map 3 3)) {x : Int} (hx : (Lit.int .i64 x).wf = true) :
    (Instr.lookup t (.map (some b)) (.int .i64 x) false).run P w = .ok (.int .i64 ((K x).getD 0)) w := by
  obtain ⟨D, h1, _, h3⟩ := h
  obtain ⟨v, ps, hrun, hv⟩ := h1.lookup (Maps.int_keyed hk) ht hz (plainElem_int hk (by decide)) (Maps.keyOf_int_mk hk hx)
  rw [(h3 x hx).2] at hv
  obtain ⟨a, rfl, ha, _⟩ := plainElem_int_inv hk hv
  simp only [Prod.mk.injEq, DataW.lit.injEq, Lit.int.injEq, true_and] at ha
  rw [hrun, ha.1]
theorem IntMap.look_ok (h : IntMap P w b K m) (hk : P.underlying 3 = some (.int .i64)) (hz : (zeroValue 3).run P w = .ok (.int .i64 0) w) {t : TypeId} (ht : P.underlying t = some (.map 3 3)) {x : Int} (hx : (Lit.int .i64 x).wf = true) :
    (Instr.lookup t (.map (some b)) (.int .i64 x) true).run P w = .ok (.tuple #[.int .i64 ((K x).getD 0), .bool (K x).isSome]) w := by
  obtain ⟨D, h1, _, h3⟩ := h
  obtain ⟨v, ps, hrun, hv⟩ := h1.look_ok (Maps.int_keyed hk) ht hz (plainElem_int hk (by decide)) (Maps.keyOf_int_mk hk hx)
  rw [(h3 x hx).2] at hv
  obtain ⟨a, rfl, ha, _⟩ := plainElem_int_inv hk hv
  simp only [Prod.mk.injEq, DataW.lit.injEq, Lit.int.injEq, true_and] at ha
  rw [hrun, ha.1, (h3 x hx).1]
theorem IntMap.put (h : IntMap P w b K m) (hk : P.underlying 3 = some (.int .i64)) {t : TypeId} (ht : P.underlying t = some (.map 3 3)) {x y : Int} (hx : (Lit.int .i64 x).wf = true) (hy : (Lit.int .i64 y).wf = true) (hm : m < maxLen) :
    ∃ w', (Instr.mapUpdate t (.map (some b)) (.int .i64 x) (.int .i64 y)).run P w = .ok () w' ∧ IntMap P w' b (fun z => if z = x then some y else K z) (if (K x).isSome then m else m + 1) ∧ w.grownBy w' (some b) ∧ w'.heap.size = w.heap.size := by
  obtain ⟨D, h1, h2, h3⟩ := h
  have Kd := Maps.int_keyed (P := P) hk
  have hkey := Maps.keyOf_int_mk (P := P) hk hx
  have hkl : WideAt.IsKeyLit (.int .i64 x) := Kd.key hkey
  obtain ⟨w', hrun, h4, h5⟩ := h1.store Kd ht hm hkey (plainElem_int hk hy)
  have htd := h1.tidy Kd
  have hsz : Maps.size (D.put (.int .i64 x) (.lit (.int .i64 y))) = if (K x).isSome then m else m + 1 := by
    rw [Maps.size_put htd, (h3 x hx).1, h2]
  refine ⟨w', hrun, ⟨_, ?_, hsz, fun z hz => ?_⟩, h5.grown, ?_⟩
  · have e : Maps.size (D.put (.int .i64 x) (.lit (.int .i64 y))) ≤ if (K x).isSome then m else m + 1 := by rw [hsz]; exact Nat.le_refl _
    obtain ⟨es, clock, hb, F, hs, hD⟩ := h4
    refine ⟨es, clock, hb, F, ?_, hD⟩
    rw [hD] at e
    simpa [Maps.size, length_sorted] using e
  · by_cases hzx : z = x
    · subst hzx
      rw [Maps.has_put_same htd.isMap hkl, Maps.atKey_put_same htd.isMap hkl]
      simp
    · have hne : (Lit.int .i64 z) ≠ .int .i64 x := by intro e; injection e with _ e; exact hzx e
      rw [Maps.has_put_other hne, Maps.atKey_put_other hne]
      show _ = (if z = x then some y else K z).isSome ∧ _ = DataW.lit (.int .i64 ((if z = x then some y else K z).getD 0))
      rw [if_neg hzx]
      exact h3 z hz
  · obtain ⟨es, clock, es', clock', _, rfl⟩ := h5
    simp [ChangeMaps.setBlock]
/-- A loop over such a map: so many entries are still to come. -/
def IntRange (P : Program) (w : World) (b r : Nat) (K : Int → Option Int) (cnt : Nat) : Prop :=
  ∃ (n : Nat) (D : DataW Unit) (lf : Lit → Bool), w.ranges P 3 (plainElem P 3) b r n D lf cnt ∧ (∀ kl, lf kl = true → Maps.has D kl = true) ∧ ∀ x : Int, (Lit.int .i64 x).wf = true → Maps.has D (.int .i64 x) = (K x).isSome ∧ D.atKey (.int .i64 x) (.lit (.int .i64 0)) = .lit (.int .i64 ((K x).getD 0))
theorem IntMap.range_ (h : IntMap P w b K m) (hk : P.underlying 3 = some (.int .i64)) {t : TypeId} (ht : P.underlying t = some (.map 3 3)) :
    ∃ w', (Instr.range t (.map (some b))).run P w = .ok (.pointer (some ⟨w.heap.size, 0, none⟩)) w' ∧ IntRange P w' b w.heap.size K m ∧ w.grownBy w' none ∧ w'.heap.size = w.heap.size + 1 := by
  obtain ⟨D, h1, h2, h3⟩ := h
  obtain ⟨w', hrun, hr, hg, hs⟩ := h1.range (Maps.int_keyed hk) ht
  rw [h2] at hr
  exact ⟨w', hrun, ⟨m, D, _, hr, fun kl hl => hl, h3⟩, hg, hs⟩
theorem IntRange.kept {r cnt : Nat} {row : Option Nat} (h : IntRange P w b r K cnt) (hg : w.grownBy w' row) (hb : some b ≠ row) (hr : some r ≠ row) : IntRange P w' b r K cnt := by
  obtain ⟨n, D, lf, h1, h2⟩ := h
  exact ⟨n, D, lf, h1.kept hg hb hr, h2⟩
theorem IntRange.next {r cnt : Nat} (h : IntRange P w b r K cnt) (hk : P.underlying 3 = some (.int .i64)) (ty : TypeId) :
    (cnt = 0 ∧ (Instr.next (.pointer (some ⟨r, 0, none⟩)) false ty).run P w = .ok (.tuple #[.bool false]) w) ∨
    ∃ (x y : Int) (w2 : World) (cnt' : Nat), K x = some y ∧ (Instr.next (.pointer (some ⟨r, 0, none⟩)) false ty).run P w = .ok (.tuple #[.bool true, .int .i64 x, .int .i64 y]) w2 ∧ IntRange P w2 b r K cnt' ∧ cnt' < cnt ∧ w.grownBy w2 (some r) ∧ w2.heap.size = w.heap.size ∧
      (Instr.entry (.pointer (some ⟨r, 0, none⟩))).run P w2 = .ok (.tuple #[.int .i64 x, .int .i64 y]) w2 := by
  obtain ⟨n, D, lf, h1, h2, h3⟩ := h
  rcases h1.next (Maps.int_keyed hk) ty with ⟨h0, _, hrun⟩ | ⟨key, v, kl, y, w2, cnt', hkey, hl, hv, hat, hn, hrg2, hlt, hg2, hsz2, hen⟩
  · exact .inl ⟨h0, hrun⟩
  · obtain ⟨x, rfl, rfl, hwf⟩ := Maps.keyOf_int_inv hk hkey
    obtain ⟨a, rfl, ha, _⟩ := plainElem_int_inv hk hv
    obtain ⟨g1, g2⟩ := h3 x hwf
    rw [h2 _ hl] at g1
    rw [hat, ha] at g2
    have hKx : K x = some a := by
      cases hK : K x with
      | none => rw [hK] at g1; cases g1
      | some z => rw [hK] at g2; simp at g2; rw [g2]
    exact .inr ⟨x, a, w2, cnt', hKx, hn, ⟨n, D, _, hrg2, fun kl' hl' => h2 _ (by rw [Bool.and_eq_true] at hl'; exact hl'.1), h3⟩, hlt, hg2, hsz2, hen⟩
end
end Go.Proofs.YtpipgffbhpnmkaaGreatDoor
