/- Parts of the proof: walks and plain laws, side by side. -/
import Derived.Test.YtpipgffbhpnmkaaGreatDoorProg
import Derived.Test.YtpipgffbhpnmkaaGreatDoorM3
import Derived.Deep.LoopGhost
set_option linter.unusedVariables false
set_option linter.unusedSimpArgs false
set_option linter.unusedSectionVars false
/-
  Plain: values of variables, a scan of a clause, one pass over clauses, passes till nothing is new. No program in sight.
-/
namespace Qm

/-- a literal's value: 1 holds, -1 fails, 0 open -/
def vof (v : List Int) (n : Int) : Int := if n < 0 then - v.getD (-n).toNat 0 else v.getD n.toNat 0
def vset (v : List Int) (n : Int) : List Int := if n < 0 then v.set (-n).toNat (-1) else v.set n.toNat 1

def scanStep (v : List Int) (st : Int × Int) (n : Int) : Int × Int :=
  if st.2 < 0 then st
  else if vof v n = 1 then (st.1, -1)
  else if vof v n = 0 ∧ (st.2 = 0 ∨ st.2 = 1 ∧ st.1 ≠ n) then (n, st.2 + 1)
  else st
def scan (v : List Int) (c : List Int) : Int × Int := c.foldl (scanStep v) (0, 0)

def passOne (s : Option (List Int × Bool)) (c : List Int) : Option (List Int × Bool) :=
  match s with
  | none => none
  | some (v, m) => if (scan v c).2 = 0 then none else if (scan v c).2 = 1 then some (vset v (scan v c).1, true) else some (v, m)
def pass (cs : List (List Int)) (v : List Int) : Option (List Int × Bool) := cs.foldl passOne (some (v, false))

def spreadN (cs : List (List Int)) : Nat → List Int → Option (List Int)
  | 0, v => some v
  | k + 1, v => match pass cs v with
    | none => none
    | some (v', m) => if m then spreadN cs k v' else some v'
def zeros (v : List Int) : Nat := (v.drop 1).count 0
def spread (cs : List (List Int)) (v : List Int) : Option (List Int) := spreadN cs (zeros v + 1) v

/-- a literal of so many variables -/
def IsLit (N : Nat) (n : Int) : Prop := n ≠ 0 ∧ n.natAbs ≤ N
def IsCl (N : Nat) (c : List Int) : Prop := ∀ n ∈ c, IsLit N n
def Fine (N : Nat) (v : List Int) : Prop := v.length = N + 1 ∧ ∀ x ∈ v, x = 0 ∨ x = 1 ∨ x = -1

theorem vset_len (v : List Int) (n : Int) : (vset v n).length = v.length := by
  unfold vset; split <;> simp

theorem vset_fine {N : Nat} {v : List Int} (hv : Fine N v) (n : Int) : Fine N (vset v n) := by
  refine ⟨by rw [vset_len]; exact hv.1, fun x hx => ?_⟩
  unfold vset at hx
  split at hx
  all_goals
    rcases List.mem_or_eq_of_mem_set hx with h | h
    · exact hv.2 x h
    · subst h; simp

/-! what a scan says -/
/-- what a scan's state says of the literals met so far -/
def ScanSays (v : List Int) (d : List Int) (st : Int × Int) : Prop :=
  (st.2 = -1 ∧ ∃ x ∈ d, vof v x = 1) ∨
  (st.2 = 0 ∧ ∀ x ∈ d, vof v x ≠ 1 ∧ vof v x ≠ 0) ∨
  (st.2 = 1 ∧ st.1 ∈ d ∧ vof v st.1 = 0 ∧ (∀ x ∈ d, vof v x ≠ 1 ∧ (vof v x = 0 → x = st.1))) ∨
  (2 ≤ st.2 ∧ (∀ x ∈ d, vof v x ≠ 1) ∧ ∃ x ∈ d, ∃ y ∈ d, x ≠ y ∧ vof v x = 0 ∧ vof v y = 0)

theorem scan_inv (v : List Int) (c d : List Int) (st : Int × Int) (h : ScanSays v d st) : ScanSays v (d ++ c) (c.foldl (scanStep v) st) := by
  induction c generalizing d st with
  | nil => simpa using h
  | cons n c ih =>
    have he : d ++ n :: c = (d ++ [n]) ++ c := by simp
    rw [he, List.foldl_cons]
    apply ih
    rcases h with ⟨h1, x, hx, hx1⟩ | ⟨h1, h2⟩ | ⟨h1, h2, h3, h4⟩ | ⟨h1, h2, x, hx, y, hy, hxy, hx0, hy0⟩
    · have : scanStep v st n = st := by simp [scanStep, h1]
      rw [this]
      exact .inl ⟨h1, x, by simp [hx], hx1⟩
    · by_cases a : vof v n = 1
      · have : scanStep v st n = (st.1, -1) := by simp [scanStep, h1, a]
        rw [this]; exact .inl ⟨rfl, n, by simp, a⟩
      · by_cases b : vof v n = 0
        · have : scanStep v st n = (n, 1) := by simp [scanStep, h1, b]
          rw [this]
          refine .inr (.inr (.inl ⟨rfl, by simp, b, fun x hx => ?_⟩))
          rcases List.mem_append.1 hx with hx | hx
          · exact ⟨(h2 x hx).1, fun h => absurd h (h2 x hx).2⟩
          · simp at hx; subst hx; exact ⟨a, fun _ => rfl⟩
        · have : scanStep v st n = st := by simp [scanStep, a, b]
          rw [this]
          refine .inr (.inl ⟨h1, fun x hx => ?_⟩)
          rcases List.mem_append.1 hx with hx | hx
          · exact h2 x hx
          · simp at hx; subst hx; exact ⟨a, b⟩
    · by_cases a : vof v n = 1
      · have : scanStep v st n = (st.1, -1) := by simp [scanStep, h1, a]
        rw [this]; exact .inl ⟨rfl, n, by simp, a⟩
      · by_cases b : vof v n = 0
        · by_cases e1 : st.1 = n
          · have : scanStep v st n = st := by simp [scanStep, h1, b, e1]
            rw [this]
            refine .inr (.inr (.inl ⟨h1, by simp [h2], h3, fun x hx => ?_⟩))
            rcases List.mem_append.1 hx with hx | hx
            · exact h4 x hx
            · simp at hx; subst hx; exact ⟨a, fun _ => e1.symm⟩
          · have : scanStep v st n = (n, 2) := by simp [scanStep, h1, b, e1]
            rw [this]
            refine .inr (.inr (.inr ⟨by simp, fun x hx => ?_, st.1, by simp [h2], n, by simp, e1, h3, b⟩))
            rcases List.mem_append.1 hx with hx | hx
            · exact (h4 x hx).1
            · simp at hx; subst hx; exact a
        · have : scanStep v st n = st := by simp [scanStep, a, b]
          rw [this]
          refine .inr (.inr (.inl ⟨h1, by simp [h2], h3, fun x hx => ?_⟩))
          rcases List.mem_append.1 hx with hx | hx
          · exact h4 x hx
          · simp at hx; subst hx; exact ⟨a, fun h => absurd h b⟩
    · by_cases a : vof v n = 1
      · have : scanStep v st n = (st.1, -1) := by
          have : ¬ st.2 < 0 := by omega
          simp [scanStep, this, a]
        rw [this]; exact .inl ⟨rfl, n, by simp, a⟩
      · have : scanStep v st n = st := by
          have h3 : ¬ st.2 < 0 := by omega
          have h4 : ¬ (st.2 = 0 ∨ st.2 = 1 ∧ st.1 ≠ n) := by omega
          simp only [scanStep, h3, a, h4, if_false, and_false]
        rw [this]
        refine .inr (.inr (.inr ⟨h1, fun z hz => ?_, x, by simp [hx], y, by simp [hy], hxy, hx0, hy0⟩))
        rcases List.mem_append.1 hz with hz | hz
        · exact h2 z hz
        · simp at hz; subst hz; exact a

/-- the four answers of a scan -/
theorem scan_cases (v : List Int) (c : List Int) :
    ((scan v c).2 = -1 ∧ ∃ x ∈ c, vof v x = 1) ∨
    ((scan v c).2 = 0 ∧ ∀ x ∈ c, vof v x ≠ 1 ∧ vof v x ≠ 0) ∨
    ((scan v c).2 = 1 ∧ (scan v c).1 ∈ c ∧ vof v (scan v c).1 = 0 ∧ (∀ x ∈ c, vof v x ≠ 1 ∧ (vof v x = 0 → x = (scan v c).1))) ∨
    (2 ≤ (scan v c).2 ∧ (∀ x ∈ c, vof v x ≠ 1) ∧ ∃ x ∈ c, ∃ y ∈ c, x ≠ y ∧ vof v x = 0 ∧ vof v y = 0) := by
  have := scan_inv v c [] (0, 0) (.inr (.inl ⟨rfl, by simp⟩))
  simpa [scan, ScanSays] using this


/-! passes -/
theorem passOne_none (cs : List (List Int)) : cs.foldl passOne none = none := by
  induction cs with
  | nil => rfl
  | cons c cs ih => rw [List.foldl_cons]; exact ih

theorem foldl_take_succ {α β : Type} (f : β → α → β) (s : β) (l : List α) (k : Nat) (d : α) (h : k < l.length) : (l.take (k+1)).foldl f s = f ((l.take k).foldl f s) (l.getD k d) := by
  rw [List.take_succ_eq_append_getElem h, List.foldl_append, List.getD_eq_getElem?_getD, List.getElem?_eq_getElem h]; rfl
theorem foldl_take_drop {α β : Type} (f : β → α → β) (s : β) (l : List α) (k : Nat) : l.foldl f s = (l.drop k).foldl f ((l.take k).foldl f s) := by
  rw [← List.foldl_append, List.take_append_drop]
theorem flatten_take_succ {α : Type} (ls : List (List α)) (k : Nat) (h : k < ls.length) : (ls.take (k+1)).flatten = (ls.take k).flatten ++ ls.getD k [] := by
  rw [List.take_succ_eq_append_getElem h, List.flatten_append, List.getD_eq_getElem?_getD, List.getElem?_eq_getElem h]; simp

theorem passOne_fails {v1 : List Int} {m : Bool} {c : List Int} (h0 : (scan v1 c).2 = 0) : passOne (some (v1, m)) c = none := by simp only [passOne]; rw [if_pos h0]
theorem count_set_zero (l : List Int) (k : Nat) (x : Int) (hk : k < l.length) (h0 : l[k] = 0) (hx : x ≠ 0) : (l.set k x).count 0 + 1 = l.count 0 := by
  induction l generalizing k with
  | nil => simp at hk
  | cons a l ih =>
    cases k with
    | zero =>
      simp at h0; subst h0
      simp [List.set, List.count_cons, hx]
    | succ k =>
      have := ih k (by simpa using hk) (by simpa using h0)
      simp only [List.set, List.count_cons]; omega

theorem zeros_vset {N : Nat} {v : List Int} (hv : Fine N v) {n : Int} (hn : IsLit N n) (h : vof v n = 0) : zeros (vset v n) + 1 = zeros v := by
  have hl := hv.1
  obtain ⟨h0, h1⟩ := hn
  have key : ∀ (k : Nat) (x : Int), 1 ≤ k → k < v.length → v.getD k 0 = 0 → x ≠ 0 → zeros (v.set k x) + 1 = zeros v := by
    intro k x hk1 hk hz hx
    unfold zeros
    obtain ⟨j, rfl⟩ : ∃ j, k = j + 1 := ⟨k - 1, by omega⟩
    have : (v.set (j+1) x).drop 1 = (v.drop 1).set j x := by
      cases v with
      | nil => rfl
      | cons a v => rfl
    rw [this]
    refine count_set_zero _ _ _ (by simp; omega) ?_ hx
    rw [List.getD_eq_getElem?_getD, List.getElem?_eq_getElem hk] at hz
    simpa using hz
  unfold vset
  unfold vof at h
  by_cases hn0 : n < 0
  · rw [if_pos hn0] at h ⊢
    exact key _ _ (by omega) (by omega) (by omega) (by omega)
  · rw [if_neg hn0] at h ⊢
    exact key _ _ (by omega) (by omega) h (by omega)

/-- a step of a pass keeps what is fine, adds to what is known -/
theorem passOne_ok {N : Nat} {v v' : List Int} {m m' : Bool} {c : List Int} (hv : Fine N v) (hc : IsCl N c) (h : passOne (some (v, m)) c = some (v', m')) :
    Fine N v' ∧ ((v' = v ∧ m' = m) ∨ (zeros v' + 1 = zeros v ∧ m' = true)) := by
  simp only [passOne] at h
  split at h
  · cases h
  · split at h
    · rename_i h0 h1
      injection h with h; injection h with ha hb
      subst ha hb
      rcases scan_cases v c with ⟨e, _⟩ | ⟨e, _⟩ | ⟨_, hm, hz, _⟩ | ⟨e, _⟩
      · omega
      · omega
      · exact ⟨vset_fine hv _, .inr ⟨zeros_vset hv (hc _ hm) hz, rfl⟩⟩
      · omega
    · injection h with h; injection h with ha hb
      subst ha hb
      exact ⟨hv, .inl ⟨rfl, rfl⟩⟩

theorem pass_ok {N : Nat} {cs : List (List Int)} (hcs : ∀ c ∈ cs, IsCl N c) : ∀ {v v' : List Int} {m m' : Bool}, Fine N v → cs.foldl passOne (some (v, m)) = some (v', m') →
    Fine N v' ∧ ((v' = v ∧ m' = m) ∨ (zeros v' < zeros v ∧ m' = true)) := by
  induction cs with
  | nil => intro v v' m m' hv h; simp at h; obtain ⟨rfl, rfl⟩ := h; exact ⟨hv, .inl ⟨rfl, rfl⟩⟩
  | cons c cs ih =>
    intro v v' m m' hv h
    rw [List.foldl_cons] at h
    cases hp : passOne (some (v, m)) c with
    | none => rw [hp, passOne_none] at h; cases h
    | some x =>
      obtain ⟨v1, m1⟩ := x
      rw [hp] at h
      obtain ⟨hf, h1⟩ := passOne_ok hv (hcs c (by simp)) hp
      obtain ⟨hf', h2⟩ := ih (fun d hd => hcs d (by simp [hd])) hf h
      refine ⟨hf', ?_⟩
      rcases h1 with ⟨rfl, rfl⟩ | ⟨ha, rfl⟩
      · exact h2
      · rcases h2 with ⟨rfl, rfl⟩ | ⟨hb, rfl⟩
        · exact .inr ⟨by omega, rfl⟩
        · exact .inr ⟨by omega, rfl⟩

/-- more fuel changes nothing -/
theorem spreadN_fuel {N : Nat} {cs : List (List Int)} (hcs : ∀ c ∈ cs, IsCl N c) : ∀ (k j : Nat) (v : List Int), Fine N v → zeros v < k → zeros v < j → spreadN cs k v = spreadN cs j v := by
  intro k
  induction k with
  | zero => intro j v _ h; omega
  | succ k ih =>
    intro j v hv hk hj
    obtain ⟨j, rfl⟩ : ∃ i, j = i + 1 := ⟨j - 1, by omega⟩
    simp only [spreadN]
    cases hp : pass cs v with
    | none => rfl
    | some x =>
      obtain ⟨v', m⟩ := x
      simp only
      cases m with
      | false => rfl
      | true =>
        obtain ⟨hf, h⟩ := pass_ok hcs hv hp
        rcases h with ⟨_, h⟩ | ⟨h, _⟩
        · cases h
        · exact ih j v' hf (by omega) (by omega)

/-- a round of passes -/
theorem spread_step {N : Nat} {cs : List (List Int)} (hcs : ∀ c ∈ cs, IsCl N c) {v : List Int} (hv : Fine N v) :
    spread cs v = match pass cs v with | none => none | some (v', m) => if m then spread cs v' else some v' := by
  show spreadN cs (zeros v + 1) v = _
  simp only [spreadN]
  cases hp : pass cs v with
  | none => rfl
  | some x =>
    obtain ⟨v', m⟩ := x
    simp only
    cases m with
    | false => rfl
    | true =>
      obtain ⟨hf, h⟩ := pass_ok hcs hv hp
      rcases h with ⟨_, h⟩ | ⟨h, _⟩
      · cases h
      · exact spreadN_fuel hcs _ _ v' hf (by omega) (by omega)
theorem spread_more {N : Nat} {cs : List (List Int)} (hcs : ∀ c ∈ cs, IsCl N c) {v v' : List Int} (hv : Fine N v) (h : pass cs v = some (v', true)) : spread cs v = spread cs v' := by
  rw [spread_step hcs hv, h]; rfl
theorem spread_done {N : Nat} {cs : List (List Int)} (hcs : ∀ c ∈ cs, IsCl N c) {v v' : List Int} (hv : Fine N v) (h : pass cs v = some (v', false)) : spread cs v = some v' := by
  rw [spread_step hcs hv, h]; rfl

/-! the open literals of a clause, each once: the document's way to scan -/
def Opens (v d os : List Int) : Prop := os.Nodup ∧ ∀ y, y ∈ os ↔ (y ∈ d ∧ vof v y ≠ -1)
theorem Opens.start (v : List Int) : Opens v [] [] := ⟨List.nodup_nil, fun y => by simp⟩
theorem Opens.skip {v d os : List Int} {x : Int} (h : Opens v d os) (hx : vof v x = -1) : Opens v (d ++ [x]) os :=
  ⟨h.1, fun y => by
    rw [h.2 y, List.mem_append, List.mem_singleton]
    constructor
    · exact fun ⟨a, b⟩ => ⟨.inl a, b⟩
    · rintro ⟨a | a, b⟩
      · exact ⟨a, b⟩
      · subst a; exact absurd hx b⟩
theorem Opens.put {v d os : List Int} {x : Int} (h : Opens v d os) (hx : vof v x ≠ -1) : Opens v (d ++ [x]) (if x ∈ os then os else x :: os) := by
  refine ⟨?_, fun y => ?_⟩
  · split
    · exact h.1
    · rename_i hn; exact List.nodup_cons.2 ⟨hn, h.1⟩
  · rw [List.mem_append, List.mem_singleton]
    split
    · rename_i hin
      rw [h.2 y]
      constructor
      · exact fun ⟨a, b⟩ => ⟨.inl a, b⟩
      · rintro ⟨a | a, b⟩
        · exact ⟨a, b⟩
        · subst a; exact (h.2 y).1 hin
    · rw [List.mem_cons, h.2 y]
      constructor
      · rintro (a | ⟨a, b⟩)
        · subst a; exact ⟨.inr rfl, hx⟩
        · exact ⟨.inl a, b⟩
      · rintro ⟨a | a, b⟩
        · exact .inr ⟨a, b⟩
        · exact .inl a
theorem Opens.mem {v d os : List Int} (h : Opens v d os) {y : Int} (hy : y ∈ os) : y ∈ d ∧ vof v y ≠ -1 := (h.2 y).1 hy
/-! literals that are assumed -/
end Qm

/- Walks: Values.Of, Values.Set. -/
namespace Go.Proofs.YtpipgffbhpnmkaaGreatDoor
open Go.RowKit

end Go.Proofs.YtpipgffbhpnmkaaGreatDoor

/- Walk: Values.Spread. -/
namespace Go.Proofs.YtpipgffbhpnmkaaGreatDoor
open Go.RowKit

def Head (cs : List (List Int)) (v vc : List Int) (k : Nat) (m : Bool) : Prop := if m then Qm.zeros vc < k ∧ Qm.spread cs vc = Qm.spread cs v else Qm.spread cs v = some vc
/-- in the lists: so many lists are done -/
def InLists (ls : List (List (List Int))) (v1 vc : List Int) (m : Bool) (j : Nat) : Prop := (ls.take j).flatten.foldl Qm.passOne (some (v1, false)) = some (vc, m)
def InList (s : Option (List Int × Bool)) (l : List (List Int)) (vc : List Int) (m : Bool) (j : Nat) : Prop := (l.take j).foldl Qm.passOne s = some (vc, m)
def InScan (v c : List Int) (k : Nat) (l o : Int) : Prop := (c.take k).foldl (Qm.scanStep v) (0, 0) = (l, o) ∧ 0 ≤ o ∧ o ≤ k

theorem InScan.next {v c : List Int} {q : Nat} {l o x : Int} (h : InScan v c q l o) (hq : q < c.length) (hx : c.getD q 0 = x) : (c.take (q+1)).foldl (Qm.scanStep v) (0, 0) = Qm.scanStep v (l, o) x := by
  rw [Qm.foldl_take_succ _ _ _ _ 0 hq, h.1, hx]
theorem InScan.done {v c : List Int} {q : Nat} {l o : Int} (h : InScan v c q l o) (hq : q = c.length) : Qm.scan v c = (l, o) := by
  unfold Qm.scan; rw [← h.1, hq, List.take_length]
theorem InLists.next {ls : List (List (List Int))} {v1 vc v3 : List Int} {m m3 : Bool} {j q : Nat} (h : InLists ls v1 vc m j) (hj : j < ls.length) (h6 : InList (some (vc, m)) (ls.getD j []) v3 m3 q) (hq : q = (ls.getD j []).length) :
    InLists ls v1 v3 m3 (j + 1) := by
  unfold InLists at h ⊢
  unfold InList at h6
  rw [hq, List.take_length] at h6
  rw [Qm.flatten_take_succ _ _ hj, List.foldl_append, h, h6]
theorem InLists.fails {ls : List (List (List Int))} {v1 vc v3 : List Int} {m m3 : Bool} {j q : Nat} {c : List Int} (h : InLists ls v1 vc m j) (hj : j < ls.length) (h6 : InList (some (vc, m)) (ls.getD j []) v3 m3 q) (hq : q < (ls.getD j []).length)
    (hc : (ls.getD j []).getD q [] = c) (h0 : (Qm.scan v3 c).2 = 0) : Qm.pass ls.flatten v1 = none := by
  have e : ls.flatten = (ls.take (j+1)).flatten ++ (ls.drop (j+1)).flatten := by rw [← List.flatten_append, List.take_append_drop]
  unfold InLists at h
  unfold InList at h6
  unfold Qm.pass
  rw [e, List.foldl_append, Qm.flatten_take_succ _ _ hj, List.foldl_append, h, Qm.foldl_take_drop _ _ (ls.getD j []) (q+1), Qm.foldl_take_succ _ _ _ _ [] hq, h6, hc, Qm.passOne_fails h0, Qm.passOne_none, Qm.passOne_none]
theorem InLists.all {ls : List (List (List Int))} {v1 vc : List Int} {m : Bool} {j : Nat} (h : InLists ls v1 vc m j) (hj : j = ls.length) : Qm.pass ls.flatten v1 = some (vc, m) := by
  unfold InLists at h
  rw [hj, List.take_length] at h
  exact h
theorem Head.next {N : Nat} {cs : List (List Int)} {v v1 v2 : List Int} {m : Bool} (hcs : ∀ c ∈ cs, Qm.IsCl N c) (hf : Qm.Fine N v1) (h : Qm.spread cs v1 = Qm.spread cs v) (hp : Qm.pass cs v1 = some (v2, m)) : Head cs v v2 (Qm.zeros v1) m := by
  cases m with
  | true =>
    refine ⟨?_, by rw [← h]; exact (Qm.spread_more hcs hf hp).symm⟩
    rcases (Qm.pass_ok hcs hf hp).2 with ⟨_, h⟩ | ⟨h, _⟩
    · cases h
    · exact h
  | false => exact (h.symm.trans (Qm.spread_done hcs hf hp) : Qm.spread cs v = some v2)
end Go.Proofs.YtpipgffbhpnmkaaGreatDoor

/- Walks: Values.Set, Values.Spread, with spare cells behind the values (a clone's). -/
namespace Go.Proofs.YtpipgffbhpnmkaaGreatDoor
open Go.RowKit
theorem wholeS_row {w : World} {S : Nat → Prop} {b n : Nat} {t : TypeId} {vs sp : List Value} (h : Whole w b t (vs ++ sp)) (hB : S b) (hn : vs.length = n) : Row w S (some ⟨b, 0, none⟩) n vs := by
  refine ⟨hn, fun _ => ⟨b, 0, rfl, hB, fun j hj => ?_⟩⟩
  rw [Nat.zero_add, h.cell j, List.getElem?_append_left (by omega)]
/-- what is owned, with its spare -/
theorem own_whole {w : World} {base : Nat} {e : TypeId} {v : Value} {n : Nat} {vs : List Value} (h : w.ownsRow base e 1 v n vs) (hn : 0 < n) : ∃ g c sp, v = .slice (some ⟨g, 0, none⟩) n c ∧ base ≤ g ∧ n ≤ c ∧ c ≤ maxLen ∧ Whole w g e (vs ++ sp) := by
  rcases h.2 with ⟨_, h0⟩ | ⟨g, cap, cur, rfl, hb, hh, hc, hm, hs, ht⟩
  · omega
  · refine ⟨g, cap, cur.toList.drop (n * 1), rfl, hb, hc, hm, ?_⟩
    unfold Whole
    rw [hh, ← ht, List.take_append_drop]
end Go.Proofs.YtpipgffbhpnmkaaGreatDoor
