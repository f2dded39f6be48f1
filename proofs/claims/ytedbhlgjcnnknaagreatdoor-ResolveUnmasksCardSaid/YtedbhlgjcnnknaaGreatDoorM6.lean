/- Parts of the proof: walks and plain laws, side by side. -/
import Derived.Test.YtedbhlgjcnnknaaGreatDoorM5
import Derived.Test.YtedbhlgjcnnknaaGreatDoorProg
import Derived.Test.YtedbhlgjcnnknaaGreatDoorM1
import Derived.Test.YtedbhlgjcnnknaaGreatDoorM2
import Derived.Deep.LoopGhost
import Derived.StillTailTactics
import Derived.BigQuiet
set_option linter.unusedVariables false
set_option linter.unusedSimpArgs false
set_option linter.unusedSectionVars false
namespace Go.Proofs.YtedbhlgjcnnknaaGreatDoor
/- The best set that a wish asks for, in plain words (no program in sight). -/
section
open Go.RowKit Qm

/-! ### right wishes, by their parts -/
theorem ckMask_iff' {ps : List Pk} : ∀ {ms : List Int} {p : Option Int}, ckMask ps p ms = 0 ↔ (∀ k ∈ ms, 0 ≤ k ∧ k < ps.length) ∧ (∀ q, p = some q → ∀ k ∈ ms, q < k) ∧ ms.Pairwise (· < ·)
 | [], p => by simp [ckMask]
 | k :: r, p => by
  rw [ckMask]
  by_cases h1 : k < 0 ∨ (ps.length : Int) ≤ k
  ·rw [if_pos h1]
   refine ⟨fun h => (by cases h), fun ⟨h, _⟩ => ?_⟩
   have := h k (List.mem_cons_self ..); omega
  ·rw [if_neg h1]
   by_cases h2 : badPl p k = true
   ·rw [if_pos h2]
    refine ⟨fun h => (by cases h), fun ⟨_, h, _⟩ => ?_⟩
    cases p with
    | none => cases h2
    | some q =>
     have := h q rfl k (List.mem_cons_self ..)
     simp only [badPl, decide_eq_true_eq] at h2; omega
   ·rw [if_neg h2, ckMask_iff', List.forall_mem_cons, List.pairwise_cons]
    constructor
    ·rintro ⟨g1, g2, g3⟩
     refine ⟨⟨by omega, g1⟩, fun q hq x hx => ?_, fun x hx => g2 k rfl x hx, g3⟩
     subst hq
     simp only [badPl, decide_eq_true_eq] at h2
     rcases List.mem_cons.1 hx with rfl | hx
     ·omega
     ·have := g2 k rfl x hx; omega
    ·rintro ⟨⟨_, g1⟩, g2, g3, g4⟩
     exact ⟨g1, fun q hq x hx => by injection hq with hq; subst hq; exact g3 x hx, g4⟩
theorem ckMask_iff {ps : List Pk} {ms : List Int} : ckMask ps none ms = 0 ↔ (∀ k ∈ ms, 0 ≤ k ∧ k < ps.length) ∧ ms.Pairwise (· < ·) := by
 rw [ckMask_iff']
 exact ⟨fun ⟨a, _, b⟩ => ⟨a, b⟩, fun ⟨a, b⟩ => ⟨a, fun q h => (by cases h), b⟩⟩
theorem wish_of {ps : List Pk} {v : Ws} (h : WishOk ps v) : ckWish ps v = 0 := by
 have e : ckSet ps v.ins = 0 := by unfold ckSet; rw [if_neg (by rw [h.tree]; decide), h.ok.ins]
 unfold ckWish ckWishR
 rw [if_neg (by rw [e]; decide), if_neg (by have := h.ts; omega), if_neg (by rw [h.ats]; decide), if_neg (by rw [h.ms]; decide), h.on]
theorem wish_mask {ps : List Pk} {v : Ws} {ms : List Int} (h : ckWish ps v = 0) (hm : ms.Sublist v.ms) : ckWish ps { v with ms := ms } = 0 := by
 have W := wish_parts h
 obtain ⟨g1, g2⟩ := ckMask_iff.1 W.ms
 exact wish_of ⟨W.tree, ⟨W.ok.ins⟩, W.ts, W.ats, ckMask_iff.2 ⟨fun k hk => g1 k (hm.subset hk), g2.sublist hm⟩, W.on⟩
/-! ### what may be where less is asked -/
theorem validP_mono {ps : List Pk} {ts ts' : List At} {ms ms' : List Int} {l : List Mem} (ht : ∀ a ∈ ts', a ∈ ts) (hm : ∀ k ∈ ms', k ∈ ms) (h : validP ps ts ms l = true) : validP ps ts' ms' l = true := by
 unfold validP at h ⊢
 rw [Bool.and_eq_true] at h ⊢
 refine ⟨List.all_eq_true.2 fun a ha => List.all_eq_true.1 h.1 a (ht a ha), ?_⟩
 refine allOk_iff.2 fun i hi => ?_
 have := allOk_iff.1 h.2 i hi
 unfold oneOk at this ⊢
 rw [Bool.and_eq_true] at this ⊢
 refine ⟨?_, this.2⟩
 have h3 := this.1
 cases hc : ms'.contains (memAt l i).pl
 ·rfl
 ·have := List.contains_iff_mem.2 (hm _ (List.contains_iff_mem.1 hc))
  rw [this] at h3; cases h3

/-! ### the best one -/
def May (ps : List Pk) (v : Ws) : Prop := ∃ l, ckMs ps none l = 0 ∧ validP ps v.ts v.ms l = true
structure Best (ps : List Pk) (v : Ws) (l : List Mem) : Prop where
 ck : ckMs ps none l = 0
 ok : validP ps v.ts v.ms l = true
 first : ∀ l', ckMs ps none l' = 0 → validP ps v.ts v.ms l' = true → LexLe (chVec ps v l) (chVec ps v l')
theorem Best.may {ps : List Pk} {v : Ws} {l : List Mem} (h : Best ps v l) : May ps v := ⟨l, h.ck, h.ok⟩
theorem chVec_out {ps : List Pk} {v : Ws} {l : List Mem} {k : Nat} (h : manyC ps ≤ k) : (chVec ps v l).getD k false = false := by
 rw [List.getD_eq_getElem?_getD, List.getElem?_eq_none (by rw [chVec_len]; exact h)]; rfl
theorem best_of {ps : List Pk} {v : Ws} {N : Nat} {cs : List (List Int)} (E : EncOk ps v N cs) (hv : WsOk ps v) {m : List Bool} (hh : holdsF m cs = true) (hleast : ∀ m' : List Bool, m'.length = N → holdsF m' cs = true → LexLe m m') : Best ps v (setOfM (chW ps v) ps m) where
 ck := setOfM_ck fun _ _ => trivial
 ok := E.sound m hh
 first l' h1 h2 := by
  have e : setOfM (chW ps v) ps (chVec ps v l') = l' := setOf_chVec hv h1
  obtain ⟨m', hl', ha, hh'⟩ := E.ext (chVec ps v l') chVec_len (by rw [e]; exact h2)
  have ll := least_choices E hv hh hleast
  intro k hk hne
  by_cases hkM : k < manyC ps
  ·have := hleast m' hl' hh' k (fun j hj => by rw [ll j (by omega), ha j (by omega)]; exact hk j hj) (by rw [ll k hkM, ha k hkM]; exact hne)
   rw [← ll k hkM]; exact this
  ·rw [chVec_out (by omega), chVec_out (by omega)] at hne; exact absurd rfl hne
theorem none_of {ps : List Pk} {v : Ws} {N : Nat} {cs : List (List Int)} (E : EncOk ps v N cs) (hv : WsOk ps v) (hno : ∀ m' : List Bool, m'.length = N → holdsF m' cs = true → False) : ¬ May ps v := fun ⟨l', h1, h2⟩ => by
 have e : setOfM (chW ps v) ps (chVec ps v l') = l' := setOf_chVec hv h1
 obtain ⟨m', hl', ha, hh'⟩ := E.ext (chVec ps v l') chVec_len (by rw [e]; exact h2)
 exact hno m' hl' hh'
/-! ### who has it keeps it -/
/-! ### by trying all -/
end
/- What would have to be unmasked, and all choices one after the other: in plain words (no program in sight). -/
section
open Go.RowKit Qm

/-! ### what would have to be unmasked: q tells whether there is a set, with so many masked -/
def unmStep (q : List Int → Bool) (s : List Int × List Int) (k : Int) : List Int × List Int := if q (s.1 ++ [k]) = true then (s.1 ++ [k], s.2) else (s.1, s.2 ++ [k])
def unmAll (q : List Int → Bool) (ks : List Int) : List Int × List Int := ks.foldl (unmStep q) ([], [])
theorem unmAll_snoc {q : List Int → Bool} {ks : List Int} {k : Int} : unmAll q (ks ++ [k]) = unmStep q (unmAll q ks) k := by
 unfold unmAll; rw [List.foldl_append]; rfl
theorem unmAll_take {q : List Int → Bool} {ks : List Int} {j : Nat} {k : Int} (h : ks[j]? = some k) : unmAll q (ks.take (j + 1)) = unmStep q (unmAll q (ks.take j)) k := by
 obtain ⟨hj, rfl⟩ := List.getElem?_eq_some_iff.1 h
 rw [List.take_succ_eq_append_getElem hj, unmAll_snoc]
structure UnmOk (q : List Int → Bool) (ks : List Int) (s : List Int × List Int) : Prop where
 s1 : s.1.Sublist ks
 s2 : s.2.Sublist ks
 part : ∀ k ∈ ks, k ∈ s.1 ∨ k ∈ s.2
 may : q s.1 = true
 no : ∀ k ∈ s.2, ∀ b, (∀ x ∈ s.1, x ∈ b) → k ∈ b → q b = false
theorem UnmOk.step {q : List Int → Bool} (hm : ∀ a b, (∀ k ∈ b, k ∈ a) → q a = true → q b = true) {ks : List Int} {s : List Int × List Int} {k : Int} (h : UnmOk q ks s) : UnmOk q (ks ++ [k]) (unmStep q s k) := by
 unfold unmStep
 by_cases hq : q (s.1 ++ [k]) = true
 ·rw [if_pos hq]
  refine ⟨h.s1.append (List.Sublist.refl _), h.s2.trans (List.sublist_append_left _ _), fun x hx => ?_, hq, fun x hx b hb hxb => h.no x hx b (fun y hy => hb y (List.mem_append.2 (.inl hy))) hxb⟩
  rcases List.mem_append.1 hx with hx | hx
  ·exact (h.part x hx).imp (fun g => List.mem_append.2 (.inl g)) id
  ·exact .inl (List.mem_append.2 (.inr hx))
 ·rw [if_neg hq]
  refine ⟨h.s1.trans (List.sublist_append_left _ _), h.s2.append (List.Sublist.refl _), fun x hx => ?_, h.may, fun x hx b hb hxb => ?_⟩
  ·rcases List.mem_append.1 hx with hx | hx
   ·exact (h.part x hx).imp id fun g => List.mem_append.2 (.inl g)
   ·exact .inr (List.mem_append.2 (.inr hx))
  ·rcases List.mem_append.1 hx with hx | hx
   ·exact h.no x hx b hb hxb
   ·rw [List.mem_singleton] at hx; subst hx
    cases hqb : q b
    ·rfl
    ·refine absurd (hm b (s.1 ++ [x]) (fun y hy => ?_) hqb) hq
     rcases List.mem_append.1 hy with hy | hy
     ·exact hb y hy
     ·rw [List.mem_singleton] at hy; rw [hy]; exact hxb
theorem unm_ok {q : List Int → Bool} (hm : ∀ a b, (∀ k ∈ b, k ∈ a) → q a = true → q b = true) (h0 : q [] = true) (ks : List Int) : ∀ (j : Nat), UnmOk q (ks.take j) (unmAll q (ks.take j))
 | 0 => ⟨List.Sublist.refl _, List.Sublist.refl _, fun k hk => (by cases hk), h0, fun k hk => (by cases hk)⟩
 | j + 1 => by
  by_cases hj : j < ks.length
  ·rw [List.take_succ_eq_append_getElem hj, unmAll_snoc]
   exact (unm_ok hm h0 ks j).step hm
  ·have e : ks.take (j + 1) = ks.take j := by rw [List.take_of_length_le (by omega), List.take_of_length_le (by omega)]
   rw [e]; exact unm_ok hm h0 ks j
theorem unm_all {q : List Int → Bool} (hm : ∀ a b, (∀ k ∈ b, k ∈ a) → q a = true → q b = true) (h0 : q [] = true) (ks : List Int) : UnmOk q ks (unmAll q ks) := by
 have := unm_ok hm h0 ks ks.length
 rwa [List.take_length] at this
theorem UnmOk.disj {q : List Int → Bool} {ks : List Int} {s : List Int × List Int} (h : UnmOk q ks s) {k : Int} (h1 : k ∈ s.1) (h2 : k ∈ s.2) : False := by
 have := h.no k h2 s.1 (fun x hx => hx) h1
 rw [h.may] at this; cases this
theorem UnmOk.nil_iff {q : List Int → Bool} {ks : List Int} {s : List Int × List Int} (hm : ∀ a b, (∀ k ∈ b, k ∈ a) → q a = true → q b = true) (h : UnmOk q ks s) : s.2 = [] ↔ q ks = true := by
 constructor
 ·intro e
  exact hm s.1 ks (fun k hk => (h.part k hk).elim id fun g => by rw [e] at g; cases g) h.may
 ·intro hq
  cases e : s.2 with
  | nil => rfl
  | cons k r =>
   have := h.no k (by rw [e]; exact List.mem_cons_self ..) ks (fun x hx => h.s1.subset hx) (h.s2.subset (by rw [e]; exact List.mem_cons_self ..))
   rw [hq] at this; cases this
def without (ks out : List Int) (but : Int) : List Int := ks.filter fun k => !(decide (k ≠ but) && out.contains k)
theorem mem_without {ks out : List Int} {but k : Int} : k ∈ without ks out but ↔ k ∈ ks ∧ (k = but ∨ k ∉ out) := by
 unfold without
 rw [List.mem_filter]
 refine and_congr Iff.rfl ?_
 rw [Bool.not_eq_true', Bool.and_eq_false_iff, decide_eq_false_iff_not]
 constructor
 ·rintro (h | h)
  ·exact .inl (Classical.not_not.1 h)
  ·exact .inr fun g => by rw [List.contains_iff_mem.2 g] at h; cases h
 ·rintro (h | h)
  ·exact .inl fun g => g h
  ·right
   cases hc : out.contains k
   ·rfl
   ·exact absurd (List.contains_iff_mem.1 hc) h
theorem UnmOk.without_all {q : List Int → Bool} {ks : List Int} {s : List Int × List Int} (hm : ∀ a b, (∀ k ∈ b, k ∈ a) → q a = true → q b = true) (h : UnmOk q ks s) {but : Int} (hb : but ∉ ks) : q (without ks s.2 but) = true :=
 hm s.1 _ (fun k hk => by
  obtain ⟨h1, h2⟩ := mem_without.1 hk
  rcases h2 with rfl | h2
  ·exact absurd h1 hb
  ·exact (h.part k h1).resolve_right h2) h.may
theorem UnmOk.without_one {q : List Int → Bool} {ks : List Int} {s : List Int × List Int} (h : UnmOk q ks s) {k : Int} (hk : k ∈ s.2) : q (without ks s.2 k) = false :=
 h.no k hk _ (fun x hx => mem_without.2 ⟨h.s1.subset hx, .inr fun g => h.disj hx g⟩) (mem_without.2 ⟨h.s2.subset hk, .inl rfl⟩)

/-! ### all choices, one after the other -/
end
/- Walks: Values.Of, Values.Set. -/
section
open Go.RowKit

theorem vof_bd {v : List Int} (hv : ∀ y ∈ v, -1 ≤ y ∧ y ≤ 1) (k : Nat) : -1 ≤ v.getD k 0 ∧ v.getD k 0 ≤ 1 := by
 rw [List.getD_eq_getElem?_getD]
 by_cases h : k < v.length
 ·rw [List.getElem?_eq_getElem h]; exact hv _ (List.getElem_mem h)
 ·rw [List.getElem?_eq_none (by omega)]; simp

set_option maxHeartbeats 400000 in
theorem of_any (A : Option Addr) (n cap : Nat) (v : List Int) (x : Int) (w : World) (S : Nat → Prop) (hr : RInts w S A n v) (hn : n ≤ 401) (hx : -(n : Int) < x ∧ x < n) (hv : ∀ y ∈ v, -1 ≤ y ∧ y ≤ 1) :
  Calls Tryz.prog 59 #[.slice A n cap, .int .i64 x] w fun e w' => e = .returned (.int .i64 (Qm.vof v x)) ∧ w = w' := by
 by_cases h0 : x < 0
 ·obtain ⟨k, rfl⟩ : ∃ k : Nat, x = -(k : Int) := ⟨(-x).toNat, by omega⟩
  have Hr : Hid (Qm.vof v (-(k : Int)) = - v.getD k 0) := by show _ = _; unfold Qm.vof; rw [if_pos h0]; congr 2; omega
  obtain ⟨b, o, rfl, hb, hc⟩ := hr.at_ (k := k) (by omega)
  have hbd := vof_bd hv k
  clear hv hr
  generalize v.getD k 0 = u at hc hbd Hr
  have hk : (k : Int) < n := by omega
  clear hx
  go_enter Tryz.func59, Tryz.ntmps59
  go_wp2
  go_ret
  exact ⟨ret_int Hr.out.symm, rfl⟩
 ·obtain ⟨k, rfl⟩ : ∃ k : Nat, x = (k : Int) := ⟨x.toNat, by omega⟩
  have Hr : Hid (Qm.vof v (k : Int) = v.getD k 0) := by show _ = _; unfold Qm.vof; rw [if_neg h0]; congr 1
  obtain ⟨b, o, rfl, hb, hc⟩ := hr.at_ (k := k) (by omega)
  have hbd := vof_bd hv k
  clear hv hr
  generalize v.getD k 0 = u at hc hbd Hr
  have hk : (k : Int) < n := by omega
  clear hx
  go_enter Tryz.func59, Tryz.ntmps59
  go_wp2
  go_ret
  exact ⟨ret_int Hr.out.symm, rfl⟩

theorem map_set_int (v : List Int) (k : Nat) (x : Int) : (v.map (Value.int .i64)).set k (.int .i64 x) = (v.set k x).map (Value.int .i64) := by rw [List.map_set]

end
/- Walk: Values.Spread. -/
section
open Go.RowKit

theorem fine_bd {N : Nat} {v : List Int} (h : Qm.Fine N v) : ∀ y ∈ v, -1 ≤ y ∧ y ≤ 1 := fun y hy => by have := h.2 y hy; omega

def Lits (N : Nat) (ls : List (List (List Int))) : Prop := ∀ l ∈ ls, ∀ c ∈ l, Qm.IsCl N c
theorem Lits.flat {N : Nat} {ls : List (List (List Int))} (h : Lits N ls) : ∀ c ∈ ls.flatten, Qm.IsCl N c := by
 intro c hc
 obtain ⟨l, hl, hc⟩ := List.mem_flatten.1 hc
 exact h l hl c hc
def Head (cs : List (List Int)) (v vc : List Int) (k : Nat) (m : Bool) : Prop := if m then Qm.zeros vc < k ∧ Qm.spread cs vc = Qm.spread cs v else Qm.spread cs v = some vc
def InLists (ls : List (List (List Int))) (v1 vc : List Int) (m : Bool) (j : Nat) : Prop := (ls.take j).flatten.foldl Qm.passOne (some (v1, false)) = some (vc, m)
def InList (s : Option (List Int × Bool)) (l : List (List Int)) (vc : List Int) (m : Bool) (j : Nat) : Prop := (l.take j).foldl Qm.passOne s = some (vc, m)
def InScan (v c : List Int) (k : Nat) (l o : Int) : Prop := (c.take k).foldl (Qm.scanStep v) (0, 0) = (l, o) ∧ 0 ≤ o ∧ o ≤ k

theorem InScan.next {v c : List Int} {q : Nat} {l o x : Int} (h : InScan v c q l o) (hq : q < c.length) (hx : c.getD q 0 = x) : (c.take (q+1)).foldl (Qm.scanStep v) (0, 0) = Qm.scanStep v (l, o) x := by
 rw [Qm.foldl_take_succ _ _ _ _ 0 hq, h.1, hx]
theorem scanStep_hold {v : List Int} {l o x : Int} (ho : 0 ≤ o) (h : Qm.vof v x = 1) : Qm.scanStep v (l, o) x = (l, -1) := by
 unfold Qm.scanStep; rw [if_neg (by simp; omega), if_pos h]
theorem scanStep_new {v : List Int} {l o x : Int} (ho : 0 ≤ o) (h : Qm.vof v x = 0) (h1 : o = 0 ∨ o = 1 ∧ l ≠ x) : Qm.scanStep v (l, o) x = (x, o + 1) := by
 unfold Qm.scanStep; rw [if_neg (by simp; omega), if_neg (by omega), if_pos ⟨h, h1⟩]
theorem scanStep_old {v : List Int} {l o x : Int} (ho : 0 ≤ o) (h : Qm.vof v x = 0) (h1 : ¬ (o = 0 ∨ o = 1 ∧ l ≠ x)) : Qm.scanStep v (l, o) x = (l, o) := by
 unfold Qm.scanStep; rw [if_neg (by simp; omega), if_neg (by omega), if_neg (fun h => h1 h.2)]
theorem scanStep_fail {v : List Int} {l o x : Int} (ho : 0 ≤ o) (h : Qm.vof v x = -1) : Qm.scanStep v (l, o) x = (l, o) := by
 unfold Qm.scanStep; rw [if_neg (by simp; omega), if_neg (by omega), if_neg (fun h => by omega)]
theorem InScan.done {v c : List Int} {q : Nat} {l o : Int} (h : InScan v c q l o) (hq : q = c.length) : Qm.scan v c = (l, o) := by
 unfold Qm.scan; rw [← h.1, hq, List.take_length]
theorem InList.next_other {s : Option (List Int × Bool)} {l : List (List Int)} {vc : List Int} {m : Bool} {q : Nat} {c : List Int} (h : InList s l vc m q) (hq : q < l.length) (hc : l.getD q [] = c) (h0 : (Qm.scan vc c).2 ≠ 0) (h1 : (Qm.scan vc c).2 ≠ 1) :
  InList s l vc m (q + 1) := by
 unfold InList at h ⊢
 rw [Qm.foldl_take_succ _ _ _ _ [] hq, h, hc, Qm.passOne_other h0 h1]
theorem InList.next_unit {s : Option (List Int × Bool)} {l : List (List Int)} {vc : List Int} {m : Bool} {q : Nat} {c : List Int} {x : Int} (h : InList s l vc m q) (hq : q < l.length) (hc : l.getD q [] = c) (h0 : Qm.scan vc c = (x, 1)) :
  InList s l (Qm.vset vc x) true (q + 1) := by
 unfold InList at h ⊢
 rw [Qm.foldl_take_succ _ _ _ _ [] hq, h, hc, Qm.passOne_unit (by rw [h0]), h0]
theorem InLists.next {ls : List (List (List Int))} {v1 vc v3 : List Int} {m m3 : Bool} {j q : Nat} (h : InLists ls v1 vc m j) (hj : j < ls.length) (h6 : InList (some (vc, m)) (ls.getD j []) v3 m3 q) (hq : q = (ls.getD j []).length) :
  InLists ls v1 v3 m3 (j + 1) := by
 unfold InLists at h ⊢
 unfold InList at h6
 rw [hq, List.take_length] at h6
 rw [Qm.flatten_take_succ _ _ hj, List.foldl_append, h, h6]
theorem InLists.fails {ls : List (List (List Int))} {v1 vc v3 : List Int} {m m3 : Bool} {j q : Nat} {c : List Int} (h : InLists ls v1 vc m j) (hj : j < ls.length) (h6 : InList (some (vc, m)) (ls.getD j []) v3 m3 q) (hq : q < (ls.getD j []).length)
  (hc : (ls.getD j []).getD q [] = c) (h0 : (Qm.scan v3 c).2 = 0) : Qm.pass ls.flatten v1 = none := by
 have e : ls.flatten = (ls.take (j+1)).flatten ++ (ls.drop (j+1)).flatten := by rw [← List.flatten_append, List.take_append_drop]
 unfold InLists at h
 unfold InList at h6
 unfold Qm.pass
 rw [e, List.foldl_append, Qm.flatten_take_succ _ _ hj, List.foldl_append, h, Qm.foldl_take_drop _ _ (ls.getD j []) (q+1), Qm.foldl_take_succ _ _ _ _ [] hq, h6, hc, Qm.passOne_fails h0, Qm.passOne_none, Qm.passOne_none]
theorem InLists.all {ls : List (List (List Int))} {v1 vc : List Int} {m : Bool} {j : Nat} (h : InLists ls v1 vc m j) (hj : j = ls.length) : Qm.pass ls.flatten v1 = some (vc, m) := by
 unfold InLists at h
 rw [hj, List.take_length] at h
 exact h
theorem Head.next {N : Nat} {cs : List (List Int)} {v v1 v2 : List Int} {m : Bool} (hcs : ∀ c ∈ cs, Qm.IsCl N c) (hf : Qm.Fine N v1) (h : Qm.spread cs v1 = Qm.spread cs v) (hp : Qm.pass cs v1 = some (v2, m)) : Head cs v v2 (Qm.zeros v1) m := by
 cases m with
 | true =>
  refine ⟨?_, by rw [← h]; exact (Qm.spread_more hcs hf hp).symm⟩
  rcases (Qm.pass_ok hcs hf hp).2 with ⟨_, h⟩ | ⟨h, _⟩
  ·cases h
  ·exact h
 | false => exact (h.symm.trans (Qm.spread_done hcs hf hp) : Qm.spread cs v = some v2)
theorem getD_mem {α : Type} {l : List α} {k : Nat} {d : α} (h : k < l.length) : l.getD k d ∈ l := by
 rw [List.getD_eq_getElem?_getD, List.getElem?_eq_getElem h]; exact List.getElem_mem h
end
/- Walks: Values.Set, Values.Spread, with spare cells behind the values (a clone's). -/
section
open Go.RowKit
def ValsS (w wr : World) (b N : Nat) (sp : List Value) (vc : List Int) : Prop := Whole wr b 3 (vc.map (Value.int .i64) ++ sp) ∧ Qm.Fine N vc ∧ w.grownBy wr (some b) ∧ wr.heap.size = w.heap.size
theorem ValsS.keep0 {w wr : World} {b N : Nat} {sp : List Value} {S : Nat → Prop} {vc : List Int} (h : ValsS w wr b N sp vc) (hS : ∀ k, S k → k < w.heap.size ∧ k ≠ b) (p : Addr) (hp : S p.block) : wr.cell? p = w.cell? p :=
 World.cell?_of_block (h.2.2.1.block p.block (hS _ hp).1 (by intro e; injection e with e; exact (hS _ hp).2 e))
theorem ValsS.keepFrom {w wr wr' : World} {b N : Nat} {sp : List Value} {S : Nat → Prop} {vc vc' : List Int} (h : ValsS w wr b N sp vc) (h' : ValsS w wr' b N sp vc') (hS : ∀ k, S k → k < w.heap.size ∧ k ≠ b) (p : Addr) (hp : S p.block) : wr'.cell? p = wr.cell? p :=
 (h'.keep0 hS p hp).trans (h.keep0 hS p hp).symm
theorem wholeS_row {w : World} {S : Nat → Prop} {b n : Nat} {t : TypeId} {vs sp : List Value} (h : Whole w b t (vs ++ sp)) (hB : S b) (hn : vs.length = n) : Row w S (some ⟨b, 0, none⟩) n vs := by
 refine ⟨hn, fun _ => ⟨b, 0, rfl, hB, fun j hj => ?_⟩⟩
 rw [Nat.zero_add, h.cell j, List.getElem?_append_left (by omega)]
theorem wholeS_ints {w : World} {S : Nat → Prop} {b n : Nat} {t : TypeId} {xs : List Int} {sp : List Value} (h : Whole w b t (xs.map (Value.int .i64) ++ sp)) (hB : S b) (hn : xs.length = n) : RInts w S (some ⟨b, 0, none⟩) n xs :=
 wholeS_row h hB (by simpa using hn)
theorem own_whole {w : World} {base : Nat} {e : TypeId} {v : Value} {n : Nat} {vs : List Value} (h : w.ownsRow base e 1 v n vs) (hn : 0 < n) : ∃ g c sp, v = .slice (some ⟨g, 0, none⟩) n c ∧ base ≤ g ∧ n ≤ c ∧ c ≤ maxLen ∧ Whole w g e (vs ++ sp) := by
 rcases h.2 with ⟨_, h0⟩ | ⟨g, cap, cur, rfl, hb, hh, hc, hm, hs, ht⟩
 ·omega
 ·refine ⟨g, cap, cur.toList.drop (n * 1), rfl, hb, hc, hm, ?_⟩
  unfold Whole
  rw [hh, ← ht, List.take_append_drop]
set_option maxRecDepth 100000 in
set_option maxHeartbeats 400000 in
theorem setS_any (sp : List Value) (b : Nat) (t : TypeId) (n cap : Nat) (v : List Int) (x : Int) (w : World) (hl : v.length = n) (hw : Whole w b t (v.map (Value.int .i64) ++ sp)) (hn : n ≤ 401) (hx : -(n : Int) < x ∧ x < n) :
  Calls Tryz.prog 60 #[.slice (some ⟨b, 0, none⟩) n cap, .int .i64 x] w fun e w' => e = .returned (.tuple #[]) ∧ Whole w' b t ((Qm.vset v x).map (Value.int .i64) ++ sp) ∧ w.grownBy w' (some b) ∧ w'.heap.size = w.heap.size := by
 have Hl := qh hl; clear hl
 by_cases h0 : x < 0
 ·obtain ⟨k, rfl⟩ : ∃ k : Nat, x = -(k : Int) := ⟨(-x).toNat, by omega⟩
  have Hr : Hid (Qm.vset v (-(k : Int)) = v.set k (-1)) := by show _ = _; unfold Qm.vset; rw [if_pos h0]; congr 2; omega
  have hk : (k : Int) < n := by omega
  have hc := hw.cell k
  rw [List.getElem?_append_left (by rw [List.length_map, Hl.out]; omega), List.getElem?_map, List.getElem?_eq_getElem (by rw [Hl.out]; omega), Option.map_some] at hc
  have hf := hw.free k
  generalize v[k]'(by rw [Hl.out]; omega) = u at hc
  clear hx
  go_enter Tryz.func60, Tryz.ntmps60
  go_wp2
  go_end0
  refine ⟨rfl, ?_, grown_set (World.grownBy.refl w _) _ _, by simp [World.setCell]⟩
  rw [Hr.out, ← map_set_int, ← List.set_append_left _ _ (by rw [List.length_map, Hl.out]; omega)]
  exact hw.set_ k _
 ·obtain ⟨k, rfl⟩ : ∃ k : Nat, x = (k : Int) := ⟨x.toNat, by omega⟩
  have Hr : Hid (Qm.vset v (k : Int) = v.set k 1) := by show _ = _; unfold Qm.vset; rw [if_neg h0]; congr 1
  have hk : (k : Int) < n := by omega
  have hc := hw.cell k
  rw [List.getElem?_append_left (by rw [List.length_map, Hl.out]; omega), List.getElem?_map, List.getElem?_eq_getElem (by rw [Hl.out]; omega), Option.map_some] at hc
  have hf := hw.free k
  generalize v[k]'(by rw [Hl.out]; omega) = u at hc
  clear hx
  go_enter Tryz.func60, Tryz.ntmps60
  go_wp2
  go_end0
  refine ⟨rfl, ?_, grown_set (World.grownBy.refl w _) _ _, by simp [World.setCell]⟩
  rw [Hr.out, ← map_set_int, ← List.set_append_left _ _ (by rw [List.length_map, Hl.out]; omega)]
  exact hw.set_ k _
def SpreadPostS (cs : List (List Int)) (v : List Int) (b : Nat) (sp : List Value) (w : World) (e : Ending) (w' : World) : Prop :=
 e = .returned (.bool (Qm.spread cs v).isSome) ∧ (∀ v', Qm.spread cs v = some v' → Whole w' b 3 (v'.map (Value.int .i64) ++ sp)) ∧ w.grownBy w' (some b) ∧ w'.heap.size = w.heap.size

set_option maxRecDepth 100000 in
set_option maxHeartbeats 4000000 in
theorem spreadS_any (sp : List Value) (N : Nat) (b cap nl cl : Nat) (v : List Int) (Al : Option Addr) (ls : List (List (List Int))) (w : World) (S : Nat → Prop) (hN : N ≤ 400) (hv : Qm.Fine N v) (hw : Whole w b 3 (v.map (Value.int .i64) ++ sp))
  (hb : ∀ k, S k → k < w.heap.size ∧ k ≠ b) (hr : RLists w S Al nl ls) (hcl : nl ≤ maxLen) (hlit : Lits N ls) :
  Calls Tryz.prog 61 #[.slice (some ⟨b, 0, none⟩) (N + 1) cap, .slice Al nl cl] w (SpreadPostS ls.flatten v b sp w) := by
 unfold maxLen at hcl
 have hbw := hw.lt
 have Hr := qh hr; have Hlit := qh hlit; have Hv := qh hv; have Hw := qh hw
 clear hr hlit hv hw
 go_enter Tryz.func61, Tryz.ntmps61
 go_wp2_with fail
 go_loopg [5] (Qm.zeros v + 1) (fun k m wr => ∃ vc m', m = .bool m' ∧ ValsS w wr b N sp vc ∧ Head ls.flatten v vc k m')
 case atStart => exact ⟨v, true, rfl, ⟨Hw.out, Hv.out, World.grownBy.refl w _, rfl⟩, by omega, rfl⟩
 case round =>
  obtain ⟨v1, m1, rfl, H1, H2⟩ := hrel
  cases m1 with
  | false =>
   go_wp2_with fail
   go_ret
   obtain ⟨h1, h2, h3, h4⟩ := H1
   have h6 : Qm.spread ls.flatten v = some v1 := H2
   refine ⟨by rw [h6]; rfl, fun v' hv' => ?_, h3, h4⟩
   rw [h6] at hv'; injection hv' with hv'; subst hv'; exact h1
  | true =>
   go_wp2_with fail
   go_loopg [5, 17] nl (fun k m i wr2 => ∃ (j : Nat) (vc : List Int) (m' : Bool), j + k = nl ∧ i = .int .i64 j ∧ m = .bool m' ∧ ValsS w wr2 b N sp vc ∧ InLists ls v1 vc m' j)
   case atStart => exact ⟨0, v1, false, by omega, rfl, rfl, H1, rfl⟩
   case round =>
    obtain ⟨wr2, rfl⟩ : ∃ x : World, x = wr := ⟨_, rfl⟩
    obtain ⟨g2, rfl⟩ : ∃ x : Nat, x = gk := ⟨_, rfl⟩
    obtain ⟨j, v2, m2, hjk, rfl, rfl, H3, H4⟩ := hrel
    have Hjk := qh hjk; clear hjk
    by_cases hj : j < nl
    ·obtain ⟨bl, ol, A', n', c', rfl, hbl, hcell, hcs, hnc, hcm⟩ := (Hr.out.keep (H3.keep0 hb)).at_ hj
     unfold maxLen at hcm
     have Hcs := qh hcs; clear hcs
     go_wp2_with fail
     go_loopg [5, 23] n' (fun k m i wr3 => ∃ (q : Nat) (vc : List Int) (m' : Bool), Hid (q + k = n') ∧ i = .int .i64 q ∧ m = .bool m' ∧ ValsS w wr3 b N sp vc ∧ InList (some (v2, m2)) (ls.getD j []) vc m' q)
     case atStart => exact ⟨0, v2, m2, Nat.zero_add _, rfl, rfl, H3, rfl⟩
     case round =>
      obtain ⟨wr3, rfl⟩ : ∃ x : World, x = wr := ⟨_, rfl⟩
      obtain ⟨g3, rfl⟩ : ∃ x : Nat, x = gk := ⟨_, rfl⟩
      obtain ⟨q, v3, m3, Hqk, rfl, rfl, H5, H6⟩ := hrel
      by_cases hq : q < n'
      ·obtain ⟨bc, oc, A2, n2, c2, rfl, hbc, hcell2, hc, hnc2, hcm2⟩ := (Hcs.out.keep (ValsS.keepFrom H3 H5 hb)).at_ hq
       unfold maxLen at hcm2
       have Hc := qh hc; clear hc
       generalize hcc : (ls.getD j []).getD q [] = c at Hc
       have Hcc := qh hcc; clear hcc
       go_wp2_with fail
       go_loopg [10, 11, 29] n2 (fun k lf op i wr4 => ∃ (r : Nat) (l o : Int), Hid (r + k = n2) ∧ i = .int .i64 r ∧ lf = .int .i64 l ∧ op = .int .i64 o ∧ wr3 = wr4 ∧ InScan v3 c r l o)
       case atStart => exact ⟨0, 0, 0, Nat.zero_add _, rfl, rfl, rfl, rfl, rfl, by omega, by omega⟩
       case round =>
        obtain ⟨r, l, o, Hrk, rfl, rfl, rfl, hwr, H7⟩ := hrel
        subst hwr
        by_cases hrn : r < n2
        ·obtain ⟨bi, oi, rfl, hbi, hcell3⟩ := Hc.out.at_ hrn
         generalize hx : c.getD r 0 = x at hcell3
         have Hx := qh hx; clear hx
         have Hlc : Hid (r < c.length) := by rw [Hc.out.len]; exact hrn
         have Hn := H7.next Hlc.out Hx.out
         have hlx : Qm.IsLit N x := by
          have h1 := Hlit.out _ (getD_mem (d := []) (by rw [Hr.out.len]; exact hj)) _ (getD_mem (d := []) (by rw [Hcs.out.len]; exact hq))
          rw [Hcc.out] at h1
          have h2 := h1 _ (getD_mem (d := 0) Hlc.out)
          rwa [Hx.out] at h2
         have ho1 := H7.2.1
         have ho2 := H7.2.2
         have hd : -((N + 1 : Nat) : Int) < x ∧ x < ((N + 1 : Nat) : Int) := by have := hlx.1; have := hlx.2; omega
         have hcall := of_any (some ⟨b, 0, none⟩) (N + 1) cap v3 x wr3 (fun k => k = b) (wholeS_ints (S := fun k => k = b) H5.1 rfl H5.2.1.1) (by omega) hd (fine_bd H5.2.1)
         rcases Qm.vof_range H5.2.1 x with h0 | h0 | h0
         ·rw [h0] at hcall
          have H0 := qh h0; clear h0
          have Hcall := qh hcall; clear hcall hd hlx
          by_cases hnew : o = 0 ∨ o = 1 ∧ l ≠ x
          ·rw [scanStep_new ho1 H0.out hnew] at Hn
           have HN := qh Hn; clear Hn
           rcases hnew with h1 | ⟨h1, h2⟩
           ·obtain rfl : o = 0 := h1
            go_wp2_with fail
            refine Hcall.out.mono ?_
            rintro e w' ⟨rfl, rfl⟩
            go_wp2_with fail
            go_roundg (gk - 1)
            case measure => have := Hrk.out; omega
            case rel => exact ⟨r + 1, x, 1, by have := Hrk.out; show _ = _; omega, by go_num, rfl, rfl, rfl, HN.out, by omega, by omega⟩
           ·obtain rfl : o = 1 := h1
            have h3 : (l != x) = true := by simpa using h2
            clear h2
            go_wp2_with fail
            refine Hcall.out.mono ?_
            rintro e w' ⟨rfl, rfl⟩
            go_wp2_with fail
            go_roundg (gk - 1)
            case measure => have := Hrk.out; omega
            case rel => exact ⟨r + 1, x, 2, by have := Hrk.out; show _ = _; omega, by go_num, rfl, rfl, rfl, HN.out, by omega, by omega⟩
          ·rw [scanStep_old ho1 H0.out hnew] at Hn
           have HN := qh Hn; clear Hn
           have h1 : (o == 0) = false := by simp; omega
           by_cases ho : o = 1
           ·obtain rfl : o = 1 := ho
            have h3 : (l != x) = false := by simp; omega
            clear hnew
            go_wp2_with fail
            refine Hcall.out.mono ?_
            rintro e w' ⟨rfl, rfl⟩
            go_wp2_with fail
            go_roundg (gk - 1)
            case measure => have := Hrk.out; omega
            case rel => exact ⟨r + 1, l, 1, by have := Hrk.out; show _ = _; omega, by go_num, rfl, rfl, rfl, HN.out, by omega, by omega⟩
           ·have h3 : (o == 1) = false := by simp; omega
            clear hnew
            go_wp2_with fail
            refine Hcall.out.mono ?_
            rintro e w' ⟨rfl, rfl⟩
            go_wp2_with fail
            go_roundg (gk - 1)
            case measure => have := Hrk.out; omega
            case rel => exact ⟨r + 1, l, o, by have := Hrk.out; show _ = _; omega, by go_num, rfl, rfl, rfl, HN.out, by omega, by omega⟩
         ·rw [h0] at hcall
          have H0 := qh h0; clear h0
          have Hcall := qh hcall; clear hcall hd hlx
          rw [scanStep_hold ho1 H0.out] at Hn
          have Hsc := qh (Qm.scan_break Hn (by show (-1 : Int) < 0; omega)); clear Hn
          go_wp2_with fail
          refine Hcall.out.mono ?_
          rintro e w' ⟨rfl, rfl⟩
          go_wp2_with fail
          go_roundg (g3 - 1)
          case measure => have := Hqk.out; omega
          case rel => exact ⟨q + 1, v3, m3, by have := Hqk.out; show _ = _; omega, by go_num, rfl, H5, H6.next_other (by rw [(Hcs.out).len]; exact hq) Hcc.out (by rw [Hsc.out]; show (-1 : Int) ≠ 0; omega) (by rw [Hsc.out]; show (-1 : Int) ≠ 1; omega)⟩
         ·rw [h0] at hcall
          have H0 := qh h0; clear h0
          have Hcall := qh hcall; clear hcall hd hlx
          rw [scanStep_fail ho1 H0.out] at Hn
          have HN := qh Hn; clear Hn
          go_wp2_with fail
          refine Hcall.out.mono ?_
          rintro e w' ⟨rfl, rfl⟩
          go_wp2_with fail
          go_roundg (gk - 1)
          case measure => have := Hrk.out; omega
          case rel => exact ⟨r + 1, l, o, by have := Hrk.out; show _ = _; omega, by go_num, rfl, rfl, rfl, HN.out, by omega, by omega⟩
        ·have Hsc := qh (H7.done (by rw [Hc.out.len]; have := Hrk.out; omega))
         have ho1 := H7.2.1
         by_cases h0 : o = 0
         ·obtain rfl : o = 0 := h0
          go_wp2_with fail
          go_ret
          have hn : Qm.spread ls.flatten v = none := by
           rw [← H2.2]
           exact Qm.spread_none Hlit.out.flat H1.2.1 (InLists.fails H4 (by rw [Hr.out.len]; exact hj) H6 (by rw [Hcs.out.len]; exact hq) Hcc.out (by rw [Hsc.out]))
          exact ⟨by rw [hn]; rfl, (fun v' hv' => by rw [hn] at hv'; cases hv'), H5.2.2.1, H5.2.2.2⟩
         ·have h0' : (o == 0) = false := by simpa using h0
          by_cases h1 : o = 1
          ·obtain rfl : o = 1 := h1
           have hlx : Qm.IsLit N l := by
            have h1 := Hlit.out _ (getD_mem (d := []) (by rw [Hr.out.len]; exact hj)) _ (getD_mem (d := []) (by rw [Hcs.out.len]; exact hq))
            rw [Hcc.out] at h1
            have := Qm.scan_unit_mem (v := v3) (c := c) (by rw [Hsc.out])
            rw [Hsc.out] at this
            exact h1 _ this
           have hd : -((N + 1 : Nat) : Int) < l ∧ l < ((N + 1 : Nat) : Int) := by have := hlx.1; have := hlx.2; omega
           have hcall := setS_any sp b 3 (N + 1) cap v3 l wr3 H5.2.1.1 H5.1 (by omega) hd
           have Hcall := qh hcall; clear hcall hd hlx
           go_wp2_with fail
           refine Hcall.out.mono ?_
           rintro e w5 ⟨rfl, hw5⟩
           go_wp2_with fail
           go_roundg (g3 - 1)
           case measure => have := Hqk.out; omega
           case rel => exact ⟨q + 1, Qm.vset v3 l, true, by have := Hqk.out; show _ = _; omega, by go_num, rfl, ⟨hw5.1, Qm.vset_fine H5.2.1 _, grown_trans H5.2.2.1 hw5.2.1, hw5.2.2.trans H5.2.2.2⟩, H6.next_unit (by rw [Hcs.out.len]; exact hq) Hcc.out Hsc.out⟩
          ·have h1' : (o == 1) = false := by simpa using h1
           clear h0 h1
           go_wp2_with fail
           go_roundg (g3 - 1)
           case measure => have := Hqk.out; omega
           case rel => exact ⟨q + 1, v3, m3, by have := Hqk.out; show _ = _; omega, by go_num, rfl, H5, H6.next_other (by rw [(Hcs.out).len]; exact hq) Hcc.out (by rw [Hsc.out]; exact beq_eq_false_iff_ne.1 h0') (by rw [Hsc.out]; exact beq_eq_false_iff_ne.1 h1')⟩
      ·go_wp2_with fail
       go_roundg (g2 - 1)
       case measure => have := Hjk.out; omega
       case rel => exact ⟨j + 1, v3, m3, by have := Hjk.out; omega, by go_num, rfl, H5, InLists.next H4 (by rw [Hr.out.len]; exact hj) H6 (by rw [Hcs.out.len]; have := Hqk.out; omega)⟩
    ·go_wp2_with fail
     go_roundg (Qm.zeros v1)
     case measure => exact H2.1
     case rel => exact ⟨v2, m2, rfl, H3, Head.next Hlit.out.flat H1.2.1 H2.2 (InLists.all H4 (by rw [Hr.out.len]; have := Hjk.out; omega))⟩
end
/- Walks. -/
section
open Go.RowKit
def badLit (vars n : Int) : Bool := decide (vars < 0) || n == 0 || decide (n < -vars) || decide (n > vars)
def ckClause (c : List Int) (vars : Int) : Int := if 60 < c.length then 2 else if c.any (badLit vars) then 5 else 0
theorem any_take_succ (p : Int → Bool) (c : List Int) (k : Nat) (h : k < c.length) : (c.take (k+1)).any p = ((c.take k).any p || p (c.getD k 0)) := by
  rw [List.take_succ_eq_append_getElem h]; rw [List.any_append]; simp [List.getD, h]
theorem any_of_take (p : Int → Bool) (c : List Int) (k : Nat) (h : (c.take k).any p = true) : c.any p = true := by
  rw [List.any_eq_true] at h ⊢
  obtain ⟨x, hx, hp⟩ := h
  exact ⟨x, List.mem_of_mem_take hx, hp⟩
theorem ckClause_bad {c : List Int} {vars x : Int} {n k : Nat} (hn : c.length = n) (h60 : ¬ 60 < n) (hk : k < n) (hx : c.getD k 0 = x) (h : badLit vars x = true) : ckClause c vars = 5 := by
  subst hn hx
  unfold ckClause
  rw [if_neg h60, if_pos]
  exact any_of_take _ _ (k+1) (by rw [any_take_succ _ _ _ hk, h]; simp)
theorem ckClause_end {c : List Int} {vars : Int} {n k : Nat} (hn : c.length = n) (h60 : ¬ 60 < n) (hk : ¬ k < n) (h : (c.take k).any (badLit vars) = false) : ckClause c vars = 0 := by
  subst hn
  unfold ckClause
  rw [List.take_of_length_le (by omega)] at h
  rw [if_neg h60, if_neg]
  rw [h]; simp
theorem anyBad_step {c : List Int} {p : Int → Bool} {x : Int} {n k : Nat} (hn : c.length = n) (hk : k < n) (hx : c.getD k 0 = x) (h : (c.take k).any p = false) (h1 : p x = false) : (c.take (k+1)).any p = false := by
  subst hn hx
  rw [any_take_succ _ _ _ hk, h, h1]; rfl

theorem badLit_yes {vars x : Int} (h : vars < 0 ∨ x = 0 ∨ x < -vars ∨ vars < x) : badLit vars x = true := by
  simp only [badLit, Bool.or_eq_true, decide_eq_true_eq, beq_iff_eq]; omega
theorem badLit_no {vars x : Int} (h : ¬ (vars < 0 ∨ x = 0 ∨ x < -vars ∨ vars < x)) : badLit vars x = false := by
  rw [Bool.eq_false_iff]; intro h'; simp only [badLit, Bool.or_eq_true, decide_eq_true_eq, beq_iff_eq] at h'; omega

set_option maxHeartbeats 400000 in
theorem checkClause_any (A : Option Addr) (n cap : Nat) (c : List Int) (vars : Int) (w : World) (S : Nat → Prop) (hr : RInts w S A n c) (hn : n ≤ maxLen) (hv : -9223372036854775808 ≤ vars) (hv' : vars ≤ 9223372036854775807) :
    Calls Tryz.prog 69 #[.slice A n cap, .int .i64 vars] w fun e w' => e = .returned (.int .i64 (ckClause c vars)) ∧ w = w' := by
  unfold maxLen at hn
  have Hlen := qh hr.len
  by_cases h60 : 60 < n
  · have h60' : (60 : Int) < (n : Int) := by omega
    go_enter Tryz.func69, Tryz.ntmps69
    go_wp2
    go_ret
    exact ⟨ret_int (by unfold ckClause; rw [if_pos (by have := Hlen.out; omega)]), rfl⟩
  · have hd60 : decide ((60 : Int) < (n : Int)) = false := by simp; omega
    go_enter Tryz.func69, Tryz.ntmps69
    go_wp2
    go_loop [12] (fun i => ∃ k : Nat, k ≤ n ∧ i = .int .i64 k ∧ (c.take k).any (badLit vars) = false) (fun i => n - (intOf i).toNat)
    case atStart => exact ⟨0, Nat.zero_le _, rfl, rfl⟩
    case round =>
      obtain ⟨k, hk, rfl, hany⟩ := hrel
      have Hany := qh hany; clear hany
      by_cases hlt : k < n
      · obtain ⟨b, o, rfl, hb, hc⟩ := hr.at_ hlt
        generalize hx : c.getD k 0 = x at hc
        have Hx := qh hx; clear hx
        rcases Decidable.em (x = 0) with h0 | h0
        · have h1 : (x == 0) = true := by simpa using h0
          have h2 := qh h0; clear h0
          go_wp2
          all_goals (go_ret; exact ⟨ret_int (ckClause_bad Hlen.out h60 hlt Hx.out (badLit_yes (.inr (.inl h2.out)))).symm, rfl⟩)
        have h1 : (x == 0) = false := by simpa using h0
        go_wp2
        all_goals first
          | (go_ret; refine ⟨ret_int ?_, rfl⟩; exact (ckClause_bad Hlen.out h60 hlt Hx.out (badLit_yes (by omega))).symm)
          | (go_round
             case rel => refine ⟨k + 1, by omega, by go_num, anyBad_step Hlen.out hlt Hx.out Hany.out (badLit_no (by omega))⟩
             case measure => simp [intOf]; omega)
      · go_wp2
        go_ret
        exact ⟨ret_int (ckClause_end Hlen.out h60 hlt Hany.out).symm, rfl⟩
end
/- Walks: the checks of a formula and of a proof, the program's and the document's. -/
section
open Go.RowKit
def ckClauses (cs : List (List Int)) (vars : Int) : Int := match cs.find? (fun c => ckClause c vars != 0) with | some c => ckClause c vars | none => 0
def ckFormula (vars : Int) (cs : List (List Int)) : Int := if vars < 0 ∨ 400 < vars then 3 else if 4000 < cs.length then 2 else ckClauses cs vars
def ckProof (cs : List (List Int)) (vars : Int) : Int := if vars < 0 ∨ 400 < vars then 3 else if 40000 < cs.length then 2 else ckClauses cs vars
def NoneBad (cs : List (List Int)) (vars : Int) (k : Nat) : Prop := ∀ c ∈ cs.take k, ckClause c vars = 0
theorem ckClauses_bad {cs : List (List Int)} {vars : Int} {k : Nat} {c : List Int} (h : NoneBad cs vars k) (hk : k < cs.length) (hc : cs.getD k [] = c) (hb : (ckClause c vars != 0) = true) : ckClauses cs vars = ckClause c vars := by
 have e : cs = cs.take k ++ c :: cs.drop (k+1) := by
  rw [List.getD_eq_getElem?_getD, List.getElem?_eq_getElem hk, Option.getD_some] at hc
  rw [← hc, List.getElem_cons_drop, List.take_append_drop]
 unfold ckClauses
 rw [e, List.find?_append]
 have : (cs.take k).find? (fun c => ckClause c vars != 0) = none := by
  rw [List.find?_eq_none]; intro x hx; rw [h x hx]; simp
 rw [this, Option.none_or]; simp only [List.find?_cons, hb]
theorem NoneBad.next {cs : List (List Int)} {vars : Int} {k : Nat} {c : List Int} (h : NoneBad cs vars k) (hk : k < cs.length) (hc : cs.getD k [] = c) (hb : (ckClause c vars != 0) = false) : NoneBad cs vars (k+1) := by
 intro x hx
 rw [List.take_succ_eq_append_getElem hk] at hx
 rcases List.mem_append.1 hx with hx | hx
 ·exact h x hx
 ·rw [List.getD_eq_getElem?_getD, List.getElem?_eq_getElem hk, Option.getD_some] at hc
  simp at hx; subst hx; rw [hc]; simpa using hb
theorem ckClauses_good {cs : List (List Int)} {vars : Int} {k : Nat} (h : NoneBad cs vars k) (hk : k = cs.length) : ckClauses cs vars = 0 := by
 unfold ckClauses
 have : cs.find? (fun c => ckClause c vars != 0) = none := by
  rw [List.find?_eq_none]; intro x hx; rw [h x (by rw [hk, List.take_length]; exact hx)]; simp
 rw [this]

set_option maxHeartbeats 1000000 in
theorem checkFormula_any (A : Option Addr) (n cap : Nat) (cs : List (List Int)) (vars : Int) (w : World) (S : Nat → Prop) (hr : RClauses w S A n cs) (hS : ∀ k, S k → k < w.heap.size) (hn : n ≤ maxLen) (hv : -9223372036854775808 ≤ vars) (hv' : vars ≤ 9223372036854775807) :
  Calls Tryz.prog 23 #[.agg #[.int .i64 vars, .slice A n cap]] w fun e w' => e = .returned (.int .i64 (ckFormula vars cs)) ∧ Below w.heap.size w w' := by
 unfold maxLen at hn
 have Hlen := qh hr.len
 have Hr := qh hr; clear hr
 have Hw : Hid (∀ o, Below w.heap.size w (w.alloc o)) := fun o => (Below.refl _ _).alloc (qr _) o
 by_cases h0 : vars < 0
 ·go_enter Tryz.func23, Tryz.ntmps23
  go_wp2_with fail
  go_ret
  exact ⟨ret_int (by unfold ckFormula; rw [if_pos (.inl h0)]), Hw.out _⟩
 have h0' : decide (vars < 0) = false := by simpa using h0
 by_cases h4 : 400 < vars
 ·go_enter Tryz.func23, Tryz.ntmps23
  go_wp2_with fail
  go_ret
  exact ⟨ret_int (by unfold ckFormula; rw [if_pos (.inr h4)]), Hw.out _⟩
 have h4' : decide (400 < vars) = false := by simpa using h4
 have H3 : Hid (¬ (vars < 0 ∨ 400 < vars)) := by show ¬ _; omega
 by_cases hm : 4000 < n
 ·have hm' : decide ((4000 : Int) < (n : Int)) = true := by simp; omega
  go_enter Tryz.func23, Tryz.ntmps23
  go_wp2_with fail
  go_ret
  exact ⟨ret_int (by unfold ckFormula; rw [if_neg H3.out, if_pos (by rw [Hlen.out]; exact hm)]), Hw.out _⟩
 have hm' : decide ((4000 : Int) < (n : Int)) = false := by simp; omega
 have H5 : Hid (ckFormula vars cs = ckClauses cs vars) := by show _ = _; unfold ckFormula; rw [if_neg H3.out, if_neg (by rw [Hlen.out]; exact hm)]
 go_enter Tryz.func23, Tryz.ntmps23
 go_wp2_with fail
 go_loopg [21] n (fun g i wr => ∃ k : Nat, Hid (k + g = n) ∧ i = .int .i64 k ∧ NoneBad cs vars k ∧ Hid (w.alloc (.cells #[.int .i64 vars, .slice A n cap] 33) = wr))
 case atStart => exact ⟨0, Nat.zero_add _, rfl, fun c hc => by simp at hc, rfl⟩
 case round =>
  obtain ⟨k, Hk, rfl, hbad, Hwr⟩ := hrel
  obtain rfl := Hwr.out
  clear Hwr
  have Hbad := qh hbad; clear hbad
  by_cases hk : k < n
  ·obtain ⟨b, o, A', n', c', rfl, hb, hcell, hc, hnc, hcm⟩ := (Hr.out.below (Hw.out (.cells #[.int .i64 vars, .slice A n cap] 33)) hS).at_ hk
   unfold maxLen at hcm
   have hcall := checkClause_any A' n' c' _ vars _ _ hc (by unfold maxLen; omega) hv hv'
   generalize hcc : cs.getD k [] = c at hcall
   have Hcc := qh hcc; clear hcc hc
   generalize hx : ckClause c vars = x at hcall
   have Hx := qh hx; clear hx
   have Hcall := qh hcall; clear hcall
   by_cases hx0 : (x != 0) = true
   ·go_wp2_with fail
    refine Hcall.out.mono ?_
    rintro e w' ⟨rfl, rfl⟩
    go_wp2_with fail
    go_ret
    exact ⟨ret_int (by rw [H5.out, ckClauses_bad Hbad.out (by rw [Hlen.out]; exact hk) Hcc.out (by rw [Hx.out]; exact hx0), Hx.out]), Hw.out _⟩
   ·have hx1 : (x != 0) = false := by simpa using hx0
    clear hx0
    go_wp2_with fail
    refine Hcall.out.mono ?_
    rintro e w' ⟨rfl, rfl⟩
    go_wp2_with fail
    go_roundg (gk - 1)
    case measure => have := Hk.out; omega
    case rel => exact ⟨k + 1, by have := Hk.out; show _ = _; omega, by go_num, Hbad.out.next (by rw [Hlen.out]; exact hk) Hcc.out (by rw [Hx.out]; exact hx1), rfl⟩
  ·go_wp2_with fail
   go_ret
   exact ⟨ret_int (by rw [H5.out, ckClauses_good Hbad.out (by rw [Hlen.out]; have := Hk.out; omega)]), Hw.out _⟩
end
/- Walk: rup.step. -/
section
open Go.RowKit
def zeroObj (N : Nat) : Obj := .cells ((Qm.zeroVals N).map (Value.int .i64)).toArray 3
theorem int_info : (Tryz.prog.info? 3).map (fun i => (i.zero, i.size, i.bytes)) = some (some (.int .i64 0), 1, 8) := by kernel_rfl
theorem run_make_zeros (N : Nat) (hN : N ≤ 400) (w : World) : (Instr.makeSlice 113 (.int .i64 ((N : Int) + 1)) (.int .i64 ((N : Int) + 1))).run Tryz.prog w = .ok (.slice (some ⟨w.heap.size, 0, none⟩) (N + 1) (N + 1)) (w.alloc (zeroObj N)) := by
 obtain ⟨i, hi, hz, h1, h8⟩ := info_parts int_info
 have hr := run_make (P := Tryz.prog) w 113 3 i (.int .i64 0) Tryz.underlying113 hi hz .i64 .i64 ((N : Int) + 1) ((N : Int) + 1) (by omega) (by omega) (by rw [h8]; omega) (by omega)
 rw [hr]
 have e : ((N : Int) + 1).toNat = N + 1 := by omega
 rw [e, h1, Nat.mul_one]
 have : madeCells (Value.int .i64 0).cells (N + 1) = ((Qm.zeroVals N).map (Value.int .i64)).toArray := by
  apply Array.ext'
  have := toList_madeCells_one (Value.int .i64 0) (N + 1)
  show (madeCells #[Value.int .i64 0] (N + 1)).toList = _
  rw [this]; simp [Qm.zeroVals]
 rw [this]; rfl
theorem whole_zeros (w : World) (N b : Nat) (hb : b = w.heap.size) : Whole (w.alloc (zeroObj N)) b 3 ((Qm.zeroVals N).map (Value.int .i64)) := Whole.new w b 3 _ hb

theorem rlists1 {w : World} {S : Nat → Prop} {b : Nat} {t : TypeId} {A1 : Option Addr} {n1 c1 : Nat} {cs1 : List (List Int)} (hw : Whole w b t [.slice A1 n1 c1]) (hB : S b) (h1 : RClauses w S A1 n1 cs1)
  (hc1 : n1 ≤ c1 ∧ c1 ≤ maxLen) : RLists w S (some ⟨b, 0, none⟩) 1 [cs1] := by
 refine ⟨[(A1, n1, c1)], hw.row hB rfl, rfl, fun j h c hh hc => ?_⟩
 match j with
 | 0 => simp at hh hc; subst hh hc; exact ⟨h1, hc1⟩
 | j + 1 => simp at hh

end
/- Walks: the check of a proof, the program's and the document's. -/
section
open Go.RowKit
end
/- Walks: rup.Bad, rup.Refutes. -/
section
open Go.RowKit
def badFrom (N : Nat) (cs : List (List Int)) (pf : List (List Int)) : Nat → Nat → Int
 | _, 0 => -1
 | k, g + 1 => if Qm.rupStep N (cs ++ pf.take k) (pf.getD k []) then badFrom N cs pf (k + 1) g else k
def badOf (N : Nat) (cs pf : List (List Int)) : Int := badFrom N cs pf 0 pf.length
def badErr (vars : Int) (cs pf : List (List Int)) : Int := if ckFormula vars cs ≠ 0 then ckFormula vars cs else ckProof pf vars
def badK (vars : Int) (cs pf : List (List Int)) : Int := if badErr vars cs pf ≠ 0 then 0 else badOf vars.toNat cs pf
def refOk (vars : Int) (cs pf : List (List Int)) : Bool := decide (badErr vars cs pf = 0) && decide (badK vars cs pf < 0) && decide (0 < pf.length) && decide ((pf.getD (pf.length - 1) []).length = 0)

theorem ck_lits {vars : Int} {cs : List (List Int)} (h : ckClauses cs vars = 0) : ∀ c ∈ cs, ckClause c vars = 0 := by
 intro c hc
 unfold ckClauses at h
 split at h
 ·rename_i d hd
  have := List.find?_some hd
  simp at this; exact absurd h this
 ·rename_i hn
  have := List.find?_eq_none.1 hn c hc
  simpa using this
theorem ckClause_lit {N : Nat} {c : List Int} (h : ckClause c (N : Int) = 0) : Qm.IsCl N c ∧ c.length ≤ 60 := by
 unfold ckClause at h
 split at h
 ·omega
 ·split at h
  ·omega
  ·rename_i h1 h2
   refine ⟨fun x hx => ?_, by omega⟩
   have h3 : badLit (N : Int) x = false := by
    cases hb : badLit (N : Int) x
    ·rfl
    ·exact absurd (List.any_eq_true.2 ⟨x, hx, hb⟩) h2
   have h4 : ¬ ((N : Int) < 0 ∨ x = 0 ∨ x < -(N : Int) ∨ (N : Int) < x) := by
    intro h5
    rw [badLit_yes h5] at h3; cases h3
   exact ⟨by omega, by omega⟩
theorem ckFormula_ok {vars : Int} {cs : List (List Int)} (h : ckFormula vars cs = 0) : ∃ N : Nat, vars = N ∧ N ≤ 400 ∧ cs.length ≤ 4000 ∧ ∀ c ∈ cs, Qm.IsCl N c ∧ c.length ≤ 60 := by
 unfold ckFormula at h
 split at h
 ·omega
 ·split at h
  ·omega
  ·obtain ⟨N, rfl⟩ : ∃ N : Nat, vars = N := ⟨vars.toNat, by omega⟩
   exact ⟨N, rfl, by omega, by omega, fun c hc => ckClause_lit (ck_lits h c hc)⟩
end
/- Walk: cnf.checkLits. -/
section
open Go.RowKit
end
end Go.Proofs.YtedbhlgjcnnknaaGreatDoor
