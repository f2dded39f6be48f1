/- Parts of the proof: walks and plain laws, side by side. -/
import Derived.Test.YtedbhlgjcnnknaaGreatDoorM6
import Derived.Deep.LoopGhost
import Derived.StillTailTactics
import Derived.BigQuiet
import Derived.Test.YtedbhlgjcnnknaaGreatDoorM1
import Derived.Deep.AppendLies
import Derived.OwnWalk
import Derived.Maps.AppendAt
import Derived.Lib.AppendZerosOnto
import Derived.Lib.Walk
import Derived.Test.YtedbhlgjcnnknaaGreatDoorM2
import Derived.WalkSpells
set_option linter.unusedVariables false
set_option linter.unusedSimpArgs false
set_option linter.unusedSectionVars false
namespace Go.Proofs.YtedbhlgjcnnknaaGreatDoor
/- Walks: the checks of a formula and of a proof, the program's and the document's. -/
section
open Go.RowKit
def ckClauses (cs : List (List Int)) (vars : Int) : Int := match cs.find? (fun c => ckClause c vars != 0) with | some c => ckClause c vars | none => 0
def ckFormula (vars : Int) (cs : List (List Int)) : Int := if vars < 0 ∨ 400 < vars then 3 else if 4000 < cs.length then 2 else ckClauses cs vars
def ckProof (cs : List (List Int)) (vars : Int) : Int := if vars < 0 ∨ 400 < vars then 3 else if 40000 < cs.length then 2 else ckClauses cs vars
def NoneBad (cs : List (List Int)) (vars : Int) (k : Nat) : Prop := ∀ c ∈ cs.take k, ckClause c vars = 0
theorem ckClauses_bad {cs : List (List Int)} {vars : Int} {k : Nat} {c : List Int} (h : NoneBad cs vars k) (hk : k < cs.length) (hc : cs.getD k [] = c) (hb : (ckClause c vars != 0) = true) : ckClauses cs vars = ckClause c vars := by
 have e : cs = cs.take k ++ c :: cs.drop (k+1) := by
  rw [List.getD_eq_getElem?_getD, List.getElem?_eq_getElem hk, Option.getD_some] at hc
  rw [← hc, List.getElem_cons_drop, List.take_append_drop]
 unfold ckClauses
 rw [e, List.find?_append]
 have : (cs.take k).find? (fun c => ckClause c vars != 0) = none := by
  rw [List.find?_eq_none]; intro x hx; rw [h x hx]; simp
 rw [this, Option.none_or]; simp only [List.find?_cons, hb]
theorem NoneBad.next {cs : List (List Int)} {vars : Int} {k : Nat} {c : List Int} (h : NoneBad cs vars k) (hk : k < cs.length) (hc : cs.getD k [] = c) (hb : (ckClause c vars != 0) = false) : NoneBad cs vars (k+1) := by
 intro x hx
 rw [List.take_succ_eq_append_getElem hk] at hx
 rcases List.mem_append.1 hx with hx | hx
 ·exact h x hx
 ·rw [List.getD_eq_getElem?_getD, List.getElem?_eq_getElem hk, Option.getD_some] at hc
  simp at hx; subst hx; rw [hc]; simpa using hb
theorem ckClauses_good {cs : List (List Int)} {vars : Int} {k : Nat} (h : NoneBad cs vars k) (hk : k = cs.length) : ckClauses cs vars = 0 := by
 unfold ckClauses
 have : cs.find? (fun c => ckClause c vars != 0) = none := by
  rw [List.find?_eq_none]; intro x hx; rw [h x (by rw [hk, List.take_length]; exact hx)]; simp
 rw [this]

set_option maxHeartbeats 1000000 in
theorem checkFormula_any (A : Option Addr) (n cap : Nat) (cs : List (List Int)) (vars : Int) (w : World) (S : Nat → Prop) (hr : RClauses w S A n cs) (hS : ∀ k, S k → k < w.heap.size) (hn : n ≤ maxLen) (hv : -9223372036854775808 ≤ vars) (hv' : vars ≤ 9223372036854775807) :
  Calls Tryz.prog 23 #[.agg #[.int .i64 vars, .slice A n cap]] w fun e w' => e = .returned (.int .i64 (ckFormula vars cs)) ∧ Below w.heap.size w w' := by
 unfold maxLen at hn
 have Hlen := qh hr.len
 have Hr := qh hr; clear hr
 have Hw : Hid (∀ o, Below w.heap.size w (w.alloc o)) := fun o => (Below.refl _ _).alloc (qr _) o
 by_cases h0 : vars < 0
 ·go_enter Tryz.func23, Tryz.ntmps23
  go_wp2_with fail
  go_ret
  exact ⟨ret_int (by unfold ckFormula; rw [if_pos (.inl h0)]), Hw.out _⟩
 have h0' : decide (vars < 0) = false := by simpa using h0
 by_cases h4 : 400 < vars
 ·go_enter Tryz.func23, Tryz.ntmps23
  go_wp2_with fail
  go_ret
  exact ⟨ret_int (by unfold ckFormula; rw [if_pos (.inr h4)]), Hw.out _⟩
 have h4' : decide (400 < vars) = false := by simpa using h4
 have H3 : Hid (¬ (vars < 0 ∨ 400 < vars)) := by show ¬ _; omega
 by_cases hm : 4000 < n
 ·have hm' : decide ((4000 : Int) < (n : Int)) = true := by simp; omega
  go_enter Tryz.func23, Tryz.ntmps23
  go_wp2_with fail
  go_ret
  exact ⟨ret_int (by unfold ckFormula; rw [if_neg H3.out, if_pos (by rw [Hlen.out]; exact hm)]), Hw.out _⟩
 have hm' : decide ((4000 : Int) < (n : Int)) = false := by simp; omega
 have H5 : Hid (ckFormula vars cs = ckClauses cs vars) := by show _ = _; unfold ckFormula; rw [if_neg H3.out, if_neg (by rw [Hlen.out]; exact hm)]
 go_enter Tryz.func23, Tryz.ntmps23
 go_wp2_with fail
 go_loopg [21] n (fun g i wr => ∃ k : Nat, Hid (k + g = n) ∧ i = .int .i64 k ∧ NoneBad cs vars k ∧ Hid (w.alloc (.cells #[.int .i64 vars, .slice A n cap] 33) = wr))
 case atStart => exact ⟨0, Nat.zero_add _, rfl, fun c hc => by simp at hc, rfl⟩
 case round =>
  obtain ⟨k, Hk, rfl, hbad, Hwr⟩ := hrel
  obtain rfl := Hwr.out
  clear Hwr
  have Hbad := qh hbad; clear hbad
  by_cases hk : k < n
  ·obtain ⟨b, o, A', n', c', rfl, hb, hcell, hc, hnc, hcm⟩ := (Hr.out.below (Hw.out (.cells #[.int .i64 vars, .slice A n cap] 33)) hS).at_ hk
   unfold maxLen at hcm
   have hcall := checkClause_any A' n' c' _ vars _ _ hc (by unfold maxLen; omega) hv hv'
   generalize hcc : cs.getD k [] = c at hcall
   have Hcc := qh hcc; clear hcc hc
   generalize hx : ckClause c vars = x at hcall
   have Hx := qh hx; clear hx
   have Hcall := qh hcall; clear hcall
   by_cases hx0 : (x != 0) = true
   ·go_wp2_with fail
    refine Hcall.out.mono ?_
    rintro e w' ⟨rfl, rfl⟩
    go_wp2_with fail
    go_ret
    exact ⟨ret_int (by rw [H5.out, ckClauses_bad Hbad.out (by rw [Hlen.out]; exact hk) Hcc.out (by rw [Hx.out]; exact hx0), Hx.out]), Hw.out _⟩
   ·have hx1 : (x != 0) = false := by simpa using hx0
    clear hx0
    go_wp2_with fail
    refine Hcall.out.mono ?_
    rintro e w' ⟨rfl, rfl⟩
    go_wp2_with fail
    go_roundg (gk - 1)
    case measure => have := Hk.out; omega
    case rel => exact ⟨k + 1, by have := Hk.out; show _ = _; omega, by go_num, Hbad.out.next (by rw [Hlen.out]; exact hk) Hcc.out (by rw [Hx.out]; exact hx1), rfl⟩
  ·go_wp2_with fail
   go_ret
   exact ⟨ret_int (by rw [H5.out, ckClauses_good Hbad.out (by rw [Hlen.out]; have := Hk.out; omega)]), Hw.out _⟩
end
/- Walk: rup.step. -/
section
open Go.RowKit
def zeroObj (N : Nat) : Obj := .cells ((Qm.zeroVals N).map (Value.int .i64)).toArray 3
theorem int_info : (Tryz.prog.info? 3).map (fun i => (i.zero, i.size, i.bytes)) = some (some (.int .i64 0), 1, 8) := by kernel_rfl
theorem run_make_zeros (N : Nat) (hN : N ≤ 400) (w : World) : (Instr.makeSlice 113 (.int .i64 ((N : Int) + 1)) (.int .i64 ((N : Int) + 1))).run Tryz.prog w = .ok (.slice (some ⟨w.heap.size, 0, none⟩) (N + 1) (N + 1)) (w.alloc (zeroObj N)) := by
 obtain ⟨i, hi, hz, h1, h8⟩ := info_parts int_info
 have hr := run_make (P := Tryz.prog) w 113 3 i (.int .i64 0) Tryz.underlying113 hi hz .i64 .i64 ((N : Int) + 1) ((N : Int) + 1) (by omega) (by omega) (by rw [h8]; omega) (by omega)
 rw [hr]
 have e : ((N : Int) + 1).toNat = N + 1 := by omega
 rw [e, h1, Nat.mul_one]
 have : madeCells (Value.int .i64 0).cells (N + 1) = ((Qm.zeroVals N).map (Value.int .i64)).toArray := by
  apply Array.ext'
  have := toList_madeCells_one (Value.int .i64 0) (N + 1)
  show (madeCells #[Value.int .i64 0] (N + 1)).toList = _
  rw [this]; simp [Qm.zeroVals]
 rw [this]; rfl
theorem whole_zeros (w : World) (N b : Nat) (hb : b = w.heap.size) : Whole (w.alloc (zeroObj N)) b 3 ((Qm.zeroVals N).map (Value.int .i64)) := Whole.new w b 3 _ hb

theorem rlists2 {w : World} {S : Nat → Prop} {b : Nat} {t : TypeId} {A1 A2 : Option Addr} {n1 n2 c1 c2 : Nat} {cs1 cs2 : List (List Int)} (hw : Whole w b t [.slice A1 n1 c1, .slice A2 n2 c2]) (hB : S b) (h1 : RClauses w S A1 n1 cs1) (h2 : RClauses w S A2 n2 cs2)
  (hc1 : n1 ≤ c1 ∧ c1 ≤ maxLen) (hc2 : n2 ≤ c2 ∧ c2 ≤ maxLen) : RLists w S (some ⟨b, 0, none⟩) 2 [cs1, cs2] := by
 refine ⟨[(A1, n1, c1), (A2, n2, c2)], hw.row hB rfl, rfl, fun j h c hh hc => ?_⟩
 match j with
 | 0 => simp at hh hc; subst hh hc; exact ⟨h1, hc1⟩
 | 1 => simp at hh hc; subst hh hc; exact ⟨h2, hc2⟩
 | j + 2 => simp at hh
theorem rlists1 {w : World} {S : Nat → Prop} {b : Nat} {t : TypeId} {A1 : Option Addr} {n1 c1 : Nat} {cs1 : List (List Int)} (hw : Whole w b t [.slice A1 n1 c1]) (hB : S b) (h1 : RClauses w S A1 n1 cs1)
  (hc1 : n1 ≤ c1 ∧ c1 ≤ maxLen) : RLists w S (some ⟨b, 0, none⟩) 1 [cs1] := by
 refine ⟨[(A1, n1, c1)], hw.row hB rfl, rfl, fun j h c hh hc => ?_⟩
 match j with
 | 0 => simp at hh hc; subst hh hc; exact ⟨h1, hc1⟩
 | j + 1 => simp at hh

def StepRel (N : Nat) (w : World) (f : Obj) (wr : World) (ls : List Int) (k : Nat) (vc : List Int) : Prop :=
 Whole wr (w.heap.size + 1) 3 (vc.map (Value.int .i64)) ∧ Qm.Fine N vc ∧ ((w.alloc f).alloc (zeroObj N)).grownBy wr (some (w.heap.size + 1)) ∧ wr.heap.size = w.heap.size + 2 ∧ (ls.take k).foldl Qm.assume1 (some (Qm.zeroVals N)) = some vc
theorem StepRel.start (N : Nat) (w : World) (f : Obj) (ls : List Int) : StepRel N w f ((w.alloc f).alloc (zeroObj N)) ls 0 (Qm.zeroVals N) :=
 ⟨whole_zeros _ N _ (by simp), Qm.zeroVals_fine N, World.grownBy.refl _ _, by simp, rfl⟩
theorem StepRel.below {N : Nat} {w wr : World} {f : Obj} {ls : List Int} {k : Nat} {vc : List Int} (h : StepRel N w f wr ls k vc) : Below w.heap.size w wr :=
 (((Below.refl _ _).alloc (qr _) _).alloc (by simp) _).trans (below_of_grown h.2.2.1 (by simp; omega) (fun k e => by injection e with e; omega))
theorem StepRel.cell {N : Nat} {w wr : World} {x y : Value} {t : TypeId} {ls : List Int} {k : Nat} {vc : List Int} (h : StepRel N w (.cells #[x, y] t) wr ls k vc) :
  wr.cell? ⟨w.heap.size, 0, none⟩ = some x ∧ wr.cell? ⟨w.heap.size, 1, none⟩ = some y := by
 have hb := h.2.2.1.block w.heap.size (by simp; omega) (by intro e; injection e with e; omega)
 rw [heap_alloc2_old] at hb
 exact ⟨by rw [cell_of_row _ _ _ _ _ _ hb]; rfl, by rw [cell_of_row _ _ _ _ _ _ hb]; rfl⟩

set_option maxHeartbeats 2000000 in
theorem step_any (N : Nat) (A A' A'' : Option Addr) (n cap n' cap' n'' cap'' : Nat) (cs ah : List (List Int)) (c : List Int) (w : World) (S : Nat → Prop) (hN : N ≤ 400) (hS : ∀ k, S k → k < w.heap.size)
  (hr : RClauses w S A n cs) (hr' : RClauses w S A' n' ah) (hr'' : RInts w S A'' n'' c) (hn : n ≤ cap ∧ cap ≤ maxLen) (hn' : n' ≤ cap' ∧ cap' ≤ maxLen) (hn'' : n'' ≤ maxLen)
  (hl : Lits N [cs, ah]) (hl' : Qm.IsCl N c) :
  Calls Tryz.prog 103 #[.agg #[.int .i64 (N : Int), .slice A n cap], .slice A' n' cap', .slice A'' n'' cap''] w fun e w' => e = .returned (.bool (Qm.rupStep N (cs ++ ah) c)) ∧ Below w.heap.size w w' := by
 unfold maxLen at hn''
 have Hr := qh hr; have Hr' := qh hr'; have Hr'' := qh hr''; have Hl := qh hl; have Hl' := qh hl'
 have Hn := qh hn; have Hn' := qh hn'
 clear hr hr' hr'' hl hl' hn hn'
 have Hlen := qh Hr''.out.len
 have hmk := fun w => run_make_zeros N hN w
 go_enter Tryz.func103, Tryz.ntmps103
 go_wp2_with fail
 clear hmk
 go_loopg [16] n'' (fun g i wr => ∃ (k : Nat) (vc : List Int), Hid (k + g = n'') ∧ i = .int .i64 k ∧ StepRel N w (.cells #[.int .i64 (N : Int), .slice A n cap] 33) wr (c.map Neg.neg) k vc)
 case atStart => exact ⟨0, Qm.zeroVals N, Nat.zero_add _, rfl, StepRel.start N w _ _⟩
 case round =>
  obtain ⟨k, vc, Hk, rfl, H1⟩ := hrel
  have hf0 := H1.cell.1
  have hf1 := H1.cell.2
  by_cases hk : k < n''
  ·obtain ⟨b, o, rfl, hb, hcell⟩ := (Hr''.out.below H1.below hS).at_ hk
   have hlc : k < c.length := by rw [Hlen.out]; exact hk
   generalize hx : c.getD k 0 = x at hcell
   have hlx : Qm.IsLit N x := by have := Hl'.out _ (getD_mem (d := 0) hlc); rwa [hx] at this
   have hxb : -400 ≤ x ∧ x ≤ 400 := by have := hlx.2; omega
   have hd : -((N + 1 : Nat) : Int) < -x ∧ -x < ((N + 1 : Nat) : Int) := by have := hlx.1; have := hlx.2; omega
   have hnext := Qm.assume_take H1.2.2.2.2 (by rw [List.length_map]; exact hlc) (by rw [Qm.getD_neg, hx])
   have hcall := of_any (some ⟨w.heap.size + 1, 0, none⟩) (N + 1) (N + 1) vc (-x) wr (fun k => k = w.heap.size + 1) (Whole.ints (S := fun k => k = w.heap.size + 1) H1.1 rfl H1.2.1.1) (by omega) hd (fine_bd H1.2.1)
   have Hx := qh hx; clear hx
   by_cases hv : Qm.vof vc (-x) = -1
   ·rw [if_pos hv] at hnext
    rw [hv] at hcall
    have Hcall := qh hcall; have Hnext := qh hnext; have Hv := qh hv
    clear hcall hnext hv hlx hd
    go_wp2_with fail
    refine Hcall.out.mono ?_
    rintro e w' ⟨rfl, rfl⟩
    go_wp2_with fail
    go_ret
    exact ⟨ret_bool (by unfold Qm.rupStep; rw [Qm.assume_stop Hnext.out]), H1.below⟩
   ·rw [if_neg hv] at hnext
    have hlt : decide (Qm.vof vc (-x) < 0) = false := by
     rcases Qm.vof_range H1.2.1 (-x) with h | h | h
     ·rw [h]; rfl
     ·rw [h]; rfl
     ·exact absurd h hv
    generalize Qm.vof vc (-x) = u at hcall hlt
    have hcall2 := set_any (w.heap.size + 1) 3 (N + 1) (N + 1) vc (-x) wr H1.2.1.1 H1.1 (by omega) hd
    have Hcall := qh hcall; have Hnext := qh hnext; have Hv := qh hv; have Hcall2 := qh hcall2
    clear hcall hnext hv hlx hd hcall2
    go_wp2_with fail
    refine Hcall.out.mono ?_
    rintro e w' ⟨rfl, rfl⟩
    go_wp2_with fail
    refine Hcall2.out.mono ?_
    rintro e w5 ⟨rfl, hw5⟩
    go_wp2_with fail
    go_roundg (gk - 1)
    case measure => have := Hk.out; omega
    case rel => exact ⟨k + 1, Qm.vset vc (-x), by have := Hk.out; show _ = _; omega, by go_num, hw5.1, Qm.vset_fine H1.2.1 _, grown_trans H1.2.2.1 hw5.2.1, hw5.2.2.trans H1.2.2.2.1, Hnext.out⟩
  ·have hsz := H1.2.2.2.1
   have hb2 : ∀ o : Obj, Below wr.heap.size wr (wr.alloc o) := fun o => (Below.refl _ _).alloc (qr _) o
   have hcall := spread_any N (w.heap.size + 1) (N + 1) 2 2 vc (some ⟨wr.heap.size, 0, none⟩) [cs, ah] (wr.alloc (.cells #[.slice A n cap, .slice A' n' cap'] 31)) (fun k => S k ∨ k = wr.heap.size) hN H1.2.1 (H1.1.alloc _)
     (fun k hk => by rcases hk with hk | hk <;> first | (have := hS k hk; simp; omega) | (simp; omega))
     (rlists2 (Whole.new wr _ 31 [.slice A n cap, .slice A' n' cap'] rfl) (.inr rfl) (((Hr.out.below H1.below hS).below (hb2 _) (fun k hk => by have := hS k hk; omega)).more (fun k hk => .inl hk)) (((Hr'.out.below H1.below hS).below (hb2 _) (fun k hk => by have := hS k hk; omega)).more (fun k hk => .inl hk)) Hn.out Hn'.out) (by unfold maxLen; omega) Hl.out
   have Hcall := qh hcall
   have Hsz := qh hsz; have Hbb := qh hb2; clear hsz hb2 hcall
   go_wp2_with fail
   refine Hcall.out.mono ?_
   rintro e w5 ⟨rfl, _, hg5, _⟩
   go_wp2_with fail
   go_ret
   refine ⟨ret_bool ?_, (H1.below.trans (Hbb.out _ |>.mono (by have := Hsz.out; omega))).trans (below_of_grown hg5 (by have := Hsz.out; simp; omega) (fun k e => by injection e with e; omega))⟩
   unfold Qm.rupStep
   rw [Qm.assume_all H1.2.2.2.2 (by rw [List.length_map, Hlen.out]; have := Hk.out; omega)]
end
/- Walks: the check of a proof, the program's and the document's. -/
section
open Go.RowKit
set_option maxHeartbeats 1000000 in
theorem checkProof_any (A : Option Addr) (n cap : Nat) (cs : List (List Int)) (vars : Int) (w : World) (S : Nat → Prop) (hr : RClauses w S A n cs) (hn : n ≤ maxLen) (hv : -9223372036854775808 ≤ vars) (hv' : vars ≤ 9223372036854775807) :
  Calls Tryz.prog 102 #[.slice A n cap, .int .i64 vars] w fun e w' => e = .returned (.int .i64 (ckProof cs vars)) ∧ w = w' := by
 unfold maxLen at hn
 have Hlen := qh hr.len
 have Hr := qh hr; clear hr
 by_cases h0 : vars < 0
 ·go_enter Tryz.func102, Tryz.ntmps102
  go_wp2_with fail
  go_ret
  exact ⟨ret_int (by unfold ckProof; rw [if_pos (.inl h0)]), rfl⟩
 have h0' : decide (vars < 0) = false := by simpa using h0
 by_cases h4 : 400 < vars
 ·go_enter Tryz.func102, Tryz.ntmps102
  go_wp2_with fail
  go_ret
  exact ⟨ret_int (by unfold ckProof; rw [if_pos (.inr h4)]), rfl⟩
 have h4' : decide (400 < vars) = false := by simpa using h4
 have H3 : Hid (¬ (vars < 0 ∨ 400 < vars)) := by show ¬ _; omega
 by_cases hm : 40000 < n
 ·have hm' : decide ((40000 : Int) < (n : Int)) = true := by simp; omega
  go_enter Tryz.func102, Tryz.ntmps102
  go_wp2_with fail
  go_ret
  exact ⟨ret_int (by unfold ckProof; rw [if_neg H3.out, if_pos (by rw [Hlen.out]; exact hm)]), rfl⟩
 have hm' : decide ((40000 : Int) < (n : Int)) = false := by simp; omega
 have H5 : Hid (ckProof cs vars = ckClauses cs vars) := by show _ = _; unfold ckProof; rw [if_neg H3.out, if_neg (by rw [Hlen.out]; exact hm)]
 go_enter Tryz.func102, Tryz.ntmps102
 go_wp2_with fail
 go_loopg [19] n (fun g i wr => ∃ k : Nat, Hid (k + g = n) ∧ i = .int .i64 k ∧ NoneBad cs vars k ∧ Hid (w = wr))
 case atStart => exact ⟨0, Nat.zero_add _, rfl, fun c hc => by simp at hc, rfl⟩
 case round =>
  obtain ⟨k, Hk, rfl, hbad, Hwr⟩ := hrel
  obtain rfl := Hwr.out
  clear Hwr
  have Hbad := qh hbad; clear hbad
  by_cases hk : k < n
  ·obtain ⟨b, o, A', n', c', rfl, hb, hcell, hc, hnc, hcm⟩ := Hr.out.at_ hk
   unfold maxLen at hcm
   have hcall := checkClause_any A' n' c' _ vars _ _ hc (by unfold maxLen; omega) hv hv'
   generalize hcc : cs.getD k [] = c at hcall
   have Hcc := qh hcc; clear hcc hc
   generalize hx : ckClause c vars = x at hcall
   have Hx := qh hx; clear hx
   have Hcall := qh hcall; clear hcall
   by_cases hx0 : (x != 0) = true
   ·go_wp2_with fail
    refine Hcall.out.mono ?_
    rintro e w' ⟨rfl, rfl⟩
    go_wp2_with fail
    go_ret
    exact ⟨ret_int (by rw [H5.out, ckClauses_bad Hbad.out (by rw [Hlen.out]; exact hk) Hcc.out (by rw [Hx.out]; exact hx0), Hx.out]), rfl⟩
   ·have hx1 : (x != 0) = false := by simpa using hx0
    clear hx0
    go_wp2_with fail
    refine Hcall.out.mono ?_
    rintro e w' ⟨rfl, rfl⟩
    go_wp2_with fail
    go_roundg (gk - 1)
    case measure => have := Hk.out; omega
    case rel => exact ⟨k + 1, by have := Hk.out; show _ = _; omega, by go_num, Hbad.out.next (by rw [Hlen.out]; exact hk) Hcc.out (by rw [Hx.out]; exact hx1), rfl⟩
  ·go_wp2_with fail
   go_ret
   exact ⟨ret_int (by rw [H5.out, ckClauses_good Hbad.out (by rw [Hlen.out]; have := Hk.out; omega)]), rfl⟩
end
/- Walks: rup.Bad, rup.Refutes. -/
section
open Go.RowKit
def badFrom (N : Nat) (cs : List (List Int)) (pf : List (List Int)) : Nat → Nat → Int
 | _, 0 => -1
 | k, g + 1 => if Qm.rupStep N (cs ++ pf.take k) (pf.getD k []) then badFrom N cs pf (k + 1) g else k
def badOf (N : Nat) (cs pf : List (List Int)) : Int := badFrom N cs pf 0 pf.length
def badErr (vars : Int) (cs pf : List (List Int)) : Int := if ckFormula vars cs ≠ 0 then ckFormula vars cs else ckProof pf vars
def badK (vars : Int) (cs pf : List (List Int)) : Int := if badErr vars cs pf ≠ 0 then 0 else badOf vars.toNat cs pf
def refOk (vars : Int) (cs pf : List (List Int)) : Bool := decide (badErr vars cs pf = 0) && decide (badK vars cs pf < 0) && decide (0 < pf.length) && decide ((pf.getD (pf.length - 1) []).length = 0)

theorem ck_lits {vars : Int} {cs : List (List Int)} (h : ckClauses cs vars = 0) : ∀ c ∈ cs, ckClause c vars = 0 := by
 intro c hc
 unfold ckClauses at h
 split at h
 ·rename_i d hd
  have := List.find?_some hd
  simp at this; exact absurd h this
 ·rename_i hn
  have := List.find?_eq_none.1 hn c hc
  simpa using this
theorem ckClause_lit {N : Nat} {c : List Int} (h : ckClause c (N : Int) = 0) : Qm.IsCl N c ∧ c.length ≤ 60 := by
 unfold ckClause at h
 split at h
 ·omega
 ·split at h
  ·omega
  ·rename_i h1 h2
   refine ⟨fun x hx => ?_, by omega⟩
   have h3 : badLit (N : Int) x = false := by
    cases hb : badLit (N : Int) x
    ·rfl
    ·exact absurd (List.any_eq_true.2 ⟨x, hx, hb⟩) h2
   have h4 : ¬ ((N : Int) < 0 ∨ x = 0 ∨ x < -(N : Int) ∨ (N : Int) < x) := by
    intro h5
    rw [badLit_yes h5] at h3; cases h3
   exact ⟨by omega, by omega⟩
theorem ckFormula_ok {vars : Int} {cs : List (List Int)} (h : ckFormula vars cs = 0) : ∃ N : Nat, vars = N ∧ N ≤ 400 ∧ cs.length ≤ 4000 ∧ ∀ c ∈ cs, Qm.IsCl N c ∧ c.length ≤ 60 := by
 unfold ckFormula at h
 split at h
 ·omega
 ·split at h
  ·omega
  ·obtain ⟨N, rfl⟩ : ∃ N : Nat, vars = N := ⟨vars.toNat, by omega⟩
   exact ⟨N, rfl, by omega, by omega, fun c hc => ckClause_lit (ck_lits h c hc)⟩
theorem ckProof_ok {N : Nat} {cs : List (List Int)} (h : ckProof cs (N : Int) = 0) : cs.length ≤ 40000 ∧ ∀ c ∈ cs, Qm.IsCl N c ∧ c.length ≤ 60 := by
 unfold ckProof at h
 split at h
 ·omega
 ·split at h
  ·omega
  ·exact ⟨by omega, fun c hc => ckClause_lit (ck_lits h c hc)⟩

def BadRel (N : Nat) (cs pf : List (List Int)) (A : Option Addr) (n cap : Nat) (w wr : World) (k g : Nat) : Prop :=
 Whole wr w.heap.size 33 [.int .i64 (N : Int), .slice A n cap] ∧ Below w.heap.size w wr ∧ badOf N cs pf = badFrom N cs pf k g

set_option maxRecDepth 100000 in
set_option maxHeartbeats 2000000 in
theorem bad_any (A A' : Option Addr) (n cap n' cap' : Nat) (vars : Int) (cs pf : List (List Int)) (w : World) (S : Nat → Prop) (hS : ∀ k, S k → k < w.heap.size)
  (hr : RClauses w S A n cs) (hr' : RClauses w S A' n' pf) (hn : n ≤ cap ∧ cap ≤ maxLen) (hn' : n' ≤ cap' ∧ cap' ≤ maxLen) (hv : -9223372036854775808 ≤ vars) (hv' : vars ≤ 9223372036854775807) :
  Calls Tryz.prog 74 #[.agg #[.int .i64 vars, .slice A n cap], .slice A' n' cap'] w fun e w' => e = .returned (.tuple #[.int .i64 (badK vars cs pf), .int .i64 (badErr vars cs pf)]) ∧ Below w.heap.size w w' := by
 have Hr := qh hr; have Hr' := qh hr'; have Hn := qh hn; have Hn' := qh hn'
 clear hr hr' hn hn'
 obtain ⟨w0, hw0⟩ : ∃ x, x = w.alloc (.cells #[.int .i64 vars, .slice A n cap] 33) := ⟨_, rfl⟩
 have hb0 : Below w.heap.size w w0 := by rw [hw0]; exact (Below.refl _ _).alloc (qr _) _
 have hck := checkFormula_any A n cap cs vars w0 S (Hr.out.below hb0 hS) (fun k hk => by have := hS k hk; have := hb0.size; omega) (Nat.le_trans Hn.out.1 Hn.out.2) hv hv'
 have hz0 : w0.heap.size = w.heap.size + 1 := by rw [hw0]; simp
 rw [hw0] at hck
 have Hck := qh hck; have Hb0 := qh hb0; have Hw0 := qh hw0; have Hz0 := qh hz0
 clear hck hb0 hw0 hz0
 go_enter Tryz.func74, Tryz.ntmps74
 go_wp2_with fail
 refine Hck.out.mono ?_
 rintro e w1 ⟨rfl, hb1⟩
 have hb1' : Below w0.heap.size w0 w1 := by rw [Hw0.out]; exact hb1
 clear hb1
 have hW1 : Whole w1 w.heap.size 33 [.int .i64 vars, .slice A n cap] := by
  have : Whole w0 w.heap.size 33 [.int .i64 vars, .slice A n cap] := by rw [Hw0.out]; exact Whole.new w _ _ _ rfl
  exact this.below hb1' (by have := Hz0.out; omega)
 have Hbw1 := qh (Hb0.out.trans (hb1'.mono (by have := Hz0.out; omega)))
 clear hb1'
 have hf0 := hW1.cell 0
 have hf1 := hW1.cell 1
 have HW1 := qh hW1; clear hW1
 simp only [qgz, qgs] at hf0 hf1
 generalize he1 : ckFormula vars cs = e1
 have He1 := qh he1; clear he1
 by_cases h1 : e1 = 0
 ·subst h1
  have hck2 := checkProof_any A' n' cap' pf vars w1 S (Hr'.out.below Hbw1.out hS) (Nat.le_trans Hn'.out.1 Hn'.out.2) hv hv'
  generalize he2 : ckProof pf vars = e2 at hck2
  have He2 := qh he2; clear he2
  have Hck2 := qh hck2; clear hck2
  have HE : Hid (badErr vars cs pf = e2) := by show _ = _; unfold badErr; rw [if_neg (by rw [He1.out]; simp), He2.out]
  by_cases h2 : e2 = 0
  ·subst h2
   obtain ⟨N, rfl, hN, hcl, hcs⟩ := ckFormula_ok He1.out
   obtain ⟨hpl, hps⟩ := ckProof_ok He2.out
   have Hcs := qh hcs; have Hps := qh hps
   clear hcs hps
   have hn2 : n' ≤ 40000 := by rw [← Hr'.out.len]; exact hpl
   have HK : Hid (badK (N : Int) cs pf = badOf N cs pf) := by show _ = _; unfold badK; rw [if_neg (by rw [HE.out]; simp)]; simp
   go_wp2_with fail
   refine Hck2.out.mono ?_
   rintro e w' ⟨rfl, rfl⟩
   go_wp2_with fail
   go_loopg [23] n' (fun g i wr => ∃ (k : Nat), Hid (k + g = n') ∧ i = .int .i64 k ∧ BadRel N cs pf A n cap w wr k g)
   case atStart => exact ⟨0, Nat.zero_add _, rfl, HW1.out, Hbw1.out, by rw [← Hr'.out.len]; rfl⟩
   case round =>
    obtain ⟨k, Hk, rfl, H1⟩ := hrel
    have hg0 := H1.1.cell 0
    have hg1 := H1.1.cell 1
    simp only [qgz, qgs] at hg0 hg1
    clear hf0 hf1
    by_cases hk : k < n'
    ·obtain ⟨g, rfl⟩ : ∃ g, gk = g + 1 := ⟨gk - 1, by have := Hk.out; omega⟩
     obtain ⟨bp, op, A2, n2, c2, rfl, hbp, hcell, hc, hnc, hcm⟩ := (Hr'.out.below H1.2.1 hS).at_ hk
     have Hpl := qh Hr'.out.len
     have hmem := Hps.out _ (getD_mem (l := pf) (k := k) (d := []) (by rw [Hpl.out]; exact hk))
     have hcall := fun d => step_any N A (some ⟨bp, op, none⟩) A2 n cap k cap' n2 c2 cs (pf.take k) (pf.getD k []) (wr.drewN d) S hN (fun j hj => by have := hS j hj; have := H1.2.1.size; show j < wr.heap.size; omega)
      (Hr.out.below (below_drewN H1.2.1 d) hS) ((Hr'.out.below (below_drewN H1.2.1 d) hS).take (Nat.le_of_lt hk)) hc Hn.out ⟨by have := Hn'.out.1; omega, Hn'.out.2⟩ (by omega)
      (fun l hl c hc1 => by
       rcases List.mem_cons.1 hl with rfl | hl
       ·exact (Hcs.out c hc1).1
       ·rw [List.mem_singleton] at hl; subst hl; exact (Hps.out c (List.mem_of_mem_take hc1)).1) hmem.1
     have Hcall := qh hcall; clear hcall hc hmem
     have hnk : (k : Int) ≤ cap' := by have := Hn'.out.1; omega
     go_wp2_with fail
     go_still_tail 8, (by kernel_rfl)
     change wpList _ _ _ _ _ (wr.drewN 1)
     go_wp2_with fail
     refine (Hcall.out 1).mono ?_
     rintro e w5 ⟨rfl, hb5⟩
     have hb6 := (below_drewN H1.2.1 1).trans (hb5.mono (by have := H1.2.1.size; show _ ≤ wr.heap.size; omega))
     have hW6 : Whole w5 w.heap.size 33 [.int .i64 (N : Int), .slice A n cap] := (H1.1.drewN 1).below hb5 (by show _ < wr.heap.size; exact H1.1.lt)
     have hfr := H1.2.2
     unfold badFrom at hfr
     have Hb6 := qh hb6; have HW6 := qh hW6
     clear hb5 hb6 hW6
     cases hst : Qm.rupStep N (cs ++ pf.take k) (pf.getD k [])
     ·rw [hst] at hfr
      have Hfr := qh hfr; clear hfr
      have Hst := qh hst; clear hst
      go_wp2_with fail
      go_ret2
      exact ⟨ret2_ii (by rw [HK.out, Hfr.out]; rfl) HE.out.symm, Hb6.out⟩
     ·rw [hst, if_pos rfl] at hfr
      have Hfr := qh hfr; clear hfr
      have Hst := qh hst; clear hst
      go_wp2_with fail
      go_roundg g
      case measure => omega
      case rel => exact ⟨k + 1, by have := Hk.out; show _ = _; omega, by go_num, HW6.out, Hb6.out, Hfr.out⟩
    ·go_wp2_with fail
     go_ret2
     obtain rfl : gk = 0 := by have := Hk.out; omega
     exact ⟨ret2_ii (HK.out.trans H1.2.2).symm HE.out.symm, H1.2.1⟩
  ·have h2' : (e2 != 0) = true := by simpa using h2
   have HK : Hid (badK vars cs pf = 0) := by show _ = _; unfold badK; rw [if_pos (by rw [HE.out]; exact h2)]
   clear h2
   go_wp2_with fail
   refine Hck2.out.mono ?_
   rintro e w' ⟨rfl, rfl⟩
   go_wp2_with fail
   go_ret2
   exact ⟨ret2_ii HK.out.symm HE.out.symm, Hbw1.out⟩
 ·have h1' : (e1 != 0) = true := by simpa using h1
  have HE : Hid (badErr vars cs pf = e1) := by show _ = _; unfold badErr; rw [if_pos (by rw [He1.out]; exact h1), He1.out]
  have HK : Hid (badK vars cs pf = 0) := by show _ = _; unfold badK; rw [if_pos (by rw [HE.out]; exact h1)]
  clear h1
  go_wp2_with fail
  go_ret2
  exact ⟨ret2_ii HK.out.symm HE.out.symm, Hbw1.out⟩
end
/- Walk: cnf.checkLits. -/
section
open Go.RowKit
def ckLits (c : List Int) (vars : Int) : Int := if c.any (badLit vars) then 5 else 0
end
/- Laws: append of whatever row. -/
section
open Go.RowKit
theorem own_form {w : World} {base : Nat} {e : TypeId} {v : Value} {n : Nat} {vs : List Value} (h : w.ownsRow base e 1 v n vs) : ∃ (A : Option Addr) (c : Nat), v = .slice A n c ∧ n ≤ c ∧ c ≤ maxLen ∧ Row w (fun k => base ≤ k ∧ k < w.heap.size) A n vs := by
 have h' := h
 rcases h'.2 with ⟨rfl, rfl⟩ | ⟨g, cap, cur, rfl, hb, hh, hc, hm, _⟩
 ·exact ⟨none, 0, rfl, qr _, Nat.zero_le _, by have := h.1; simpa using this, fun h => absurd h (by omega)⟩
 ·exact ⟨_, cap, rfl, hc, hm, row_of_own h (fun g' e => by simp [Value.ownBlock] at e; subst e; exact ⟨hb, lt_of_block hh⟩)⟩
theorem own_formK {w : World} {base : Nat} {e : TypeId} {size : Nat} {v : Value} {n : Nat} {vs : List Value} (h : w.ownsRow base e size v n vs) : ∃ (A : Option Addr) (c : Nat), v = .slice A n c ∧ n ≤ c ∧ c ≤ maxLen ∧ Row w (fun k => v.ownBlock = some k) A (n * size) vs := by
 rcases h.2 with ⟨rfl, rfl⟩ | ⟨g, cap, cur, rfl, hb, hh, hc, hm, hs, ht⟩
 ·exact ⟨none, 0, rfl, qr _, Nat.zero_le _, by have := h.1; simpa using this, fun h => absurd h (by omega)⟩
 ·refine ⟨_, cap, rfl, hc, hm, h.1, fun hn => ⟨g, 0, rfl, rfl, fun j hj => ?_⟩⟩
  have hj' : j < cur.size := by rw [hs]; exact ql hj (Nat.mul_le_mul_right _ hc)
  rw [cell_of_row w g _ _ _ (0, 0) hh, Nat.zero_add, ← ht, List.getElem?_take_of_lt hj]
  simp
theorem news_of_row {w : World} {S : Nat → Prop} {b o n : Nat} {vs : List Value} (h : Row w S (some ⟨b, o, none⟩) n vs) : ∀ j u, vs[j]? = some u → w.cell? ((⟨b, o, none⟩ : Addr).add j) = some u := by
 intro j u hj
 have hjn : j < n := by have := (List.getElem?_eq_some_iff.1 hj).1; rw [h.len] at this; exact this
 obtain ⟨b', o', e, _, hc⟩ := h.at_ hjn
 injection e with e; injection e with e1 e2
 subst e1 e2
 have hadd : (⟨b, o, none⟩ : Addr).add j = ⟨b, o + j, none⟩ := by unfold Addr.add; split <;> simp_all
 rw [hadd, hc, hj]
theorem Row.some_lit {w : World} {S : Nat → Prop} {A : Option Addr} {n : Nat} {vs : List Value} (h : Row w S A n vs) (hn : 0 < n) : ∃ b o, A = some ⟨b, o, none⟩ ∧ S b := by
 obtain ⟨b, o, e, hS, _⟩ := h.at_ hn
 exact ⟨b, o, e, hS⟩
theorem run_append_row {P : Program} (w : World) (base : Nat) (t ty e : TypeId) (i : TypeInfo) (z : Value) (bytes : Nat) (ht : P.underlying t = some (.slice e)) (hi : P.info? e = some i) (hz : i.zero = some z)
  (hsize : i.size = 1) (hby : i.bytes = bytes) (hzs : z.cells.size = 1) (v : Value) (n : Nat) (xs : List Value) (hown : w.ownsRow base e 1 v n xs)
  (A : Option Addr) (m c : Nat) (news : List Value) (S : Nat → Prop) (hrow : Row w S A m news) (h1 : ∀ u ∈ news, u.oneCell' = true)
  (h63 : n + m ≤ maxLen) (hbytes : (n + m) * bytes ≤ 140737488355328) (hbase : base ≤ w.heap.size) :
  ∃ v' w', (Builtin.append_ #[t, t] ty #[v, .slice A m c]).run P w = .ok v' w' ∧ w'.ownsRow base e 1 v' (n + m) (xs ++ news) ∧ w.grownBy w' v.ownBlock := by
 cases A with
 | none =>
  obtain rfl : m = 0 := by
   by_cases h0 : 0 < m
   ·obtain ⟨b, o, e, _⟩ := hrow.some_lit h0; cases e
   ·omega
  obtain rfl : news = [] := List.eq_nil_of_length_eq_zero hrow.len
  refine ⟨v, w, ?_, by simpa using hown, World.grownBy.refl _ _⟩
  rcases hown.2 with ⟨rfl, rfl⟩ | ⟨g, cap, cur, rfl, _, _, hnc, _⟩
  ·simp [Builtin.append_, run_underlying ht, sizeOf, typeInfo, hi, Builtin.lenOf, Builtin.firstCells]
  ·simp [Builtin.append_, run_underlying ht, sizeOf, typeInfo, hi, Builtin.lenOf, Builtin.firstCells, hnc, storeCells]
 | some ad =>
  have hnews : ∀ j u, news[j]? = some u → w.cell? (ad.add j) = some u := by
   intro j u hj
   have hjn : j < m := by have := (List.getElem?_eq_some_iff.1 hj).1; rw [hrow.len] at this; exact this
   obtain ⟨b, o, e, _⟩ := hrow.some_lit (by omega)
   injection e with e
   subst e
   exact news_of_row hrow j u hj
  obtain ⟨v', w', hr, h2, h3, _⟩ := run_append_own (P := P) w base t ty e i z 1 bytes ht hi hz hsize hby hzs (by decide) v n xs hown ad m c news (by rw [hrow.len, Nat.mul_one]) hnews h1 h63 hbytes hbase
  exact ⟨v', w', hr, h2, h3⟩
theorem wpList_append_row {P : Program} {w : World} {ops : Array Oper} {rest : List Oper} {o : Oper} {a : Act} {Q : Exit → Act → World → Prop} (hgd : o.guard = none) (s x : Operand) (t : TypeId)
  (ho : o.op = .call { callee := .builtin .append, args := #[s, x], argTypes := #[t, t] })
  (base : Nat) (e : TypeId) (i : TypeInfo) (z : Value) (bytes : Nat) (ht : P.underlying t = some (.slice e)) (hi : P.info? e = some i) (hz : i.zero = some z)
  (hsize : i.size = 1) (hby : i.bytes = bytes) (hzs : z.cells.size = 1) (v : Value) (n : Nat) (xs : List Value) (hs : a.eval s = v) (hown : w.ownsRow base e 1 v n xs)
  (A : Option Addr) (m c : Nat) (news : List Value) (hx : a.eval x = .slice A m c) (S : Nat → Prop) (hrow : Row w S A m news) (h1 : ∀ u ∈ news, u.oneCell' = true)
  (h63 : n + m ≤ maxLen) (hbytes : (n + m) * bytes ≤ 140737488355328) (hbase : base ≤ w.heap.size)
  (h : ∀ A' c' w', n + m ≤ c' → c' ≤ maxLen → w'.ownsRow base e 1 (.slice A' (n + m) c') (n + m) (xs ++ news) → w.grownBy w' v.ownBlock → wpList P ops Q rest (a.put o.dst (.slice A' (n + m) c')) w') : wpList P ops Q (o :: rest) a w := by
 refine wpList_plain hgd fun K hK => ?_
 obtain ⟨v', w', hr, h2, h3⟩ := run_append_row (P := P) w base t o.type e i z bytes ht hi hz hsize hby hzs v n xs hown A m c news S hrow h1 h63 hbytes hbase
 obtain ⟨A', c', rfl, h4, h5, _⟩ := own_form h2
 unfold Oper.wp execOp
 simp only [ho, resolve, invoke, builtin, Sem.run_bind, Sem.run_pure, Result.andThen_ok, List.map_toArray, List.map_cons, List.map_nil, hs, hx, hr]
 exact hK _ _ (h A' c' w' h4 h5 h2 h3)
end
/- Walk: cnf.Follows. -/
section
open Go.RowKit
def folErr (vars : Int) (cs : List (List Int)) (asm : List Int) : Int := if ckFormula vars cs ≠ 0 then ckFormula vars cs else if 400 < asm.length then 2 else ckLits asm vars
def folV (vars : Int) (cs : List (List Int)) (asm : List Int) : Option (List Int) := if folErr vars cs asm ≠ 0 then none else Qm.followsV vars.toNat cs asm
def folOk (vars : Int) (cs : List (List Int)) (asm : List Int) : Bool := (folV vars cs asm).isSome
def folL (vars : Int) (cs : List (List Int)) (asm : List Int) : List Int := match folV vars cs asm with | none => [] | some v => Qm.litsTo v vars.toNat
def FolPost (vars : Int) (cs : List (List Int)) (asm : List Int) (w : World) (e : Ending) (w' : World) : Prop :=
 ∃ (A : Option Addr) (n c : Nat), e = .returned (.tuple #[.slice A n c, .bool (folOk vars cs asm), .int .i64 (folErr vars cs asm)]) ∧ RInts w' (fun k => w.heap.size ≤ k ∧ k < w'.heap.size) A n (folL vars cs asm) ∧ n ≤ c ∧ c ≤ maxLen ∧ Below w.heap.size w w'
theorem FolPost.no {vars : Int} {cs : List (List Int)} {asm : List Int} {w w' : World} {E : Int} (h : folV vars cs asm = none) (he : folErr vars cs asm = E) (hb : Below w.heap.size w w') :
  FolPost vars cs asm w (.returned (.tuple #[.slice none 0 0, .bool false, .int .i64 E])) w' := by
 refine ⟨none, 0, 0, ?_, ?_, qr _, Nat.zero_le _, hb⟩
 ·unfold folOk; rw [h, he]; rfl
 ·unfold folL; rw [h]; exact RInts.nil_
end
/- Walks: slices.Clone over []int, []api.Clause. -/
section
open Go.RowKit


theorem clause_info : (Tryz.prog.info? 117).map (fun i => (i.zero, i.size, i.bytes)) = some (some (.slice none 0 0), 1, 24) := by kernel_rfl
theorem int_info' : (Tryz.prog.info? 3).map (fun i => (i.zero, i.size, i.bytes)) = some (some (.int .i64 0), 1, 8) := by kernel_rfl
def ClonePost (w : World) (E : TypeId) (n : Nat) (vs : List Value) (e : Ending) (w' : World) : Prop :=
 ∃ (A : Option Addr) (c : Nat), e = .returned (.slice A n c) ∧ n ≤ c ∧ c ≤ maxLen ∧ w'.ownsRow w.heap.size E 1 (.slice A n c) n vs ∧ Below w.heap.size w w'
set_option maxRecDepth 100000 in
set_option maxHeartbeats 1000000 in
theorem cloneInts_any (A : Option Addr) (n c : Nat) (vs : List Value) (w : World) (S : Nat → Prop) (hr : Row w S A n vs) (hone : ∀ u ∈ vs, u.oneCell' = true) (hS : ∀ k, S k → k < w.heap.size) (hn : n * 8 ≤ 140737488355328) :
  Calls Tryz.prog 39 #[.slice A n c] w (ClonePost w 3 n vs) := by
 obtain ⟨i0, hi, hz0, hz1, hz2⟩ := info_parts int_info'
 have q : ∀ (w : World) (a : Option Addr) (n c n' c' : Nat), (binOp .eql 27 (.slice a n c) (.slice none n' c')).run Tryz.prog w = .ok (.bool a.isNone) w := fun w a n c n' c' => Lib.run_eql_slice_nil w _ _ a n c n' c' Tryz.underlying27
 have Hr := qh hr; have Hone := qh hone
 clear hr hone
 by_cases hA : A = none
 ·subst hA
  obtain rfl : n = 0 := by
   by_cases h0 : 0 < n
   ·obtain ⟨b, o, e, _⟩ := Hr.out.some_lit h0; cases e
   ·omega
  obtain rfl : vs = [] := List.eq_nil_of_length_eq_zero Hr.out.len
  go_enter Tryz.func39, Tryz.ntmps39
  go_wp2_with fail
  go_ret
  exact ⟨none, 0, rfl, qr _, Nat.zero_le _, World.ownsRow_nil _ _ _ _, Below.refl _ _⟩
 ·obtain ⟨ad, rfl⟩ : ∃ ad, A = some ad := by cases A with | none => exact absurd rfl hA | some a => exact ⟨a, rfl⟩
  clear hA
  have hb0 : Below w.heap.size w (w.alloc (.cells #[] 3)) := (Below.refl _ _).alloc (qr _) _
  have hnews : ∀ j u, vs[j]? = some u → (w.alloc (.cells #[] 3)).cell? (ad.add j) = some u := by
   intro j u hj
   have hjn : j < n := by have := (List.getElem?_eq_some_iff.1 hj).1; rw [Hr.out.len] at this; exact this
   obtain ⟨b, o, e, _⟩ := Hr.out.some_lit (by omega)
   injection e with e
   subst e
   exact news_of_row (Hr.out.below hb0 hS) j u hj
  have Hnews := qh hnews; clear hnews hb0
  have Hl := qh Hr.out.len
  go_enter Tryz.func39, Tryz.ntmps39
  go_wp2_with (at_builtin; refine wpList_append_own _ rfl _ _ 27 rfl w.heap.size 3 i0 (.int .i64 0) 1 8 Tryz.underlying27 hi hz0 hz1 hz2 rfl (by decide) _ _ _ rfl (World.ownsRow_made w #[] 0 (qr _) (Nat.zero_le _) rfl) ad n c vs rfl ?c1 Hnews.out Hone.out ?c3 ?c4 ?c5 ?_)
  case c1 => rw [Hl.out, Nat.mul_one]
  case c3 => unfold maxLen; omega
  case c4 => omega
  case c5 => simp
  intro v' w1 hown hgrow hnil
  go_wp2_with fail
  go_ret
  have hown' : w1.ownsRow w.heap.size 3 1 v' n vs := by simpa using hown
  obtain ⟨A', c', rfl, h1, h2, _⟩ := own_form hown'
  exact ⟨A', c', rfl, h1, h2, hown', ((Below.refl _ w).alloc (qr _) _).grown hgrow (by simp) (by intro k hk; simp [Value.ownBlock] at hk; omega)⟩
set_option maxRecDepth 100000 in
set_option maxHeartbeats 1000000 in
theorem cloneVals_any (A : Option Addr) (n c : Nat) (vs : List Value) (w : World) (S : Nat → Prop) (hr : Row w S A n vs) (hone : ∀ u ∈ vs, u.oneCell' = true) (hS : ∀ k, S k → k < w.heap.size) (hn : n * 8 ≤ 140737488355328) :
  Calls Tryz.prog 95 #[.slice A n c] w (ClonePost w 3 n vs) := by
 obtain ⟨i0, hi, hz0, hz1, hz2⟩ := info_parts int_info'
 have q : ∀ (w : World) (a : Option Addr) (n c n' c' : Nat), (binOp .eql 113 (.slice a n c) (.slice none n' c')).run Tryz.prog w = .ok (.bool a.isNone) w := fun w a n c n' c' => Lib.run_eql_slice_nil w _ _ a n c n' c' Tryz.underlying113
 have Hr := qh hr; have Hone := qh hone
 clear hr hone
 by_cases hA : A = none
 ·subst hA
  obtain rfl : n = 0 := by
   by_cases h0 : 0 < n
   ·obtain ⟨b, o, e, _⟩ := Hr.out.some_lit h0; cases e
   ·omega
  obtain rfl : vs = [] := List.eq_nil_of_length_eq_zero Hr.out.len
  go_enter Tryz.func95, Tryz.ntmps95
  go_wp2_with fail
  go_ret
  exact ⟨none, 0, rfl, qr _, Nat.zero_le _, World.ownsRow_nil _ _ _ _, Below.refl _ _⟩
 ·obtain ⟨ad, rfl⟩ : ∃ ad, A = some ad := by cases A with | none => exact absurd rfl hA | some a => exact ⟨a, rfl⟩
  clear hA
  have hb0 : Below w.heap.size w (w.alloc (.cells #[] 3)) := (Below.refl _ _).alloc (qr _) _
  have hnews : ∀ j u, vs[j]? = some u → (w.alloc (.cells #[] 3)).cell? (ad.add j) = some u := by
   intro j u hj
   have hjn : j < n := by have := (List.getElem?_eq_some_iff.1 hj).1; rw [Hr.out.len] at this; exact this
   obtain ⟨b, o, e, _⟩ := Hr.out.some_lit (by omega)
   injection e with e
   subst e
   exact news_of_row (Hr.out.below hb0 hS) j u hj
  have Hnews := qh hnews; clear hnews hb0
  have Hl := qh Hr.out.len
  go_enter Tryz.func95, Tryz.ntmps95
  go_wp2_with (at_builtin; refine wpList_append_own _ rfl _ _ 113 rfl w.heap.size 3 i0 (.int .i64 0) 1 8 Tryz.underlying113 hi hz0 hz1 hz2 rfl (by decide) _ _ _ rfl (World.ownsRow_made w #[] 0 (qr _) (Nat.zero_le _) rfl) ad n c vs rfl ?c1 Hnews.out Hone.out ?c3 ?c4 ?c5 ?_)
  case c1 => rw [Hl.out, Nat.mul_one]
  case c3 => unfold maxLen; omega
  case c4 => omega
  case c5 => simp
  intro v' w1 hown hgrow hnil
  go_wp2_with fail
  go_ret
  have hown' : w1.ownsRow w.heap.size 3 1 v' n vs := by simpa using hown
  obtain ⟨A', c', rfl, h1, h2, _⟩ := own_form hown'
  exact ⟨A', c', rfl, h1, h2, hown', ((Below.refl _ w).alloc (qr _) _).grown hgrow (by simp) (by intro k hk; simp [Value.ownBlock] at hk; omega)⟩
end
/- Lists of rows of ints by their headers: side by side. -/
section
open Go.RowKit
def hd (h : Option Addr × Nat × Nat) : Value := Value.slice h.1 h.2.1 h.2.2
def Heads (w : World) (S : Nat → Prop) (hs : List (Option Addr × Nat × Nat)) (cs : List (List Int)) : Prop :=
 cs.length = hs.length ∧ ∀ (j : Nat) (h : Option Addr × Nat × Nat) (c : List Int), hs[j]? = some h → cs[j]? = some c → RInts w S h.1 h.2.1 c ∧ h.2.1 ≤ h.2.2 ∧ h.2.2 ≤ maxLen
section
variable {w w' : World} {S S' : Nat → Prop} {A : Option Addr} {n : Nat} {cs ds : List (List Int)} {hs gs : List (Option Addr × Nat × Nat)}
theorem RClauses.open_ (h : RClauses w S A n cs) : ∃ hs, Row w S A n (hs.map hd) ∧ Heads w S hs cs := by
 obtain ⟨hs, hr, hl, hi⟩ := h
 exact ⟨hs, hr, by have := hr.len; simp at this; omega, hi⟩
theorem RClauses.of_ (hr : Row w S A n (hs.map hd)) (h : Heads w S hs cs) : RClauses w S A n cs := ⟨hs, hr, by have := hr.len; have := h.1; simp at *; omega, h.2⟩
theorem Heads.append (h : Heads w S hs cs) (g : Heads w S gs ds) : Heads w S (hs ++ gs) (cs ++ ds) := by
 refine ⟨by simp [h.1, g.1], fun j x c hx hc => ?_⟩
 by_cases hj : j < hs.length
 ·rw [List.getElem?_append_left hj] at hx
  rw [List.getElem?_append_left (by rw [h.1]; exact hj)] at hc
  exact h.2 j x c hx hc
 ·rw [List.getElem?_append_right (by omega)] at hx
  rw [List.getElem?_append_right (by rw [h.1]; omega), h.1] at hc
  exact g.2 _ x c hx hc
theorem Heads.one {A : Option Addr} {n c : Nat} {xs : List Int} (h : RInts w S A n xs) (hn : n ≤ c ∧ c ≤ maxLen) : Heads w S [(A, n, c)] [xs] := by
 refine ⟨rfl, fun j x y hx hy => ?_⟩
 match j with
 | 0 => simp at hx hy; subst hx hy; exact ⟨h, hn⟩
 | j + 1 => simp at hx
theorem Heads.nil_ : Heads w S [] [] := ⟨rfl, fun j x y hx _ => by simp at hx⟩
theorem Heads.below {B : Nat} (h : Heads w S hs cs) (hb : Below B w w') (hS : ∀ k, S k → k < B) : Heads w' S hs cs := ⟨h.1, fun j x c hx hc => ⟨(h.2 j x c hx hc).1.below hb hS, (h.2 j x c hx hc).2⟩⟩
theorem Heads.more (h : Heads w S hs cs) (hS : ∀ k, S k → S' k) : Heads w S' hs cs := ⟨h.1, fun j x c hx hc => ⟨(h.2 j x c hx hc).1.more hS, (h.2 j x c hx hc).2⟩⟩
theorem Heads.keep (h : Heads w S hs cs) (hk : ∀ p : Addr, S p.block → w'.cell? p = w.cell? p) : Heads w' S hs cs := ⟨h.1, fun j x c hx hc => ⟨(h.2 j x c hx hc).1.keep hk, (h.2 j x c hx hc).2⟩⟩
end
end
/- Lists of clauses by their headers: side by side. -/
section
open Go.RowKit
theorem int_one (xs : List Int) : ∀ u ∈ xs.map (Value.int .i64), u.oneCell' = true := by
 intro u hu; obtain ⟨x, _, rfl⟩ := List.mem_map.1 hu; rfl
end
/- Laws and walks: append of whatever row; slices.Grow of nil, slices.Concat of two. -/
section
open Go.RowKit


end
/- What a call may change: some blocks alone. -/
section
open Go.RowKit
structure Far (D : Nat → Prop) (w w' : World) : Prop where
 base : Below 0 w w'
 block : ∀ i, i < w.heap.size → ¬ D i → w'.heap[i]? = w.heap[i]?
section
variable {w w' w'' : World} {D D' : Nat → Prop} {S : Nat → Prop} {A : Option Addr} {n b : Nat}
theorem Far.size (h : Far D w w') : w.heap.size ≤ w'.heap.size := h.base.size
theorem Far.refl (D : Nat → Prop) (w : World) : Far D w w := ⟨Below.refl _ _, fun _ _ _ => rfl⟩
theorem Far.trans (h : Far D w w') (k : Far D' w' w'') (hD : ∀ i, i < w.heap.size → D' i → D i) : Far D w w'' :=
 ⟨h.base.trans k.base, fun i hi hn => (k.block i (ql hi h.size) (fun hd => hn (hD i hi hd))).trans (h.block i hi hn)⟩
theorem Far.of_below (D : Nat → Prop) (h : Below w.heap.size w w') : Far D w w' := ⟨h.mono (Nat.zero_le _), fun i hi _ => h.block i hi⟩
theorem Far.of_grown {row : Option Nat} (h : w.grownBy w' row) (hD : ∀ i, some i = row → D i) : Far D w w' :=
 ⟨below_of_grown h (Nat.zero_le _) (fun _ _ => Nat.zero_le _), fun i hi hn => h.block i hi (fun e => hn (hD i e))⟩
theorem Far.set_ (hb : D b) (i : Nat) (u : Value) : Far D w (w.setCell ⟨b, i, none⟩ u) :=
 ⟨(Below.refl 0 w).setCell (Nat.zero_le _) _, fun k _ hn => heap_setCell_other w _ k u (fun e => hn (by rw [show k = b from e.symm ▸ rfl]; exact hb))⟩
theorem Far.drew (h : Far D w w') : Far D w w'.drew := ⟨below_drewN h.base 1, h.block⟩
theorem Far.drewN (h : Far D w w') (k : Nat) : Far D w (w'.drewN k) := ⟨below_drewN h.base k, h.block⟩
theorem Far.mono (h : Far D w w') (hD : ∀ i, D i → D' i) : Far D' w w' := ⟨h.base, fun i hi hn => h.block i hi (fun hd => hn (hD i hd))⟩
theorem Far.below (h : Far D w w') {B : Nat} (hB : B ≤ w.heap.size) (hD : ∀ i, D i → B ≤ i) : Below B w w' :=
 ⟨h.base.os, h.base.tape, h.base.output, h.size, fun i hi => h.block i (ql hi hB) (fun hd => absurd (hD i hd) (by omega))⟩
theorem Far.whole {t : TypeId} {vs : List Value} (h : Far D w w') (hw : Whole w b t vs) (hb : ¬ D b) : Whole w' b t vs := (h.block b hw.lt hb).trans hw
theorem Far.cell (h : Far D w w') {p : Addr} (hp : p.block < w.heap.size) (hn : ¬ D p.block) : w'.cell? p = w.cell? p := World.cell?_of_block (h.block _ hp hn)
theorem Far.ints {xs : List Int} (h : Far D w w') (hr : RInts w S A n xs) (hS : ∀ k, S k → k < w.heap.size ∧ ¬ D k) : RInts w' S A n xs := hr.keep fun _ hp => h.cell (hS _ hp).1 (hS _ hp).2
theorem Far.bools {xs : List Bool} (h : Far D w w') (hr : RBools w S A n xs) (hS : ∀ k, S k → k < w.heap.size ∧ ¬ D k) : RBools w' S A n xs := Row.keep hr fun _ hp => h.cell (hS _ hp).1 (hS _ hp).2
theorem Far.clauses {cs : List (List Int)} (h : Far D w w') (hr : RClauses w S A n cs) (hS : ∀ k, S k → k < w.heap.size ∧ ¬ D k) : RClauses w' S A n cs := hr.keep fun _ hp => h.cell (hS _ hp).1 (hS _ hp).2
theorem Far.own {base : Nat} {e : TypeId} {size : Nat} {v : Value} {vs : List Value} (h : Far D w w') (ho : w.ownsRow base e size v n vs) (hv : ∀ g, v.ownBlock = some g → ¬ D g) : w'.ownsRow base e size v n vs := by
 rcases ho.2 with h0 | ⟨g, cap, cur, rfl, hb, hh, hc, hm, hs, ht⟩
 ·exact ⟨ho.1, .inl h0⟩
 ·exact ⟨ho.1, .inr ⟨g, cap, cur, rfl, hb, (h.block g (lt_of_block hh) (hv g rfl)).trans hh, hc, hm, hs, ht⟩⟩
theorem own_ne {base : Nat} {e t : TypeId} {size : Nat} {v : Value} {vs us : List Value} (ho : w.ownsRow base e size v n vs) (hw : Whole w b t us) (ht : t ≠ e) : v.ownBlock ≠ some b := by
 rcases ho.2 with ⟨rfl, _⟩ | ⟨g, cap, cur, rfl, _, hh, _⟩
 ·intro h; cases h
 ·intro h
  simp only [Value.ownBlock] at h
  injection h with h
  subst h
  unfold Whole at hw
  rw [hh] at hw
  injection hw with hw; injection hw with _ hw
  exact ht hw.symm
end
end
end Go.Proofs.YtedbhlgjcnnknaaGreatDoor
