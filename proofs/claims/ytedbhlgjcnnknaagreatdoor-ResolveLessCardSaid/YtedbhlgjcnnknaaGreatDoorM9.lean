/- Parts of the proof: walks and plain laws, side by side. -/
import Derived.Test.YtedbhlgjcnnknaaGreatDoorM8
import Derived.Test.YtedbhlgjcnnknaaGreatDoorM6
import Derived.Test.YtedbhlgjcnnknaaGreatDoorM3
import Derived.Test.YtedbhlgjcnnknaaGreatDoorM7
import Derived.Test.YtedbhlgjcnnknaaGreatDoorM2
import Derived.Test.YtedbhlgjcnnknaaGreatDoorM5
import Derived.Test.YtedbhlgjcnnknaaGreatDoorM1
import Derived.Maps.RangeWalk
import Derived.Maps.OwnSet
import Derived.WideKeyPair
import Derived.DeepKeys4
import Derived.Test.YtedbhlgjcnnknaaGreatDoorProg
import Derived.Deep.LoopGhost
import Derived.IntWalk
import Derived.Outline
set_option linter.unusedVariables false
set_option linter.unusedSimpArgs false
set_option linter.unusedSectionVars false
namespace Go.Proofs.YtedbhlgjcnnknaaGreatDoor
/- Walk: sat.Solve. -/
section
open Go.RowKit
theorem bool_one (xs : List Bool) : ∀ u ∈ xs.map Value.bool, u.oneCell' = true := by
 intro u hu; obtain ⟨x, _, rfl⟩ := List.mem_map.1 hu; rfl
def resOf (N : Nat) (cs : List (List Int)) (st : Nat) : Qm.Res := Qm.search cs (N + 1) st [] [] (Qm.zeroVals N)
def solveErr (vars : Int) (cs : List (List Int)) (steps : Int) : Int :=
 if ckFormula vars cs ≠ 0 then ckFormula vars cs else if steps < 1 ∨ 40000 < steps then 3 else match resOf vars.toNat cs steps.toNat with | .out => 8 | _ => 0
def solveM (vars : Int) (cs : List (List Int)) (steps : Int) : List Bool := if ckFormula vars cs ≠ 0 ∨ steps < 1 ∨ 40000 < steps then [] else match resOf vars.toNat cs steps.toNat with | .found m => m | _ => []
def solveP (vars : Int) (cs : List (List Int)) (steps : Int) : List (List Int) := if ckFormula vars cs ≠ 0 ∨ steps < 1 ∨ 40000 < steps then [] else match resOf vars.toNat cs steps.toNat with | .no _ pf => pf | _ => []
def SolvePost (vars : Int) (cs : List (List Int)) (steps : Int) (w : World) (e : Ending) (w' : World) : Prop :=
 ∃ (AM : Option Addr) (nM cM : Nat) (AP : Option Addr) (nP cP : Nat), e = .returned (.tuple #[.agg #[.slice AM nM cM, .slice AP nP cP], .int .i64 (solveErr vars cs steps)]) ∧
  RBools w' (fun k => w.heap.size ≤ k ∧ k < w'.heap.size) AM nM (solveM vars cs steps) ∧ (nM ≤ cM ∧ cM ≤ maxLen) ∧ RClauses w' (fun k => w.heap.size ≤ k ∧ k < w'.heap.size) AP nP (solveP vars cs steps) ∧ (nP ≤ cP ∧ cP ≤ maxLen) ∧ Below w.heap.size w w'
set_option maxRecDepth 100000 in
set_option maxHeartbeats 8000000 in
theorem solve_any (A : Option Addr) (n cap : Nat) (vars steps : Int) (cs : List (List Int)) (w : World) (S : Nat → Prop) (hS : ∀ k, S k → k < w.heap.size)
  (hr : RClauses w S A n cs) (hn : n ≤ cap ∧ cap ≤ maxLen) (hv : -9223372036854775808 ≤ vars) (hv' : vars ≤ 9223372036854775807) (hs : -9223372036854775808 ≤ steps) (hs' : steps ≤ 9223372036854775807) :
  Calls Tryz.prog 26 #[.agg #[.int .i64 vars, .slice A n cap], .int .i64 steps] w (SolvePost vars cs steps w) := by
 obtain ⟨k0, hkk, hk0, hk1, hk2⟩ := info_parts bool_info
 have Hk' := qh hkk; have Hk0 := qh hk0; have Hk1 := qh hk1; have Hk2 := qh hk2
 have Hr := qh hr; have Hn := qh hn
 clear hr hn hkk hk0 hk1 hk2
 go_enter Tryz.func26, Tryz.ntmps26
 go_wp2_with fail
 have hb0 : Below w.heap.size w ((w.alloc (.cells #[.int .i64 vars, .slice A n cap] 33)).alloc (.cells #[.slice none 0 0, .slice none 0 0] 59)) := ((Below.refl _ _).alloc (qr _) _).alloc (by simp) _
 refine (checkFormula_any A n cap cs vars _ S (Hr.out.below hb0 hS) (fun k hk => by have := hS k hk; simp; omega) (Nat.le_trans Hn.out.1 Hn.out.2) hv hv').mono ?_
 rintro e w1 ⟨rfl, hb1⟩
 have Hb1 := qh (hb0.trans (hb1.mono hb0.size))
 have hF1 : Whole w1 w.heap.size 33 [.int .i64 vars, .slice A n cap] := Whole.below ((Whole.new w _ _ _ rfl).alloc _) hb1 (by simp; omega)
 have hA1 : Whole w1 (w.heap.size + 1) 59 [.slice none 0 0, .slice none 0 0] := Whole.below (Whole.new _ _ _ [.slice none 0 0, .slice none 0 0] (by simp)) hb1 (by simp)
 have HF1 := qh hF1; have HA1 := qh hA1
 have hf0 := hF1.cell 0
 have hf1 := hF1.cell 1
 have ha0 := hA1.cell 0
 have ha1 := hA1.cell 1
 have haf0 := hA1.free 0
 have haf1 := hA1.free 1
 simp only [qgz, qgs] at hf0 hf1 ha0 ha1
 clear hb0 hb1 hF1 hA1
 generalize hck : ckFormula vars cs = E
 have Hck := qh hck; clear hck
 by_cases hE : E = 0
 ·subst hE
  by_cases hst : steps < 1 ∨ 40000 < steps
  ·have H1 : Hid (solveErr vars cs steps = 3) := by show _ = _; unfold solveErr; rw [if_neg (by rw [Hck.out]; simp), if_pos hst]
   have H2 : Hid (solveM vars cs steps = []) := by show _ = _; unfold solveM; rw [if_pos (.inr hst)]
   have H3 : Hid (solveP vars cs steps = []) := by show _ = _; unfold solveP; rw [if_pos (.inr hst)]
   have hc : decide (steps < 1) = true ∨ (decide (steps < 1) = false ∧ decide (40000 < steps) = true) := by
    by_cases h : steps < 1
    ·exact .inl (by simpa using h)
    ·exact .inr ⟨by simpa using h, by simp; omega⟩
   clear hst
   rcases hc with h | ⟨h, h'⟩
   all_goals
    go_wp2_with fail
    have hW := (HA1.out.set_ 0 (.slice none 0 0)).set_ 1 (.slice none 0 0)
    have hbz := (Hb1.out.setCell (p := ⟨w.heap.size + 1, 0, none⟩) (by simp) (.slice none 0 0)).setCell (p := ⟨w.heap.size + 1, 1, none⟩) (by simp) (.slice none 0 0)
    simp only [List.set_cons_succ, List.set_cons_zero] at hW
    generalize hwz : (World.setCell (World.setCell _ _ _) _ _) = wz at hW hbz ⊢
    have z0 := hW.cell 0
    have z1 := hW.cell 1
    simp only [qgz, qgs] at z0 z1
    refine bodyPost_ret (v := .tuple #[.agg #[_, _], .int .i64 _]) (by simp [results, Tryz.results26, go_sem, z0, z1]; exact ⟨⟨rfl, rfl⟩, rfl⟩) rfl ?_
    exact ⟨none, 0, 0, none, 0, 0, by rw [H1.out], by rw [H2.out]; exact Row.nil_, ⟨qr _, Nat.zero_le _⟩, by rw [H3.out]; exact RClauses.nil_, ⟨qr _, Nat.zero_le _⟩, hbz⟩
  ·obtain ⟨N, rfl, hN, hcl, hcs⟩ := ckFormula_ok Hck.out
   obtain ⟨st, rfl⟩ : ∃ st : Nat, steps = st := ⟨steps.toNat, by omega⟩
   have hst0 : 1 ≤ st ∧ st ≤ 40000 := by omega
   have hd1 : decide ((st : Int) < 1) = false := by simp; omega
   have hd2 : decide ((40000 : Int) < (st : Int)) = false := by simp; omega
   have H1 : Hid (solveErr (N : Int) cs (st : Int) = match resOf N cs st with | .out => 8 | _ => 0) := by show _ = _; unfold solveErr; rw [if_neg (by rw [Hck.out]; simp), if_neg hst]; simp
   have H2 : Hid (solveM (N : Int) cs (st : Int) = match resOf N cs st with | .found m => m | _ => []) := by show _ = _; unfold solveM; rw [if_neg (by rw [Hck.out]; simpa using hst)]; simp
   have H3 : Hid (solveP (N : Int) cs (st : Int) = match resOf N cs st with | .no _ pf => pf | _ => []) := by show _ = _; unfold solveP; rw [if_neg (by rw [Hck.out]; simpa using hst)]; simp
   have Hcs : Hid (∀ c ∈ cs, Qm.IsCl N c) := fun c hc => (hcs c hc).1
   have hmk := fun w => run_make_zeros N hN w
   have hww0 : w.heap.size < w1.heap.size := HF1.out.lt
   clear hst hcs
   go_wp2_with fail
   have hbs : Below w1.heap.size w1 ((w1.alloc (.cells #[.int .i64 (N : Int), .slice A n cap, .int .i64 (st : Int), .slice none 0 0, .slice none 0 0, .bool false] 125)).alloc (zeroObj N)) := ((Below.refl _ _).alloc (qr _) _).alloc (by simp) _
   have hS1 : ∀ k, S k → k < w1.heap.size := fun k hk => by have := hS k hk; have := Hb1.out.size; omega
   have hblk : SBlk ((w1.alloc (.cells #[.int .i64 (N : Int), .slice A n cap, .int .i64 (st : Int), .slice none 0 0, .slice none 0 0, .bool false] 125)).alloc (zeroObj N)) w1.heap.size (N : Int) A n cap (st : Int) (.slice none 0 0) (.slice none 0 0) false := (Whole.new w1 _ 125 [.int .i64 (N : Int), .slice A n cap, .int .i64 (st : Int), .slice none 0 0, .slice none 0 0, .bool false] rfl).alloc _
   have hss : SState (w1.heap.size + 1) w1.heap.size N A n cap cs S st (.slice none 0 0) [] [] ((w1.alloc (.cells #[.int .i64 (N : Int), .slice A n cap, .int .i64 (st : Int), .slice none 0 0, .slice none 0 0, .bool false] 125)).alloc (zeroObj N)).heap.size ((w1.alloc (.cells #[.int .i64 (N : Int), .slice A n cap, .int .i64 (st : Int), .slice none 0 0, .slice none 0 0, .bool false] 125)).alloc (zeroObj N)) :=
    ⟨hblk, World.ownsRow_nil _ _ _ _, fun g h => by simp [Value.ownBlock] at h, Heads.nil_, (Hr.out.below Hb1.out hS).below hbs hS1, qr _, by simp, fun k hk => by have := hS1 k hk; omega⟩
   have hzw : Whole ((w1.alloc (.cells #[.int .i64 (N : Int), .slice A n cap, .int .i64 (st : Int), .slice none 0 0, .slice none 0 0, .bool false] 125)).alloc (zeroObj N)) (w1.heap.size + 1) 3 ((Qm.zeroVals N).map (.int .i64)) := whole_zeros _ N _ (by simp)
   refine (from_any (w1.heap.size + 1) w1.heap.size N A n cap cs S hN Hn.out Hcs.out (by omega) (N + 1) st [] [] (.slice none 0 0) [] (Qm.zeroVals N) none (some ⟨w1.heap.size + 1, 0, none⟩) 0 0 (N + 1) _ (fun _ => False) (fun k => k = w1.heap.size + 1) hss (by omega) (by simp; omega) RInts.nil_ (fun _ h => absurd h id) (Nat.zero_le _) (fun n hn => by simp at hn)
    (Whole.ints (S := fun k => k = w1.heap.size + 1) hzw rfl (Qm.zeroVals_fine N).1) (fun k hk => by simp; omega) (Qm.zeroVals_fine N) (by rw [Qm.zeros_zeroVals]; omega)).mono ?_
   intro e w2 hpost
   clear hmk hd1 hd2
   have hres0 : Qm.search cs (N + 1) st [] [] (Qm.zeroVals N) = resOf N cs st := rfl
   rw [hres0] at hpost
   clear hres0 hss hzw hblk
   have hfar := hpost.1
   have hb12 : Below w1.heap.size w1 w2 := hbs.trans (hfar.below (B := w1.heap.size) (by simp; omega) (fun i h => by
    rcases h with h | h
    ·omega
    ·simp [Value.ownBlock] at h))
   have HA2 := qh (HA1.out.below hb12 HA1.out.lt)
   have Hb2 := qh (Hb1.out.trans (hb12.mono Hb1.out.size))
   have hw12 : w1.heap.size + 1 < w2.heap.size := by have := hfar.size; simp at this; omega
   have hww1 : w.heap.size + 1 < w1.heap.size := HA1.out.lt
   have hw12' : w1.heap.size < w2.heap.size := by omega
   clear hf0 hf1 ha0 ha1 haf0 haf1 hfar hb12 hbs
   have ha0 := HA2.out.cell 0
   have ha1 := HA2.out.cell 1
   have haf0 := HA2.out.free 0
   have haf1 := HA2.out.free 1
   simp only [qgz, qgs] at ha0 ha1
   generalize hr0 : resOf N cs st = r at *
   have Hr0 := qh hr0; clear hr0
   cases r with
   | out =>
    obtain ⟨_, rfl, sto, Po, hblk⟩ := hpost
    have hq5 := hblk.cell 5
    simp only [qgz, qgs] at hq5
    clear hblk
    go_wp2_with fail
    have hW := (HA2.out.set_ 0 (.slice none 0 0)).set_ 1 (.slice none 0 0)
    have hbz := (Hb2.out.setCell (p := ⟨w.heap.size + 1, 0, none⟩) (by simp) (.slice none 0 0)).setCell (p := ⟨w.heap.size + 1, 1, none⟩) (by simp) (.slice none 0 0)
    simp only [List.set_cons_succ, List.set_cons_zero] at hW
    generalize hwz : (World.setCell (World.setCell _ _ _) _ _) = wz at hW hbz ⊢
    have z0 := hW.cell 0
    have z1 := hW.cell 1
    simp only [qgz, qgs] at z0 z1
    refine bodyPost_ret (v := .tuple #[.agg #[_, _], .int .i64 _]) (by simp [results, Tryz.results26, go_sem, z0, z1]; exact ⟨⟨rfl, rfl⟩, rfl⟩) rfl ?_
    exact ⟨none, 0, 0, none, 0, 0, by rw [H1.out], by rw [H2.out]; exact Row.nil_, ⟨qr _, Nat.zero_le _⟩, by rw [H3.out]; exact RClauses.nil_, ⟨qr _, Nat.zero_le _⟩, hbz⟩
   | found m =>
    obtain ⟨_, rfl, sto, Po, M, cM, hblk, hbools, hcM, hcM', _⟩ := hpost
    have hq5 := hblk.cell 5
    have hq4 := hblk.cell 4
    simp only [qgz, qgs] at hq5 hq4
    have Hbools := qh hbools
    have hml : m.length ≤ 400 := by
     have := Qm.search_found_len Hcs.out _ _ _ _ _ (Qm.zeroVals_fine N) Hr0.out
     omega
    clear hblk hbools
    go_wp2_with (at_builtin; refine wpList_append_row rfl _ _ 40 rfl w2.heap.size 4 k0 (.bool false) 1 Tryz.underlying40 Hk'.out Hk0.out Hk1.out Hk2.out rfl _ 0 [] rfl (World.ownsRow_made w2 #[] 0 (qr _) (Nat.zero_le _) rfl) M m.length cM (m.map .bool) rfl (fun k => k < w2.heap.size) (Row.below (Row.more Hbools.out (fun k hk => hk.2.1)) ((Below.refl w2.heap.size w2).alloc (qr _) _) (fun k hk => hk)) (bool_one m) (by unfold maxLen; omega) (by omega) (by simp) ?_)
    intro A5 c5 w5 hn5 hc5 hown5 hg5
    have hb25 : Below w2.heap.size w2 w5 := ((Below.refl _ _).alloc (qr _) _).trans (below_of_grown hg5 (by simp) (fun k e => by simp [Value.ownBlock] at e; omega))
    have hA5 := HA2.out.below hb25 HA2.out.lt
    have ha0 := hA5.cell 0
    have ha1 := hA5.cell 1
    have haf0 := hA5.free 0
    have haf1 := hA5.free 1
    simp only [qgz, qgs] at ha0 ha1
    obtain ⟨_, _, e5, _, _, hrow5⟩ := own_form hown5
    injection e5 with e51 e52 e53
    subst e51
    have hrow5' : RBools w5 (fun k => w2.heap.size ≤ k ∧ k < w5.heap.size) A5 m.length m := by
     have := hrow5
     first | exact this | (simp only [Nat.zero_add, List.nil_append] at this; exact this)
    have Hrow5 := qh hrow5'
    try simp only [Nat.zero_add] at hn5
    have Hn5 : Hid (m.length ≤ c5 ∧ c5 ≤ maxLen) := ⟨hn5, hc5⟩
    have Hb5 := qh (Hb2.out.trans (hb25.mono Hb2.out.size))
    have Hb25 := qh hb25
    have hw25 : w2.heap.size ≤ w5.heap.size := hb25.size
    clear hq4 hq5 hown5 hg5 hrow5 hrow5' hn5 hc5 hb25 e52 e53
    have HA5 := qh hA5; clear hA5
    go_wp2_with fail
    have hW := (HA5.out.set_ 0 (.slice A5 m.length c5)).set_ 1 (.slice none 0 0)
    have hbz := (Hb5.out.setCell (p := ⟨w.heap.size + 1, 0, none⟩) (by simp) (.slice A5 m.length c5)).setCell (p := ⟨w.heap.size + 1, 1, none⟩) (by simp) (.slice none 0 0)
    have hfz : Far (fun i => i = w.heap.size + 1) w5 ((w5.setCell ⟨w.heap.size + 1, 0, none⟩ (.slice A5 m.length c5)).setCell ⟨w.heap.size + 1, 1, none⟩ (.slice none 0 0)) := (Far.set_ (D := fun i => i = w.heap.size + 1) rfl 0 _).trans (Far.set_ (D := fun i => i = w.heap.size + 1) rfl 1 _) (fun i _ h => h)
    have hrz := (hfz.bools Hrow5.out (fun k hk => ⟨hk.2, by omega⟩)).more (S' := fun k => w.heap.size ≤ k ∧ k < w5.heap.size) (fun k hk => ⟨by omega, hk.2⟩)
    have hszz := hfz.size
    clear hfz
    simp only [List.set_cons_succ, List.set_cons_zero] at hW
    generalize hwz : (World.setCell (World.setCell _ _ _) _ _) = wz at hW hbz hrz hszz ⊢
    have z0 := hW.cell 0
    have z1 := hW.cell 1
    simp only [qgz, qgs] at z0 z1
    refine bodyPost_ret (v := .tuple #[.agg #[_, _], .int .i64 _]) (by simp [results, Tryz.results26, go_sem, z0, z1]; exact ⟨⟨rfl, rfl⟩, rfl⟩) rfl ?_
    exact ⟨A5, m.length, c5, none, 0, 0, by rw [H1.out], by rw [H2.out]; exact hrz.more (fun k hk => ⟨hk.1, by omega⟩), Hn5.out, by rw [H3.out]; exact RClauses.nil_, ⟨qr _, Nat.zero_le _⟩, hbz⟩
   | no st' pf =>
    obtain ⟨_, rfl, Po, hso, hst, _⟩ := hpost
    obtain ⟨AP, cP, rfl, hcP, hcP', hrowP⟩ := own_form hst.own
    have hq5 := hst.blk.cell 5
    have hq3 := hst.blk.cell 3
    simp only [qgz, qgs] at hq5 hq3
    have Hst := qh hst; have HcP : Hid (pf.length ≤ cP ∧ cP ≤ maxLen) := ⟨hcP, hcP'⟩; have HrP := qh hrowP
    clear hst hcP hcP' hrowP
    go_wp2_with fail
    have hW := (HA2.out.set_ 0 (.slice none 0 0)).set_ 1 (.slice AP pf.length cP)
    have hbz := (Hb2.out.setCell (p := ⟨w.heap.size + 1, 0, none⟩) (by simp) (.slice none 0 0)).setCell (p := ⟨w.heap.size + 1, 1, none⟩) (by simp) (.slice AP pf.length cP)
    have hfz : Far (fun i => i = w.heap.size + 1) w2 ((w2.setCell ⟨w.heap.size + 1, 0, none⟩ (.slice none 0 0)).setCell ⟨w.heap.size + 1, 1, none⟩ (.slice AP pf.length cP)) := (Far.set_ (D := fun i => i = w.heap.size + 1) rfl 0 _).trans (Far.set_ (D := fun i => i = w.heap.size + 1) rfl 1 _) (fun i _ h => h)
    have hrz : RClauses w2 (fun k => w1.heap.size + 1 ≤ k ∧ k < w2.heap.size) AP pf.length pf := RClauses.of_ (hs := hso) (HrP.out) (Hst.out.heads.more (fun k hk => ⟨hk.1, hk.2.1⟩))
    have hrz' := (hfz.clauses hrz (fun k hk => ⟨hk.2, by omega⟩)).more (S' := fun k => w.heap.size ≤ k ∧ k < w2.heap.size) (fun k hk => ⟨by omega, hk.2⟩)
    have hszz := hfz.size
    clear hfz hrz
    simp only [List.set_cons_succ, List.set_cons_zero] at hW
    generalize hwz : (World.setCell (World.setCell _ _ _) _ _) = wz at hW hbz hrz' hszz ⊢
    have z0 := hW.cell 0
    have z1 := hW.cell 1
    simp only [qgz, qgs] at z0 z1
    refine bodyPost_ret (v := .tuple #[.agg #[_, _], .int .i64 _]) (by simp [results, Tryz.results26, go_sem, z0, z1]; exact ⟨⟨rfl, rfl⟩, rfl⟩) rfl ?_
    exact ⟨none, 0, 0, AP, pf.length, cP, by rw [H1.out], by rw [H2.out]; exact Row.nil_, ⟨qr _, Nat.zero_le _⟩, by rw [H3.out]; exact hrz'.more (fun k hk => ⟨hk.1, by omega⟩), HcP.out, hbz⟩
 ·have hE1 : (E != 0) = true := by simpa using hE
  have H1 : Hid (solveErr vars cs steps = E) := by show _ = _; unfold solveErr; rw [if_pos (by rw [Hck.out]; exact hE), Hck.out]
  have H2 : Hid (solveM vars cs steps = []) := by show _ = _; unfold solveM; rw [if_pos (.inl (by rw [Hck.out]; exact hE))]
  have H3 : Hid (solveP vars cs steps = []) := by show _ = _; unfold solveP; rw [if_pos (.inl (by rw [Hck.out]; exact hE))]
  clear hE
  go_wp2_with fail
  have hW := (HA1.out.set_ 0 (.slice none 0 0)).set_ 1 (.slice none 0 0)
  have hbz := (Hb1.out.setCell (p := ⟨w.heap.size + 1, 0, none⟩) (by simp) (.slice none 0 0)).setCell (p := ⟨w.heap.size + 1, 1, none⟩) (by simp) (.slice none 0 0)
  simp only [List.set_cons_succ, List.set_cons_zero] at hW
  generalize hwz : (World.setCell (World.setCell _ _ _) _ _) = wz at hW hbz ⊢
  have z0 := hW.cell 0
  have z1 := hW.cell 1
  simp only [qgz, qgs] at z0 z1
  refine bodyPost_ret (v := .tuple #[.agg #[_, _], .int .i64 _]) (by simp [results, Tryz.results26, go_sem, z0, z1]; exact ⟨⟨rfl, rfl⟩, rfl⟩) rfl ?_
  exact ⟨none, 0, 0, none, 0, 0, by rw [H1.out], by rw [H2.out]; exact Row.nil_, ⟨qr _, Nat.zero_le _⟩, by rw [H3.out]; exact RClauses.nil_, ⟨qr _, Nat.zero_le _⟩, hbz⟩
end
/- Plain: what RupMore says of badErr, badK, refOk. -/
section
open Go.RowKit
theorem badFrom_neg {N : Nat} {cs pf : List (List Int)} : ∀ (g k : Nat), k + g = pf.length → (badFrom N cs pf k g < 0 ↔ ∀ j, k ≤ j → j < pf.length → Qm.rupStep N (cs ++ pf.take j) (pf.getD j []) = true) := by
 intro g
 induction g with
 | zero => intro k hk; exact ⟨fun _ j h1 h2 => by omega, fun _ => by unfold badFrom; omega⟩
 | succ g ih =>
  intro k hk
  unfold badFrom
  by_cases h : Qm.rupStep N (cs ++ pf.take k) (pf.getD k []) = true
  ·rw [if_pos h, ih (k + 1) (by omega)]
   constructor
   ·intro h2 j h3 h4
    by_cases e : j = k
    ·rw [e]; exact h
    ·exact h2 j (by omega) h4
   ·intro h2 j h3 h4; exact h2 j (by omega) h4
  ·rw [if_neg h]
   constructor
   ·intro h2; omega
   ·intro h2; exact absurd (h2 k (qr _) (by omega)) h
theorem badOf_neg {N : Nat} {cs pf : List (List Int)} : badOf N cs pf < 0 ↔ Qm.Steps N cs pf := by
 unfold badOf
 rw [badFrom_neg pf.length 0 (by omega)]
 exact ⟨fun h k hk => h k (Nat.zero_le _) hk, fun h k _ hk => h k hk⟩
theorem refOk_parts {N : Nat} {cs pf : List (List Int)} (hE : badErr (N : Int) cs pf = 0) : refOk (N : Int) cs pf = true ↔ Qm.Steps N cs pf ∧ 0 < pf.length ∧ (pf.getD (pf.length - 1) []).length = 0 := by
 have hk : badK (N : Int) cs pf = badOf N cs pf := by unfold badK; rw [if_neg (by rw [hE]; simp)]; simp
 unfold refOk
 rw [hk, hE]
 simp only [Bool.and_eq_true, decide_eq_true_eq, badOf_neg]
 exact ⟨fun h => ⟨h.1.1.2, h.1.2, h.2⟩, fun h => ⟨⟨⟨trivial, h.1⟩, h.2.1⟩, h.2.2⟩⟩
theorem ckClauses_zero {cs : List (List Int)} {vars : Int} (h : ∀ c ∈ cs, ckClause c vars = 0) : ckClauses cs vars = 0 :=
 ckClauses_good (k := cs.length) (fun c hc => h c (List.mem_of_mem_take hc)) rfl
end
/- Walks: cnf.abs, the closure of cnf.Holds, cnf.Holds. -/
section
open Go.RowKit


end
/- Walk: cnf.Holds. -/
section
open Go.RowKit
end
/- Plain: what Solve tells: the least model, or a proof. -/
section
open Go.RowKit
theorem ckClause_of {N : Nat} {c : List Int} (h : Qm.IsCl N c) (hl : c.length ≤ 60) : ckClause c (N : Int) = 0 := by
 unfold ckClause
 rw [if_neg (by omega), if_neg]
 intro h2
 obtain ⟨x, hx, hb⟩ := List.any_eq_true.1 h2
 have h3 := h x hx
 have h4 := h3.1
 have h5 := h3.2
 rw [badLit_no (by omega)] at hb
 cases hb
theorem resOf_eq {N : Nat} {cs : List (List Int)} (hc : ∀ c ∈ cs, Qm.IsCl N c) (st : Nat) : resOf N cs st = Qm.searchR N cs (N + 1) st [] [] :=
 Qm.search_eq hc _ _ _ _ _ (fun n hn => by simp at hn) rfl
theorem solveErr_ok {vars : Int} {cs : List (List Int)} {steps : Int} (hE : solveErr vars cs steps = 0) : ∃ N st : Nat, vars = N ∧ steps = st ∧ N ≤ 400 ∧ st ≤ 40000 ∧ ckFormula vars cs = 0 ∧ cs.length ≤ 4000 ∧ (∀ c ∈ cs, Qm.IsCl N c ∧ c.length ≤ 60) ∧ resOf N cs st ≠ .out ∧
  solveM vars cs steps = (match resOf N cs st with | .found m => m | _ => []) ∧ solveP vars cs steps = (match resOf N cs st with | .no _ pf => pf | _ => []) := by
 unfold solveErr at hE
 split at hE
 ·rename_i h; exact absurd hE h
 ·rename_i h
  have hck : ckFormula vars cs = 0 := by simpa using h
  obtain ⟨N, rfl, hN, hcl, hcs⟩ := ckFormula_ok hck
  split at hE
  ·omega
  ·rename_i h2
   obtain ⟨st, rfl⟩ : ∃ st : Nat, steps = st := ⟨steps.toNat, by omega⟩
   simp only [Int.toNat_natCast] at hE
   refine ⟨N, st, rfl, rfl, hN, by omega, hck, hcl, hcs, ?_, ?_, ?_⟩
   ·intro e; rw [e] at hE; simp at hE
   ·unfold solveM; rw [if_neg (by rw [hck]; simpa using h2)]; simp only [Int.toNat_natCast] <;> (cases resOf N cs st <;> rfl)
   ·unfold solveP; rw [if_neg (by rw [hck]; simpa using h2)]; simp only [Int.toNat_natCast] <;> (cases resOf N cs st <;> rfl)
def TellsAll (N : Nat) (vars : Int) (cs : List (List Int)) (M : List Bool) (P : List (List Int)) : Prop :=
 (P = [] ∧ M.length = N ∧ Qm.holdsF M cs = true ∧ ∀ m' : List Bool, m'.length = N → Qm.holdsF m' cs = true → Qm.LexLe M m') ∨
 (0 < P.length ∧ M = [] ∧ P.length ≤ 40000 ∧ refOk vars cs P = true ∧ badErr vars cs P = 0 ∧ ∀ m' : List Bool, m'.length = N → Qm.holdsF m' cs = true → False)
theorem solve_tells {vars : Int} {cs : List (List Int)} {steps : Int} (hE : solveErr vars cs steps = 0) : ∃ N : Nat, vars = N ∧ N ≤ 400 ∧ ckFormula vars cs = 0 ∧ cs.length ≤ 4000 ∧ (∀ c ∈ cs, Qm.IsCl N c ∧ c.length ≤ 60) ∧ TellsAll N vars cs (solveM vars cs steps) (solveP vars cs steps) := by
 obtain ⟨N, st, rfl, rfl, hN, hst, hck, hcl, hcs, hne, hM, hP⟩ := solveErr_ok hE
 have hc : ∀ c ∈ cs, Qm.IsCl N c := fun c h => (hcs c h).1
 refine ⟨N, rfl, hN, hck, hcl, hcs, ?_⟩
 rw [hM, hP]
 have ht := Qm.searchR_tells hc (N + 1) st [] [] (fun n hn => by simp at hn)
 have hp := Qm.searchR_proves hc (N + 1) st [] [] (fun n hn => by simp at hn) (fun k hk => by simp at hk) (fun c h => by simp at h)
 rw [← resOf_eq hc st] at ht hp
 cases hr : resOf N cs st with
 | out => exact absurd hr hne
 | found m =>
  rw [hr] at ht
  obtain ⟨h1, h2, _, h4⟩ := ht
  exact .inl ⟨rfl, h1, h2, fun m' a b => h4 m' a b (fun n hn => by simp at hn)⟩
 | no st' pf =>
  rw [hr] at ht hp
  obtain ⟨p1, p2, p3, p4, p5⟩ := hp
  have hlen : 0 < pf.length := by
   cases pf with
   | nil => simp at p5
   | cons a l => simp
  have hl4 : ¬ 40000 < pf.length := by
   simp only [List.length_nil] at p3
   omega
  have hbe : badErr (N : Int) cs pf = 0 := by
   unfold badErr
   rw [if_neg (by rw [hck]; simp)]
   unfold ckProof
   rw [if_neg (by omega), if_neg hl4]
   exact ckClauses_zero fun c h => ckClause_of (p4 c h).1 (p4 c h).2
  refine .inr ⟨hlen, rfl, (by show pf.length ≤ 40000; omega), ?_, hbe, fun m' a b => ht m' a b (fun n hn => by simp at hn)⟩
  rw [refOk_parts hbe]
  refine ⟨p1, hlen, ?_⟩
  rw [List.getLast?_eq_getElem?] at p5
  rw [List.getD_eq_getElem?_getD, p5]; rfl
end
/- The search over a wish's formula takes at most twice as many steps as there are choices' models. No program in sight. -/
section
open Go.RowKit Qm

theorem enc_formula {ps : List Pk} {v : Ws} (h : ckWish ps v = 0) : ckFormula ((encW ps v).vars : Int) (encW ps v).cls = 0 := by
 have E := encW_ok h
 have h1 := E.n400
 unfold ckFormula
 rw [if_neg (by omega), if_neg (by have := E.len; omega)]
 exact ckClauses_zero fun c hc => ckClause_of (E.cl c hc).1 (E.cl c hc).2
theorem pow_le {M : Nat} (h : M ≤ 14) : 1 ≤ 2 ^ (M + 1) ∧ 2 ^ (M + 1) ≤ 32768 := by
 refine ⟨Nat.one_le_two_pow, ?_⟩
 have := Nat.pow_le_pow_right (n := 2) (by decide) (show M + 1 ≤ 15 by omega)
 omega
end
/- Plain: a model forbidden; the least model again. -/
section
open Go.RowKit
end
/-
 A map from ints to bools all of whose entries hold: a set of ints. What the operations on it give.
-/
section
open Go.RowKit

section
variable {P : Program} {w w' : World} {b m : Nat} {K : Int → Bool}
theorem wf_of {x : Int} (h1 : -9223372036854775808 ≤ x) (h2 : x ≤ 9223372036854775807) : (Lit.int .i64 x).wf = true := WalkArith.wf_i64 (by omega)
end
end
/- A map from pairs of ints to ints, by what it holds (0 where it holds nothing). What the operations on it give. -/
section
open Go.RowKit Go.WideMaps

def keyL (x y : Int) : Lit := .string (keyBytes [.int .i64 x, .int .i64 y])
structure PairKey (P : Program) (k : TypeId) : Prop where
 law : Maps.Keyed P k
 arr : ArrKey P k 3 2
 i : P.underlying 3 = some (.int .i64)
 sz : ∃ m, P.types.size = m + 1
section
variable {P : Program} {w w' : World} {k : TypeId} {b m : Nat} {K : Int → Int → Int}
theorem PairKey.key (h : PairKey P k) {x y : Int} (hx : (Lit.int .i64 x).wf = true) (hy : (Lit.int .i64 y).wf = true) : keyOf P k (.agg #[.int .i64 x, .int .i64 y]) = some (keyL x y) := keyOf_pair h.arr h.i h.sz hx hy
theorem PairKey.ne (h : PairKey P k) {x y n f : Int} (hx : (Lit.int .i64 x).wf = true) (hy : (Lit.int .i64 y).wf = true) (hn : (Lit.int .i64 n).wf = true) (hf : (Lit.int .i64 f).wf = true) (hne : ¬ (x = n ∧ y = f)) : keyL x y ≠ keyL n f := by
 intro e
 have h1 := h.key hx hy
 rw [e] at h1
 have h2 := h.law.inj h1 (h.key hn hf)
 injection h2 with h2; injection h2 with h2
 simp only [List.cons.injEq, Value.int.injEq, true_and, and_true] at h2
 exact hne h2
def PairMap (P : Program) (k : TypeId) (w : World) (b : Nat) (K : Int → Int → Int) (m : Nat) : Prop :=
 ∃ D : DataW Unit, w.ownsMap P k (plainElem P 3) b m D ∧ ∀ x y : Int, (Lit.int .i64 x).wf = true → (Lit.int .i64 y).wf = true → D.atKey (keyL x y) (.lit (.int .i64 0)) = .lit (.int .i64 (K x y))
theorem PairMap.made (P : Program) (k : TypeId) (w : World) : PairMap P k (w.alloc (.map #[] 0)) w.heap.size (fun _ _ => 0) 0 :=
 ⟨.map [], World.ownsMap_made w P k _, fun _ _ _ _ => rfl⟩
theorem PairMap.kept {row : Option Nat} (h : PairMap P k w b K m) (hg : w.grownBy w' row) (hne : some b ≠ row) : PairMap P k w' b K m := by
 obtain ⟨D, h1, h2⟩ := h
 exact ⟨D, h1.kept hg hne, h2⟩
theorem PairMap.block (h : PairMap P k w b K m) (hb : w'.heap[b]? = w.heap[b]?) : PairMap P k w' b K m := by
 obtain ⟨D, ⟨es, clock, h1, r⟩, h2⟩ := h
 exact ⟨D, ⟨es, clock, hb.trans h1, r⟩, h2⟩
theorem PairMap.lt (h : PairMap P k w b K m) : b < w.heap.size := by obtain ⟨D, h1, _⟩ := h; exact h1.lt
theorem PairMap.look (h : PairMap P k w b K m) (hk : PairKey P k) (hz : (zeroValue 3).run P w = .ok (.int .i64 0) w) {t : TypeId} (ht : P.underlying t = some (.map k 3)) {x y : Int} (hx : (Lit.int .i64 x).wf = true) (hy : (Lit.int .i64 y).wf = true) :
  (Instr.lookup t (.map (some b)) (.agg #[.int .i64 x, .int .i64 y]) false).run P w = .ok (.int .i64 (K x y)) w := by
 obtain ⟨D, h1, h3⟩ := h
 obtain ⟨v, ps, hrun, hv⟩ := h1.lookup hk.law ht hz (plainElem_int hk.i (by decide)) (hk.key hx hy)
 rw [h3 x y hx hy] at hv
 obtain ⟨a, rfl, ha, _⟩ := plainElem_int_inv hk.i hv
 simp only [Prod.mk.injEq, DataW.lit.injEq, Lit.int.injEq, true_and] at ha
 rw [hrun, ha.1]
theorem PairMap.put (h : PairMap P k w b K m) (hk : PairKey P k) {t : TypeId} (ht : P.underlying t = some (.map k 3)) {x y v : Int} (hx : (Lit.int .i64 x).wf = true) (hy : (Lit.int .i64 y).wf = true) (hv : (Lit.int .i64 v).wf = true) (hm : m < maxLen) :
  ∃ w', (Instr.mapUpdate t (.map (some b)) (.agg #[.int .i64 x, .int .i64 y]) (.int .i64 v)).run P w = .ok () w' ∧ PairMap P k w' b (fun n f => if n = x ∧ f = y then v else K n f) (m + 1) ∧ w.grownBy w' (some b) ∧ w'.heap.size = w.heap.size := by
 obtain ⟨D, h1, h3⟩ := h
 have hkey := hk.key hx hy
 have hkl : WideAt.IsKeyLit (keyL x y) := hk.law.key hkey
 obtain ⟨w', hrun, h4, h5⟩ := h1.store hk.law ht hm hkey (plainElem_int hk.i hv)
 have htd := h1.tidy hk.law
 refine ⟨w', hrun, ⟨_, h4, fun n f hn hf => ?_⟩, h5.grown, ?_⟩
 ·by_cases e : n = x ∧ f = y
  ·obtain ⟨rfl, rfl⟩ := e
   rw [Maps.atKey_put_same htd.isMap hkl]
   dsimp only
   rw [if_pos (And.intro rfl rfl)]
  ·rw [Maps.atKey_put_other (hk.ne hn hf hx hy e)]
   dsimp only
   rw [if_neg e]
   exact h3 n f hn hf
 ·obtain ⟨es, clock, es', clock', _, rfl⟩ := h5
  simp [ChangeMaps.setBlock]
end
end
/- What only grows while a wish is encoded; how big the literals are. No program in sight. -/
section
open Go.RowKit Qm

def DLe (d d' : Dk) : Prop := d.vars ≤ d'.vars ∧ d.cls.length ≤ d'.cls.length
theorem DLe.refl (d : Dk) : DLe d d := ⟨Nat.le_refl _, Nat.le_refl _⟩
theorem DLe.trans {a b c : Dk} (h : DLe a b) (k : DLe b c) : DLe a c := ⟨Nat.le_trans h.1 k.1, Nat.le_trans h.2 k.2⟩
theorem bothD_cases (d : Dk) (l : List Int) : (∃ x, l = [x] ∧ bothD d l = (d, x)) ∨ (l.length ≠ 1 ∧ bothD d l = ({ d with vars := d.vars + 1, cls := d.cls ++ gate ((d.vars : Int) + 1) l }, (d.vars : Int) + 1)) := by
 match l with
 | [x] => exact .inl ⟨x, rfl, rfl⟩
 | [] => exact .inr ⟨by simp, rfl⟩
 | x :: y :: r => exact .inr ⟨by simp, rfl⟩
theorem bothD_le (d : Dk) (l : List Int) : DLe d (bothD d l).1 := by
 rcases bothD_cases d l with ⟨x, _, h⟩ | ⟨_, h⟩
 ·rw [h]; exact DLe.refl _
 ·rw [h]; exact ⟨Nat.le_succ _, by show _ ≤ (d.cls ++ _).length; rw [List.length_append]; omega⟩
theorem oneD_le (d : Dk) (l : List Int) : DLe d (oneD d l).1 := bothD_le d _
theorem addD_le (d : Dk) (c : List Int) : DLe d (addD d c) := ⟨Nat.le_refl _, by show _ ≤ (d.cls ++ _).length; rw [List.length_append]; omega⟩
theorem meanStep_le (X : Chs) (ps : List Pk) (a : At) (but : Int) (s : Dk × List Int) (i : Nat) : DLe s.1 (meanStep X ps a but s i).1 := by
 unfold meanStep
 split
 ·exact DLe.refl _
 ·split
  ·exact DLe.refl _
  ·cases ixOf a.fl (pkOf ps i).fs with
   | none => exact DLe.refl _
   | some k =>
    dsimp only
    split
    ·exact bothD_le _ _
    ·exact DLe.refl _
theorem meansTo_le (X : Chs) (ps : List Pk) (a : At) (but : Int) (d : Dk) (j : Nat) : ∀ k, DLe (meansTo X ps a but d j).1 (meansTo X ps a but d (j + k)).1
 | 0 => DLe.refl _
 | k + 1 => (meansTo_le X ps a but d j k).trans (meanStep_le X ps a but _ _)
theorem meansD_le (X : Chs) (ps : List Pk) (a : At) (but : Int) (d : Dk) : DLe d (meansD X ps a but d).1 := by
 have := meansTo_le X ps a but d 0 ps.length
 rwa [Nat.zero_add] at this
theorem kidsD_le (X : Chs) (ps : List Pk) (i : Nat) : ∀ (ks : List Nd), (∀ x ∈ ks, ∀ d, DLe d (needD X ps i x d).1) → ∀ d, DLe d (kidsD X ps i ks d).1
 | [], _, d => DLe.refl _
 | x :: r, h, d => by
  rw [kidsD]
  exact (h x (List.mem_cons_self ..) d).trans (kidsD_le X ps i r (fun y hy => h y (List.mem_cons_of_mem _ hy)) _)
theorem needD_le (X : Chs) (ps : List Pk) (i : Nat) : ∀ (y : Nd) (d : Dk), DLe d (needD X ps i y d).1 := by
 refine Nd.ind fun kd a f no ks ih => ?_
 intro d
 have hk := kidsD_le X ps i ks ih d
 rw [needD]
 split
 ·exact (meansD_le ..).trans (oneD_le ..)
 ·split
  ·exact (meansD_le ..).trans (oneD_le ..)
  ·split
   ·exact hk.trans (oneD_le ..)
   ·split
    ·exact (hk.trans (bothD_le ..)).trans (oneD_le ..)
    ·exact hk.trans (bothD_le ..)
theorem confTo_le (X : Chs) (ps : List Pk) (i : Nat) (d : Dk) (j : Nat) : ∀ k, DLe (confTo X ps i d j) (confTo X ps i d (j + k))
 | 0 => DLe.refl _
 | k + 1 => by
  refine (confTo_le X ps i d j k).trans ?_
  show DLe _ (confTo X ps i d (j + k + 1))
  rw [confTo]
  split
  ·exact addD_le ..
  ·exact DLe.refl _
theorem pkD_le (X : Chs) (ps : List Pk) (i : Nat) (d : Dk) : DLe d (pkD X ps i d) := by
 unfold pkD
 have := confTo_le X ps i d 0 i
 rw [Nat.zero_add] at this
 exact (DLe.trans this (needD_le ..)).trans (addD_le ..)
theorem pksD_le (X : Chs) (ps : List Pk) (d : Dk) (j : Nat) : ∀ k, DLe (pksD X ps d j) (pksD X ps d (j + k))
 | 0 => DLe.refl _
 | k + 1 => (pksD_le X ps d j k).trans (pkD_le ..)
theorem masksD_le (X : Chs) : ∀ (ms : List Int) (d : Dk), DLe d (masksD X ms d)
 | [], d => DLe.refl _
 | k :: r, d => by rw [masksD]; exact (addD_le ..).trans (masksD_le X r _)
theorem tgtsD_le (X : Chs) (ps : List Pk) : ∀ (ts : List At) (d : Dk), DLe d (tgtsD X ps ts d)
 | [], d => DLe.refl _
 | a :: r, d => by rw [tgtsD]; exact ((meansD_le ..).trans (addD_le ..)).trans (tgtsD_le X ps r _)

/-! ### how big -/
def LIn (d : Dk) (l : List Int) : Prop := ∀ x ∈ l, x.natAbs ≤ d.vars
structure DIn (X : Chs) (ps : List Pk) (d : Dk) : Prop where
 pick : ∀ i, i < ps.length → (X.pick i).natAbs ≤ d.vars
 on : ∀ i k, i < ps.length → k < (pkOf ps i).fs.length → (X.on i k).natAbs ≤ d.vars
 pair : ∀ n f, (d.pair n f).natAbs ≤ d.vars
section
variable {X : Chs} {ps : List Pk} {d d' : Dk}
theorem DIn.up (h : DIn X ps d) (hd : d.vars ≤ d'.vars) (hp : d'.pair = d.pair) : DIn X ps d' :=
 ⟨fun i hi => Nat.le_trans (h.pick i hi) hd, fun i k hi hk => Nat.le_trans (h.on i k hi hk) hd, fun n f => by rw [hp]; exact Nat.le_trans (h.pair n f) hd⟩
theorem bothD_pair (d : Dk) (l : List Int) : (bothD d l).1.pair = d.pair := by
 rcases bothD_cases d l with ⟨x, _, h⟩ | ⟨_, h⟩ <;> rw [h]
theorem bothD_in (h : DIn X ps d) {l : List Int} (hl : LIn d l) : DIn X ps (bothD d l).1 ∧ (bothD d l).2.natAbs ≤ (bothD d l).1.vars := by
 refine ⟨h.up (bothD_le d l).1 (bothD_pair d l), ?_⟩
 rcases bothD_cases d l with ⟨x, rfl, h⟩ | ⟨_, h⟩
 ·rw [h]; exact hl x (List.mem_singleton.2 rfl)
 ·rw [h]; dsimp only; omega
theorem oneD_in (h : DIn X ps d) {l : List Int} (hl : LIn d l) : DIn X ps (oneD d l).1 ∧ (oneD d l).2.natAbs ≤ (oneD d l).1.vars := by
 have := bothD_in h (l := l.map Neg.neg) (fun x hx => by obtain ⟨y, hy, rfl⟩ := List.mem_map.1 hx; rw [Int.natAbs_neg]; exact hl y hy)
 refine ⟨this.1, ?_⟩
 show (-(bothD d (l.map Neg.neg)).2).natAbs ≤ _
 rw [Int.natAbs_neg]; exact this.2
theorem askD_in (h : DIn X ps d) {a : At} {i k : Nat} (hi : i < ps.length) (hk : k < (pkOf ps i).fs.length) : (askD X a i k).natAbs ≤ d.vars := by
 unfold askD
 split
 ·exact h.on i k hi hk
 ·rw [Int.natAbs_neg]; exact h.on i k hi hk
theorem meanStep_in {a : At} {but : Int} {s : Dk × List Int} {i : Nat} (h : DIn X ps s.1) (hl : LIn s.1 s.2) (hi : i < ps.length) : DIn X ps (meanStep X ps a but s i).1 ∧ LIn (meanStep X ps a but s i).1 (meanStep X ps a but s i).2 := by
 unfold meanStep
 split
 ·exact ⟨h, hl⟩
 ·split
  ·exact ⟨h, fun x hx => by
    rcases List.mem_append.1 hx with hx | hx
    ·exact hl x hx
    ·rw [List.mem_singleton.1 hx]; exact h.pick i hi⟩
  ·cases hix : ixOf a.fl (pkOf ps i).fs with
   | none => exact ⟨h, hl⟩
   | some k =>
    dsimp only
    split
    ·have hb := bothD_in h (l := [X.pick i, askD X a i k]) (fun x hx => by
      simp only [List.mem_cons, List.not_mem_nil, or_false] at hx
      rcases hx with rfl | rfl
      ·exact h.pick i hi
      ·exact askD_in h hi (ixOf_lt hix))
     have hle := bothD_le s.1 [X.pick i, askD X a i k]
     refine ⟨⟨hb.1.pick, hb.1.on, fun n f => ?_⟩, fun x hx => ?_⟩
     ·show (if _ then _ else _ : Int).natAbs ≤ (bothD s.1 [X.pick i, askD X a i k]).1.vars
      split
      ·exact hb.2
      ·exact hb.1.pair n f
     ·rcases List.mem_append.1 hx with hx | hx
      ·exact Nat.le_trans (hl x hx) hle.1
      ·rw [List.mem_singleton.1 hx]; exact hb.2
    ·exact ⟨h, fun x hx => by
      rcases List.mem_append.1 hx with hx | hx
      ·exact hl x hx
      ·rw [List.mem_singleton.1 hx]; exact h.pair _ _⟩
theorem meansTo_in (h : DIn X ps d) (a : At) (but : Int) : ∀ j, j ≤ ps.length → DIn X ps (meansTo X ps a but d j).1 ∧ LIn (meansTo X ps a but d j).1 (meansTo X ps a but d j).2
 | 0, _ => ⟨h, fun x hx => by cases hx⟩
 | j + 1, hj => by
  have := meansTo_in h a but j (by omega)
  exact meanStep_in this.1 this.2 (by omega)
theorem ifLit_in (h : DIn X ps d) {i : Nat} (hi : i < ps.length) (f : Qm.W) (no : Bool) : (ifLit X ps i f no).natAbs ≤ d.vars := by
 unfold ifLit
 cases hix : ixOf f (pkOf ps i).fs with
 | none => exact Nat.zero_le _
 | some j =>
  dsimp only
  split
  ·rw [Int.natAbs_neg]; exact h.on i j hi (ixOf_lt hix)
  ·exact h.on i j hi (ixOf_lt hix)
theorem kidsD_in {i : Nat} : ∀ (ks : List Nd), (∀ x ∈ ks, ∀ d, DIn X ps d → DIn X ps (needD X ps i x d).1 ∧ (needD X ps i x d).2.natAbs ≤ (needD X ps i x d).1.vars) → ∀ d, DIn X ps d → DIn X ps (kidsD X ps i ks d).1 ∧ LIn (kidsD X ps i ks d).1 (kidsD X ps i ks d).2
 | [], _, d, h => ⟨h, fun x hx => by cases hx⟩
 | x :: r, ih, d, h => by
  have h1 := ih x (List.mem_cons_self ..) d h
  have h2 := kidsD_in r (fun y hy => ih y (List.mem_cons_of_mem _ hy)) _ h1.1
  have hle := kidsD_le X ps i r (fun y _ d => needD_le X ps i y d) (needD X ps i x d).1
  rw [kidsD]
  refine ⟨h2.1, fun z hz => ?_⟩
  rcases List.mem_cons.1 hz with rfl | hz
  ·exact Nat.le_trans h1.2 hle.1
  ·exact h2.2 z hz
theorem needD_in {i : Nat} (hi : i < ps.length) : ∀ (y : Nd) (d : Dk), DIn X ps d → DIn X ps (needD X ps i y d).1 ∧ (needD X ps i y d).2.natAbs ≤ (needD X ps i y d).1.vars := by
 refine Nd.ind fun kd a f no ks ih => ?_
 intro d h
 have hk := kidsD_in ks ih d h
 have hm := fun but => meansTo_in h a but ps.length (Nat.le_refl _)
 rw [needD]
 split
 ·exact oneD_in (hm _).1 (hm _).2
 ·split
  ·have := oneD_in (hm (i : Int)).1 (hm (i : Int)).2
   refine ⟨this.1, ?_⟩
   dsimp only
   rw [Int.natAbs_neg]; exact this.2
  ·split
   ·exact oneD_in hk.1 hk.2
   ·have hb := bothD_in hk.1 hk.2
    split
    ·exact oneD_in hb.1 (fun x hx => by
      simp only [List.mem_cons, List.not_mem_nil, or_false] at hx
      rcases hx with rfl | rfl
      ·rw [Int.natAbs_neg]; exact ifLit_in hb.1 hi f no
      ·exact hb.2)
    ·exact hb
end
end
/-
 Needs in memory: ten cells that read as a need in plain words, its kids a slice of such.
-/
section
open Go.RowKit Qm

def ndRow (k : Int) (a : At) (f : Qm.W) (no : Bool) (A : Option Addr) (n c : Nat) : List Value :=
 [.int .i64 k, .string ⟨a.nm.toArray⟩, .int .i64 a.op, .int .i64 a.ver, .int .i64 a.slot, .string ⟨a.fl.toArray⟩, .bool a.on, .string ⟨f.toArray⟩, .bool no, .slice A n c]

inductive RNd (w : World) (S : Nat → Prop) : List Value → Nd → Prop
 | mk (k : Int) (a : At) (f : Qm.W) (no : Bool) (A : Option Addr) (n c : Nat) (ks : List Nd) (cs : List (List Value))
  (hnc : n ≤ c) (hc : c ≤ maxLen) (h1 : a.nm.length ≤ maxLen) (h2 : a.fl.length ≤ maxLen) (h3 : f.length ≤ maxLen)
  (hk : ks.length = n) (hcs : cs.length = n) (hrow : Row w S A (n * 10) cs.flatten)
  (hr : ∀ (j : Nat) (x : List Value) (y : Nd), cs[j]? = some x → ks[j]? = some y → RNd w S x y) : RNd w S (ndRow k a f no A n c) (.mk k a f no ks)

theorem RNd.ten {w : World} {S : Nat → Prop} {x : List Value} {y : Nd} (h : RNd w S x y) : x.length = 10 := by cases h; rfl

def RKids (w : World) (S : Nat → Prop) (A : Option Addr) (n : Nat) (ks : List Nd) : Prop :=
 ∃ cs : List (List Value), ks.length = n ∧ cs.length = n ∧ Row w S A (n * 10) cs.flatten ∧ ∀ (j : Nat) (x : List Value) (y : Nd), cs[j]? = some x → ks[j]? = some y → RNd w S x y

theorem RNd.open_ {w : World} {S : Nat → Prop} {x : List Value} {k : Int} {a : At} {f : Qm.W} {no : Bool} {ks : List Nd} (h : RNd w S x (.mk k a f no ks)) :
  ∃ A n c, x = ndRow k a f no A n c ∧ n ≤ c ∧ c ≤ maxLen ∧ a.nm.length ≤ maxLen ∧ a.fl.length ≤ maxLen ∧ f.length ≤ maxLen ∧ RKids w S A n ks := by
 cases h with
 | mk k a f no A n c ks cs hnc hc h1 h2 h3 hk hcs hrow hr => exact ⟨A, n, c, rfl, hnc, hc, h1, h2, h3, cs, hk, hcs, hrow, hr⟩
theorem RNd.shut {w : World} {S : Nat → Prop} {k : Int} {a : At} {f : Qm.W} {no : Bool} {ks : List Nd} {A : Option Addr} {n c : Nat}
  (hnc : n ≤ c) (hc : c ≤ maxLen) (h1 : a.nm.length ≤ maxLen) (h2 : a.fl.length ≤ maxLen) (h3 : f.length ≤ maxLen) (h : RKids w S A n ks) : RNd w S (ndRow k a f no A n c) (.mk k a f no ks) := by
 obtain ⟨cs, hk, hcs, hrow, hr⟩ := h
 exact .mk k a f no A n c ks cs hnc hc h1 h2 h3 hk hcs hrow hr

theorem RNd.keep {w w' : World} {S : Nat → Prop} (hw : ∀ p : Addr, S p.block → w'.cell? p = w.cell? p) {x : List Value} {y : Nd} (h : RNd w S x y) : RNd w' S x y := by
 induction h with
 | mk k a f no A n c ks cs hnc hc h1 h2 h3 hk hcs hrow hr ih => exact .mk k a f no A n c ks cs hnc hc h1 h2 h3 hk hcs (hrow.keep hw) ih
theorem RNd.more {w : World} {S S' : Nat → Prop} (hS : ∀ k, S k → S' k) {x : List Value} {y : Nd} (h : RNd w S x y) : RNd w S' x y := by
 induction h with
 | mk k a f no A n c ks cs hnc hc h1 h2 h3 hk hcs hrow hr ih => exact .mk k a f no A n c ks cs hnc hc h1 h2 h3 hk hcs (hrow.more hS) ih
theorem RNd.under {w w' : World} {S : Nat → Prop} {B : Nat} {x : List Value} {y : Nd} (h : RNd w S x y) (hb : Below B w w') (hS : ∀ k, S k → k < B) : RNd w' S x y := h.keep fun _ hp => hb.cell (hS _ hp)
theorem RKids.keep {w w' : World} {S : Nat → Prop} {A : Option Addr} {n : Nat} {ks : List Nd} (h : RKids w S A n ks) (hw : ∀ p : Addr, S p.block → w'.cell? p = w.cell? p) : RKids w' S A n ks := by
 obtain ⟨cs, hk, hcs, hrow, hr⟩ := h
 exact ⟨cs, hk, hcs, hrow.keep hw, fun j x y h1 h2 => (hr j x y h1 h2).keep hw⟩
theorem RKids.more {w : World} {S S' : Nat → Prop} (hS : ∀ k, S k → S' k) {A : Option Addr} {n : Nat} {ks : List Nd} (h : RKids w S A n ks) : RKids w S' A n ks := by
 obtain ⟨cs, hk, hcs, hrow, hr⟩ := h
 exact ⟨cs, hk, hcs, hrow.more hS, fun j x y h1 h2 => (hr j x y h1 h2).more hS⟩
theorem RKids.under {w w' : World} {S : Nat → Prop} {B : Nat} {A : Option Addr} {n : Nat} {ks : List Nd} (h : RKids w S A n ks) (hb : Below B w w') (hS : ∀ k, S k → k < B) : RKids w' S A n ks := h.keep fun _ hp => hb.cell (hS _ hp)
theorem RKids.len {w : World} {S : Nat → Prop} {A : Option Addr} {n : Nat} {ks : List Nd} (h : RKids w S A n ks) : ks.length = n := by obtain ⟨_, h, _⟩ := h; exact h
theorem RKids.nil_ {w : World} {S : Nat → Prop} {A : Option Addr} : RKids w S A 0 [] := ⟨[], rfl, rfl, by simpa using Row.nil_, fun j x y h _ => by simp at h⟩

theorem flat_at {cs : List (List Value)} (h : ∀ x ∈ cs, x.length = 10) : ∀ {j : Nat} {x : List Value}, cs[j]? = some x → ∀ i, i < 10 → cs.flatten[j * 10 + i]? = x[i]? := by
 induction cs with
 | nil => intro j x hj; simp at hj
 | cons c r ih =>
  intro j x hj i hi
  have hc := h c (List.mem_cons_self ..)
  rw [List.flatten_cons]
  cases j with
  | zero =>
   simp only [List.getElem?_cons_zero, Option.some.injEq] at hj
   subst hj
   rw [List.getElem?_append_left (by omega)]; congr 1; omega
  | succ j =>
   rw [List.getElem?_cons_succ] at hj
   rw [List.getElem?_append_right (by omega)]
   rw [← ih (fun y hy => h y (List.mem_cons_of_mem _ hy)) hj i hi]
   congr 1; omega

theorem RKids.at_ {w : World} {S : Nat → Prop} {A : Option Addr} {n : Nat} {ks : List Nd} (h : RKids w S A n ks) {j : Nat} (hj : j < n) :
  ∃ b o x y, A = some ⟨b, o, none⟩ ∧ S b ∧ ks[j]? = some y ∧ RNd w S x y ∧ ∀ i, i < 10 → w.cell? ⟨b, o + j * 10 + i, none⟩ = x[i]? := by
 obtain ⟨cs, hk, hcs, hrow, hr⟩ := h
 obtain ⟨b, o, hA, hb, hc⟩ := hrow.2 (by omega)
 have e1 : cs[j]? = some (cs[j]'(by omega)) := List.getElem?_eq_getElem (by omega)
 have e2 : ks[j]? = some (ks[j]'(by omega)) := List.getElem?_eq_getElem (by omega)
 refine ⟨b, o, _, _, hA, hb, e2, hr j _ _ e1 e2, fun i hi => ?_⟩
 rw [Nat.add_assoc, hc (j * 10 + i) (by omega)]
 refine flat_at (fun x hx => ?_) e1 i hi
 obtain ⟨i', hi', e⟩ := List.mem_iff_getElem.1 hx
 exact (hr i' x (ks[i']'(by omega)) (by rw [← e]; exact List.getElem?_eq_getElem hi') (List.getElem?_eq_getElem (by omega))).ten
end
/- need.count, walked. -/
section
open Go.RowKit Qm

def cntV : Option Int → Value
 | none => .tuple #[.int .i64 0, .bool false]
 | some c => .tuple #[.int .i64 c, .bool true]
theorem drop_step {ks : List Nd} {j : Nat} {y : Nd} (h : ks[j]? = some y) : ks.drop j = y :: ks.drop (j + 1) := by
 obtain ⟨hj, e⟩ := List.getElem?_eq_some_iff.1 h
 rw [List.drop_eq_getElem_cons hj, e]

set_option maxHeartbeats 1600000 in
theorem count_any : ∀ (n : Nd) (S : Nat → Prop) (x : List Value) (d : Nat) (m : Int) (w : World), RNd w S x n → (∀ k, S k → k < w.heap.size) → 1 ≤ d → d ≤ 5 → 0 ≤ m → m ≤ 20 →
  Calls Tryz.prog 151 #[.agg x.toArray, .int .i64 d, .int .i64 m] w fun e w' => e = .returned (cntV (cnt n d m)) ∧ Below w.heap.size w w' := by
 refine Nd.ind fun k a f no ks ih => ?_
 intro S x d m w hR hS hd1 hd5 hm0 hm
 have HI := qh ih; clear ih
 obtain ⟨A, n, c, rfl, hnc, hc, h1, h2, h3, hK⟩ := hR.open_
 clear hR
 have HS := qh hS; clear hS
 have HK := qh hK; clear hK
 unfold maxLen at hc
 clear h1 h2 h3
 unfold ndRow
 have HW := qh (Whole.new w _ 99 [.int .i64 k, .string ⟨a.nm.toArray⟩, .int .i64 a.op, .int .i64 a.ver, .int .i64 a.slot, .string ⟨a.fl.toArray⟩, .bool a.on, .string ⟨f.toArray⟩, .bool no, .slice A n c] rfl)
 have HB := qh ((Below.refl _ w).alloc (qr _) (.cells #[.int .i64 k, .string ⟨a.nm.toArray⟩, .int .i64 a.op, .int .i64 a.ver, .int .i64 a.slot, .string ⟨a.fl.toArray⟩, .bool a.on, .string ⟨f.toArray⟩, .bool no, .slice A n c] 99))
 by_cases h4 : 4 < d
 ·have h4' : (4 : Int) < (d : Int) := by omega
  go_enter Tryz.func151, Tryz.ntmps151
  go_wp2
  go_ret2
  exact ⟨by simp [cnt, cntV, h4], HB.out⟩
 ·have h4' : decide ((4 : Int) < (d : Int)) = false := by simp; omega
  have HC : Hid (cnt (.mk k a f no ks) d m = cntL ks d m 1) := qh (by simp [cnt, h4])
  go_enter Tryz.func151, Tryz.ntmps151
  go_wp2
  go_loopg [8, 18] n (fun g av iv wr => ∃ (j : Nat) (z : Int), Hid (j + g = n) ∧ iv = .int .i64 j ∧ av = .int .i64 z ∧ 1 ≤ z ∧ z ≤ 21 ∧ Hid (cntL ks d m 1 = cntL (ks.drop j) d m z) ∧ Below w.heap.size w wr)
  case atStart => exact ⟨0, 1, qh (Nat.zero_add _), rfl, rfl, by omega, by omega, qh rfl, HB.out⟩
  case round =>
   obtain ⟨j, z, Hj, rfl, rfl, hz1, hz2, Hcl, hb⟩ := hrel
   have HBr := qh hb; clear hb
   by_cases hj : j < n
   ·obtain ⟨b, o, x, y, rfl, hb, hy, hxy, hcell⟩ := (HK.out.under HBr.out HS.out).at_ hj
    have Hdr := qh (drop_step hy)
    have hmem := List.mem_of_getElem? hy
    obtain ⟨yk, ya, yf, yn, yks⟩ := y
    obtain ⟨A', n', c', rfl, -⟩ := hxy.open_
    have g0 := hcell 0 (by omega); have g1 := hcell 1 (by omega); have g2 := hcell 2 (by omega); have g3 := hcell 3 (by omega); have g4 := hcell 4 (by omega)
    have g5 := hcell 5 (by omega); have g6 := hcell 6 (by omega); have g7 := hcell 7 (by omega); have g8 := hcell 8 (by omega); have g9 := hcell 9 (by omega)
    clear hcell
    unfold ndRow at g0 g1 g2 g3 g4 g5 g6 g7 g8 g9
    simp only [List.getElem?_cons_zero, List.getElem?_cons_succ, Nat.add_zero] at g0 g1 g2 g3 g4 g5 g6 g7 g8 g9
    clear hy
    have hxy2 := (hxy.under (Below.refl _ wr |>.alloc (qr _) (.cells #[.int .i64 yk, .string ⟨ya.nm.toArray⟩, .int .i64 ya.op, .int .i64 ya.ver, .int .i64 ya.slot, .string ⟨ya.fl.toArray⟩, .bool ya.on, .string ⟨yf.toArray⟩, .bool yn, .slice A' n' c'] 99)) fun q hq => ql (HS.out q hq) HBr.out.size)
    clear hxy
    by_cases hzm : m < z
    ·go_wp2_with fail
     go_ret2
     exact ⟨by rw [HC.out, Hcl.out, Hdr.out]; simp [cntL, hzm, cntV], HBr.out.alloc HBr.out.size _⟩
    ·have hzm' : decide (m < z) = false := by simpa using hzm
     have hcall := HI.out _ hmem S _ (d + 1) (m - z) _ hxy2 (fun q hq => by have := HS.out q hq; have := HBr.out.size; simp; omega) (by omega) (by omega) (by omega) (by omega)
     have Hle := qh (cnt_le (.mk yk ya yf yn yks) (d + 1) (m - z))
     have Hge := qh (cnt_spec (.mk yk ya yf yn yks) (d + 1) (m - z) (by omega)).1
     have e : ((d + 1 : Nat) : Int) = (d : Int) + 1 := by omega
     rw [e] at hcall
     unfold ndRow at hcall
     have HX : Hid (cntL (ks.drop j) d m z = match cnt (.mk yk ya yf yn yks) (d + 1) (m - z) with | none => none | some c => cntL (ks.drop (j + 1)) d m (z + c)) := qh (by rw [Hdr.out]; simp only [cntL, if_neg hzm]; cases cnt (.mk yk ya yf yn yks) (d + 1) (m - z) <;> rfl)
     generalize hq : cnt (.mk yk ya yf yn yks) (d + 1) (m - z) = q at hcall Hle Hge HX
     have HBn := qh (HBr.out.alloc HBr.out.size (.cells #[.int .i64 yk, .string ⟨ya.nm.toArray⟩, .int .i64 ya.op, .int .i64 ya.ver, .int .i64 ya.slot, .string ⟨ya.fl.toArray⟩, .bool ya.on, .string ⟨yf.toArray⟩, .bool yn, .slice A' n' c'] 99))
     clear hq e hxy2
     have Hcall := qh hcall; clear hcall
     rcases q with _ | q
     ·simp only [cntV] at Hcall
      go_wp2_with fail
      refine Hcall.out.mono ?_
      rintro e w' ⟨rfl, hb'⟩
      have HB' := qh (HBn.out.trans (hb'.mono HBn.out.size)); clear hb'
      go_wp2_with fail
      go_ret2
      exact ⟨by rw [HC.out, Hcl.out, HX.out]; rfl, HB'.out⟩
     ·simp only [cntV] at Hcall
      have hq1 := Hle.out q (by omega) rfl
      have hq0 := (Hge.out q rfl).1
      go_wp2_with fail
      refine Hcall.out.mono ?_
      rintro e w' ⟨rfl, hb'⟩
      have HB' := qh (HBn.out.trans (hb'.mono HBn.out.size)); clear hb'
      go_wp2_with fail
      go_roundg (gk - 1)
      case measure => have := Hj.out; omega
      case rel => exact ⟨j + 1, z + q, qh (by have := Hj.out; omega), by go_num, rfl, by omega, by omega, qh (by rw [Hcl.out, HX.out]), HB'.out⟩
   ·go_wp2_with fail
    go_ret2
    refine ⟨?_, HBr.out⟩
    rw [HC.out, Hcl.out, List.drop_of_length_le (by have := HK.out.len; omega)]; rfl
end
end Go.Proofs.YtedbhlgjcnnknaaGreatDoor
