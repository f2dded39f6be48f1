/- Parts of the proof: walks and plain laws, side by side. -/
import Derived.Test.YtedbhlgjcnnknaaGreatDoorM7
import Derived.Test.YtedbhlgjcnnknaaGreatDoorM5
import Derived.Test.YtedbhlgjcnnknaaGreatDoorM3
import Derived.Test.YtedbhlgjcnnknaaGreatDoorM6
import Derived.Test.YtedbhlgjcnnknaaGreatDoorM2
import Derived.Test.YtedbhlgjcnnknaaGreatDoorM1
import Derived.Maps.RangeWalk
import Derived.Maps.OwnSet
import Derived.WideKeyPair
import Derived.DeepKeys4
set_option linter.unusedVariables false
set_option linter.unusedSimpArgs false
set_option linter.unusedSectionVars false
/- Walk: sat.Solve. -/
namespace Go.Proofs.YtedbhlgjcnnknaaGreatDoor
open Go.RowKit
theorem bool_one (xs : List Bool) : ∀ u ∈ xs.map Value.bool, u.oneCell' = true := by
 intro u hu; obtain ⟨x, _, rfl⟩ := List.mem_map.1 hu; rfl
def resOf (N : Nat) (cs : List (List Int)) (st : Nat) : Qm.Res := Qm.search cs (N + 1) st [] [] (Qm.zeroVals N)
def solveErr (vars : Int) (cs : List (List Int)) (steps : Int) : Int :=
 if ckFormula vars cs ≠ 0 then ckFormula vars cs else if steps < 1 ∨ 40000 < steps then 3 else match resOf vars.toNat cs steps.toNat with | .out => 8 | _ => 0
def solveM (vars : Int) (cs : List (List Int)) (steps : Int) : List Bool := if ckFormula vars cs ≠ 0 ∨ steps < 1 ∨ 40000 < steps then [] else match resOf vars.toNat cs steps.toNat with | .found m => m | _ => []
def solveP (vars : Int) (cs : List (List Int)) (steps : Int) : List (List Int) := if ckFormula vars cs ≠ 0 ∨ steps < 1 ∨ 40000 < steps then [] else match resOf vars.toNat cs steps.toNat with | .no _ pf => pf | _ => []
def SolvePost (vars : Int) (cs : List (List Int)) (steps : Int) (w : World) (e : Ending) (w' : World) : Prop :=
 ∃ (AM : Option Addr) (nM cM : Nat) (AP : Option Addr) (nP cP : Nat), e = .returned (.tuple #[.agg #[.slice AM nM cM, .slice AP nP cP], .int .i64 (solveErr vars cs steps)]) ∧
  RBools w' (fun k => w.heap.size ≤ k ∧ k < w'.heap.size) AM nM (solveM vars cs steps) ∧ (nM ≤ cM ∧ cM ≤ maxLen) ∧ RClauses w' (fun k => w.heap.size ≤ k ∧ k < w'.heap.size) AP nP (solveP vars cs steps) ∧ (nP ≤ cP ∧ cP ≤ maxLen) ∧ Below w.heap.size w w'
set_option maxRecDepth 100000 in
set_option maxHeartbeats 8000000 in
theorem solve_any (A : Option Addr) (n cap : Nat) (vars steps : Int) (cs : List (List Int)) (w : World) (S : Nat → Prop) (hS : ∀ k, S k → k < w.heap.size)
  (hr : RClauses w S A n cs) (hn : n ≤ cap ∧ cap ≤ maxLen) (hv : -9223372036854775808 ≤ vars) (hv' : vars ≤ 9223372036854775807) (hs : -9223372036854775808 ≤ steps) (hs' : steps ≤ 9223372036854775807) :
  Calls Tryz.prog 26 #[.agg #[.int .i64 vars, .slice A n cap], .int .i64 steps] w (SolvePost vars cs steps w) := by
 obtain ⟨k0, hkk, hk0, hk1, hk2⟩ := info_parts bool_info
 have Hk' := Lib.hid hkk; have Hk0 := Lib.hid hk0; have Hk1 := Lib.hid hk1; have Hk2 := Lib.hid hk2
 have Hr := Lib.hid hr; have Hn := Lib.hid hn
 clear hr hn hkk hk0 hk1 hk2
 go_enter Tryz.func26, Tryz.ntmps26
 go_wp2_with fail
 have hb0 : Below w.heap.size w ((w.alloc (.cells #[.int .i64 vars, .slice A n cap] 33)).alloc (.cells #[.slice none 0 0, .slice none 0 0] 59)) := ((Below.refl _ _).alloc (Nat.le_refl _) _).alloc (by simp) _
 refine (checkFormula_any A n cap cs vars _ S (Hr.out.below hb0 hS) (fun k hk => by have := hS k hk; simp; omega) (Nat.le_trans Hn.out.1 Hn.out.2) hv hv').mono ?_
 rintro e w1 ⟨rfl, hb1⟩
 have Hb1 := Lib.hid (hb0.trans (hb1.mono hb0.size))
 have hF1 : Whole w1 w.heap.size 33 [.int .i64 vars, .slice A n cap] := Whole.below ((Whole.new w _ _ _ rfl).alloc _) hb1 (by simp; omega)
 have hA1 : Whole w1 (w.heap.size + 1) 59 [.slice none 0 0, .slice none 0 0] := Whole.below (Whole.new _ _ _ [.slice none 0 0, .slice none 0 0] (by simp)) hb1 (by simp)
 have HF1 := Lib.hid hF1; have HA1 := Lib.hid hA1
 have hf0 := hF1.cell 0
 have hf1 := hF1.cell 1
 have ha0 := hA1.cell 0
 have ha1 := hA1.cell 1
 have haf0 := hA1.free 0
 have haf1 := hA1.free 1
 simp only [qgz, qgs] at hf0 hf1 ha0 ha1
 clear hb0 hb1 hF1 hA1
 generalize hck : ckFormula vars cs = E
 have Hck := Lib.hid hck; clear hck
 by_cases hE : E = 0
 ·subst hE
  by_cases hst : steps < 1 ∨ 40000 < steps
  ·have H1 : Hid (solveErr vars cs steps = 3) := by show _ = _; unfold solveErr; rw [if_neg (by rw [Hck.out]; simp), if_pos hst]
   have H2 : Hid (solveM vars cs steps = []) := by show _ = _; unfold solveM; rw [if_pos (.inr hst)]
   have H3 : Hid (solveP vars cs steps = []) := by show _ = _; unfold solveP; rw [if_pos (.inr hst)]
   have hc : decide (steps < 1) = true ∨ (decide (steps < 1) = false ∧ decide (40000 < steps) = true) := by
    by_cases h : steps < 1
    ·exact .inl (by simpa using h)
    ·exact .inr ⟨by simpa using h, by simp; omega⟩
   clear hst
   rcases hc with h | ⟨h, h'⟩
   all_goals
    go_wp2_with fail
    have hW := (HA1.out.set_ 0 (.slice none 0 0)).set_ 1 (.slice none 0 0)
    have hbz := (Hb1.out.setCell (p := ⟨w.heap.size + 1, 0, none⟩) (by simp) (.slice none 0 0)).setCell (p := ⟨w.heap.size + 1, 1, none⟩) (by simp) (.slice none 0 0)
    simp only [List.set_cons_succ, List.set_cons_zero] at hW
    generalize hwz : (World.setCell (World.setCell _ _ _) _ _) = wz at hW hbz ⊢
    have z0 := hW.cell 0
    have z1 := hW.cell 1
    simp only [qgz, qgs] at z0 z1
    refine bodyPost_ret (v := .tuple #[.agg #[_, _], .int .i64 _]) (by simp [results, Tryz.results26, go_sem, z0, z1]; exact ⟨⟨rfl, rfl⟩, rfl⟩) rfl ?_
    exact ⟨none, 0, 0, none, 0, 0, by rw [H1.out], by rw [H2.out]; exact Row.nil_, ⟨Nat.le_refl _, Nat.zero_le _⟩, by rw [H3.out]; exact RClauses.nil_, ⟨Nat.le_refl _, Nat.zero_le _⟩, hbz⟩
  ·obtain ⟨N, rfl, hN, hcl, hcs⟩ := ckFormula_ok Hck.out
   obtain ⟨st, rfl⟩ : ∃ st : Nat, steps = st := ⟨steps.toNat, by omega⟩
   have hst0 : 1 ≤ st ∧ st ≤ 40000 := by omega
   have hd1 : decide ((st : Int) < 1) = false := by simp; omega
   have hd2 : decide ((40000 : Int) < (st : Int)) = false := by simp; omega
   have H1 : Hid (solveErr (N : Int) cs (st : Int) = match resOf N cs st with | .out => 8 | _ => 0) := by show _ = _; unfold solveErr; rw [if_neg (by rw [Hck.out]; simp), if_neg hst]; simp
   have H2 : Hid (solveM (N : Int) cs (st : Int) = match resOf N cs st with | .found m => m | _ => []) := by show _ = _; unfold solveM; rw [if_neg (by rw [Hck.out]; simpa using hst)]; simp
   have H3 : Hid (solveP (N : Int) cs (st : Int) = match resOf N cs st with | .no _ pf => pf | _ => []) := by show _ = _; unfold solveP; rw [if_neg (by rw [Hck.out]; simpa using hst)]; simp
   have Hcs : Hid (∀ c ∈ cs, Qm.IsCl N c) := fun c hc => (hcs c hc).1
   have hmk := fun w => run_make_zeros N hN w
   have hww0 : w.heap.size < w1.heap.size := HF1.out.lt
   clear hst hcs
   go_wp2_with fail
   have hbs : Below w1.heap.size w1 ((w1.alloc (.cells #[.int .i64 (N : Int), .slice A n cap, .int .i64 (st : Int), .slice none 0 0, .slice none 0 0, .bool false] 125)).alloc (zeroObj N)) := ((Below.refl _ _).alloc (Nat.le_refl _) _).alloc (by simp) _
   have hS1 : ∀ k, S k → k < w1.heap.size := fun k hk => by have := hS k hk; have := Hb1.out.size; omega
   have hblk : SBlk ((w1.alloc (.cells #[.int .i64 (N : Int), .slice A n cap, .int .i64 (st : Int), .slice none 0 0, .slice none 0 0, .bool false] 125)).alloc (zeroObj N)) w1.heap.size (N : Int) A n cap (st : Int) (.slice none 0 0) (.slice none 0 0) false := (Whole.new w1 _ 125 [.int .i64 (N : Int), .slice A n cap, .int .i64 (st : Int), .slice none 0 0, .slice none 0 0, .bool false] rfl).alloc _
   have hss : SState (w1.heap.size + 1) w1.heap.size N A n cap cs S st (.slice none 0 0) [] [] ((w1.alloc (.cells #[.int .i64 (N : Int), .slice A n cap, .int .i64 (st : Int), .slice none 0 0, .slice none 0 0, .bool false] 125)).alloc (zeroObj N)).heap.size ((w1.alloc (.cells #[.int .i64 (N : Int), .slice A n cap, .int .i64 (st : Int), .slice none 0 0, .slice none 0 0, .bool false] 125)).alloc (zeroObj N)) :=
    ⟨hblk, World.ownsRow_nil _ _ _ _, fun g h => by simp [Value.ownBlock] at h, Heads.nil_, (Hr.out.below Hb1.out hS).below hbs hS1, Nat.le_refl _, by simp, fun k hk => by have := hS1 k hk; omega⟩
   have hzw : Whole ((w1.alloc (.cells #[.int .i64 (N : Int), .slice A n cap, .int .i64 (st : Int), .slice none 0 0, .slice none 0 0, .bool false] 125)).alloc (zeroObj N)) (w1.heap.size + 1) 3 ((Qm.zeroVals N).map (.int .i64)) := whole_zeros _ N _ (by simp)
   refine (from_any (w1.heap.size + 1) w1.heap.size N A n cap cs S hN Hn.out Hcs.out (by omega) (N + 1) st [] [] (.slice none 0 0) [] (Qm.zeroVals N) none (some ⟨w1.heap.size + 1, 0, none⟩) 0 0 (N + 1) _ (fun _ => False) (fun k => k = w1.heap.size + 1) hss (by omega) (by simp; omega) RInts.nil_ (fun _ h => absurd h id) (Nat.zero_le _) (fun n hn => by simp at hn)
    (Whole.ints (S := fun k => k = w1.heap.size + 1) hzw rfl (Qm.zeroVals_fine N).1) (fun k hk => by simp; omega) (Qm.zeroVals_fine N) (by rw [Qm.zeros_zeroVals]; omega)).mono ?_
   intro e w2 hpost
   clear hmk hd1 hd2
   have hres0 : Qm.search cs (N + 1) st [] [] (Qm.zeroVals N) = resOf N cs st := rfl
   rw [hres0] at hpost
   clear hres0 hss hzw hblk
   have hfar := hpost.1
   have hb12 : Below w1.heap.size w1 w2 := hbs.trans (hfar.below (B := w1.heap.size) (by simp; omega) (fun i h => by
    rcases h with h | h
    ·omega
    ·simp [Value.ownBlock] at h))
   have HA2 := Lib.hid (HA1.out.below hb12 HA1.out.lt)
   have Hb2 := Lib.hid (Hb1.out.trans (hb12.mono Hb1.out.size))
   have hw12 : w1.heap.size + 1 < w2.heap.size := by have := hfar.size; simp at this; omega
   have hww1 : w.heap.size + 1 < w1.heap.size := HA1.out.lt
   have hw12' : w1.heap.size < w2.heap.size := by omega
   clear hf0 hf1 ha0 ha1 haf0 haf1 hfar hb12 hbs
   have ha0 := HA2.out.cell 0
   have ha1 := HA2.out.cell 1
   have haf0 := HA2.out.free 0
   have haf1 := HA2.out.free 1
   simp only [qgz, qgs] at ha0 ha1
   generalize hr0 : resOf N cs st = r at *
   have Hr0 := Lib.hid hr0; clear hr0
   cases r with
   | out =>
    obtain ⟨_, rfl, sto, Po, hblk⟩ := hpost
    have hq5 := hblk.cell 5
    simp only [qgz, qgs] at hq5
    clear hblk
    go_wp2_with fail
    have hW := (HA2.out.set_ 0 (.slice none 0 0)).set_ 1 (.slice none 0 0)
    have hbz := (Hb2.out.setCell (p := ⟨w.heap.size + 1, 0, none⟩) (by simp) (.slice none 0 0)).setCell (p := ⟨w.heap.size + 1, 1, none⟩) (by simp) (.slice none 0 0)
    simp only [List.set_cons_succ, List.set_cons_zero] at hW
    generalize hwz : (World.setCell (World.setCell _ _ _) _ _) = wz at hW hbz ⊢
    have z0 := hW.cell 0
    have z1 := hW.cell 1
    simp only [qgz, qgs] at z0 z1
    refine bodyPost_ret (v := .tuple #[.agg #[_, _], .int .i64 _]) (by simp [results, Tryz.results26, go_sem, z0, z1]; exact ⟨⟨rfl, rfl⟩, rfl⟩) rfl ?_
    exact ⟨none, 0, 0, none, 0, 0, by rw [H1.out], by rw [H2.out]; exact Row.nil_, ⟨Nat.le_refl _, Nat.zero_le _⟩, by rw [H3.out]; exact RClauses.nil_, ⟨Nat.le_refl _, Nat.zero_le _⟩, hbz⟩
   | found m =>
    obtain ⟨_, rfl, sto, Po, M, cM, hblk, hbools, hcM, hcM', _⟩ := hpost
    have hq5 := hblk.cell 5
    have hq4 := hblk.cell 4
    simp only [qgz, qgs] at hq5 hq4
    have Hbools := Lib.hid hbools
    have hml : m.length ≤ 400 := by
     have := Qm.search_found_len Hcs.out _ _ _ _ _ (Qm.zeroVals_fine N) Hr0.out
     omega
    clear hblk hbools
    go_wp2_with (at_builtin; refine wpList_append_row rfl _ _ 40 rfl w2.heap.size 4 k0 (.bool false) 1 Tryz.underlying40 Hk'.out Hk0.out Hk1.out Hk2.out rfl _ 0 [] rfl (World.ownsRow_made w2 #[] 0 (Nat.le_refl _) (Nat.zero_le _) rfl) M m.length cM (m.map .bool) rfl (fun k => k < w2.heap.size) (Row.below (Row.more Hbools.out (fun k hk => hk.2.1)) ((Below.refl w2.heap.size w2).alloc (Nat.le_refl _) _) (fun k hk => hk)) (bool_one m) (by unfold maxLen; omega) (by omega) (by simp) ?_)
    intro A5 c5 w5 hn5 hc5 hown5 hg5
    have hb25 : Below w2.heap.size w2 w5 := ((Below.refl _ _).alloc (Nat.le_refl _) _).trans (below_of_grown hg5 (by simp) (fun k e => by simp [Value.ownBlock] at e; omega))
    have hA5 := HA2.out.below hb25 HA2.out.lt
    have ha0 := hA5.cell 0
    have ha1 := hA5.cell 1
    have haf0 := hA5.free 0
    have haf1 := hA5.free 1
    simp only [qgz, qgs] at ha0 ha1
    obtain ⟨_, _, e5, _, _, hrow5⟩ := own_form hown5
    injection e5 with e51 e52 e53
    subst e51
    have hrow5' : RBools w5 (fun k => w2.heap.size ≤ k ∧ k < w5.heap.size) A5 m.length m := by
     have := hrow5
     first | exact this | (simp only [Nat.zero_add, List.nil_append] at this; exact this)
    have Hrow5 := Lib.hid hrow5'
    try simp only [Nat.zero_add] at hn5
    have Hn5 : Hid (m.length ≤ c5 ∧ c5 ≤ maxLen) := ⟨hn5, hc5⟩
    have Hb5 := Lib.hid (Hb2.out.trans (hb25.mono Hb2.out.size))
    have Hb25 := Lib.hid hb25
    have hw25 : w2.heap.size ≤ w5.heap.size := hb25.size
    clear hq4 hq5 hown5 hg5 hrow5 hrow5' hn5 hc5 hb25 e52 e53
    have HA5 := Lib.hid hA5; clear hA5
    go_wp2_with fail
    have hW := (HA5.out.set_ 0 (.slice A5 m.length c5)).set_ 1 (.slice none 0 0)
    have hbz := (Hb5.out.setCell (p := ⟨w.heap.size + 1, 0, none⟩) (by simp) (.slice A5 m.length c5)).setCell (p := ⟨w.heap.size + 1, 1, none⟩) (by simp) (.slice none 0 0)
    have hfz : Far (fun i => i = w.heap.size + 1) w5 ((w5.setCell ⟨w.heap.size + 1, 0, none⟩ (.slice A5 m.length c5)).setCell ⟨w.heap.size + 1, 1, none⟩ (.slice none 0 0)) := (Far.set_ (D := fun i => i = w.heap.size + 1) rfl 0 _).trans (Far.set_ (D := fun i => i = w.heap.size + 1) rfl 1 _) (fun i _ h => h)
    have hrz := (hfz.bools Hrow5.out (fun k hk => ⟨hk.2, by omega⟩)).more (S' := fun k => w.heap.size ≤ k ∧ k < w5.heap.size) (fun k hk => ⟨by omega, hk.2⟩)
    have hszz := hfz.size
    clear hfz
    simp only [List.set_cons_succ, List.set_cons_zero] at hW
    generalize hwz : (World.setCell (World.setCell _ _ _) _ _) = wz at hW hbz hrz hszz ⊢
    have z0 := hW.cell 0
    have z1 := hW.cell 1
    simp only [qgz, qgs] at z0 z1
    refine bodyPost_ret (v := .tuple #[.agg #[_, _], .int .i64 _]) (by simp [results, Tryz.results26, go_sem, z0, z1]; exact ⟨⟨rfl, rfl⟩, rfl⟩) rfl ?_
    exact ⟨A5, m.length, c5, none, 0, 0, by rw [H1.out], by rw [H2.out]; exact hrz.more (fun k hk => ⟨hk.1, by omega⟩), Hn5.out, by rw [H3.out]; exact RClauses.nil_, ⟨Nat.le_refl _, Nat.zero_le _⟩, hbz⟩
   | no st' pf =>
    obtain ⟨_, rfl, Po, hso, hst, _⟩ := hpost
    obtain ⟨AP, cP, rfl, hcP, hcP', hrowP⟩ := own_form hst.own
    have hq5 := hst.blk.cell 5
    have hq3 := hst.blk.cell 3
    simp only [qgz, qgs] at hq5 hq3
    have Hst := Lib.hid hst; have HcP : Hid (pf.length ≤ cP ∧ cP ≤ maxLen) := ⟨hcP, hcP'⟩; have HrP := Lib.hid hrowP
    clear hst hcP hcP' hrowP
    go_wp2_with fail
    have hW := (HA2.out.set_ 0 (.slice none 0 0)).set_ 1 (.slice AP pf.length cP)
    have hbz := (Hb2.out.setCell (p := ⟨w.heap.size + 1, 0, none⟩) (by simp) (.slice none 0 0)).setCell (p := ⟨w.heap.size + 1, 1, none⟩) (by simp) (.slice AP pf.length cP)
    have hfz : Far (fun i => i = w.heap.size + 1) w2 ((w2.setCell ⟨w.heap.size + 1, 0, none⟩ (.slice none 0 0)).setCell ⟨w.heap.size + 1, 1, none⟩ (.slice AP pf.length cP)) := (Far.set_ (D := fun i => i = w.heap.size + 1) rfl 0 _).trans (Far.set_ (D := fun i => i = w.heap.size + 1) rfl 1 _) (fun i _ h => h)
    have hrz : RClauses w2 (fun k => w1.heap.size + 1 ≤ k ∧ k < w2.heap.size) AP pf.length pf := RClauses.of_ (hs := hso) (HrP.out) (Hst.out.heads.more (fun k hk => ⟨hk.1, hk.2.1⟩))
    have hrz' := (hfz.clauses hrz (fun k hk => ⟨hk.2, by omega⟩)).more (S' := fun k => w.heap.size ≤ k ∧ k < w2.heap.size) (fun k hk => ⟨by omega, hk.2⟩)
    have hszz := hfz.size
    clear hfz hrz
    simp only [List.set_cons_succ, List.set_cons_zero] at hW
    generalize hwz : (World.setCell (World.setCell _ _ _) _ _) = wz at hW hbz hrz' hszz ⊢
    have z0 := hW.cell 0
    have z1 := hW.cell 1
    simp only [qgz, qgs] at z0 z1
    refine bodyPost_ret (v := .tuple #[.agg #[_, _], .int .i64 _]) (by simp [results, Tryz.results26, go_sem, z0, z1]; exact ⟨⟨rfl, rfl⟩, rfl⟩) rfl ?_
    exact ⟨none, 0, 0, AP, pf.length, cP, by rw [H1.out], by rw [H2.out]; exact Row.nil_, ⟨Nat.le_refl _, Nat.zero_le _⟩, by rw [H3.out]; exact hrz'.more (fun k hk => ⟨hk.1, by omega⟩), HcP.out, hbz⟩
 ·have hE1 : (E != 0) = true := by simpa using hE
  have H1 : Hid (solveErr vars cs steps = E) := by show _ = _; unfold solveErr; rw [if_pos (by rw [Hck.out]; exact hE), Hck.out]
  have H2 : Hid (solveM vars cs steps = []) := by show _ = _; unfold solveM; rw [if_pos (.inl (by rw [Hck.out]; exact hE))]
  have H3 : Hid (solveP vars cs steps = []) := by show _ = _; unfold solveP; rw [if_pos (.inl (by rw [Hck.out]; exact hE))]
  clear hE
  go_wp2_with fail
  have hW := (HA1.out.set_ 0 (.slice none 0 0)).set_ 1 (.slice none 0 0)
  have hbz := (Hb1.out.setCell (p := ⟨w.heap.size + 1, 0, none⟩) (by simp) (.slice none 0 0)).setCell (p := ⟨w.heap.size + 1, 1, none⟩) (by simp) (.slice none 0 0)
  simp only [List.set_cons_succ, List.set_cons_zero] at hW
  generalize hwz : (World.setCell (World.setCell _ _ _) _ _) = wz at hW hbz ⊢
  have z0 := hW.cell 0
  have z1 := hW.cell 1
  simp only [qgz, qgs] at z0 z1
  refine bodyPost_ret (v := .tuple #[.agg #[_, _], .int .i64 _]) (by simp [results, Tryz.results26, go_sem, z0, z1]; exact ⟨⟨rfl, rfl⟩, rfl⟩) rfl ?_
  exact ⟨none, 0, 0, none, 0, 0, by rw [H1.out], by rw [H2.out]; exact Row.nil_, ⟨Nat.le_refl _, Nat.zero_le _⟩, by rw [H3.out]; exact RClauses.nil_, ⟨Nat.le_refl _, Nat.zero_le _⟩, hbz⟩
end Go.Proofs.YtedbhlgjcnnknaaGreatDoor

/- Plain: what RupMore says of badErr, badK, refOk. -/
namespace Go.Proofs.YtedbhlgjcnnknaaGreatDoor
open Go.RowKit
theorem ckClauses_zero {cs : List (List Int)} {vars : Int} (h : ∀ c ∈ cs, ckClause c vars = 0) : ckClauses cs vars = 0 :=
 ckClauses_good (k := cs.length) (fun c hc => h c (List.mem_of_mem_take hc)) rfl
end Go.Proofs.YtedbhlgjcnnknaaGreatDoor

/- Walks: cnf.abs, the closure of cnf.Holds, cnf.Holds. -/
namespace Go.Proofs.YtedbhlgjcnnknaaGreatDoor
open Go.RowKit


end Go.Proofs.YtedbhlgjcnnknaaGreatDoor

/- Walk: cnf.Holds. -/
namespace Go.Proofs.YtedbhlgjcnnknaaGreatDoor
open Go.RowKit
end Go.Proofs.YtedbhlgjcnnknaaGreatDoor

/- Plain: what Solve tells: the least model, or a proof. -/
namespace Go.Proofs.YtedbhlgjcnnknaaGreatDoor
open Go.RowKit
theorem ckClause_of {N : Nat} {c : List Int} (h : Qm.IsCl N c) (hl : c.length ≤ 60) : ckClause c (N : Int) = 0 := by
 unfold ckClause
 rw [if_neg (by omega), if_neg]
 intro h2
 obtain ⟨x, hx, hb⟩ := List.any_eq_true.1 h2
 have h3 := h x hx
 have h4 := h3.1
 have h5 := h3.2
 rw [badLit_no (by omega)] at hb
 cases hb
theorem resOf_eq {N : Nat} {cs : List (List Int)} (hc : ∀ c ∈ cs, Qm.IsCl N c) (st : Nat) : resOf N cs st = Qm.searchR N cs (N + 1) st [] [] :=
 Qm.search_eq hc _ _ _ _ _ (fun n hn => by simp at hn) rfl
end Go.Proofs.YtedbhlgjcnnknaaGreatDoor

/- The search over a wish's formula takes at most twice as many steps as there are choices' models. No program in sight. -/
namespace Go.Proofs.YtedbhlgjcnnknaaGreatDoor
open Go.RowKit Qm

theorem enc_formula {ps : List Pk} {v : Ws} (h : ckWish ps v = 0) : ckFormula ((encW ps v).vars : Int) (encW ps v).cls = 0 := by
 have E := encW_ok h
 have h1 := E.n400
 unfold ckFormula
 rw [if_neg (by omega), if_neg (by have := E.len; omega)]
 exact ckClauses_zero fun c hc => ckClause_of (E.cl c hc).1 (E.cl c hc).2
theorem pow_le {M : Nat} (h : M ≤ 14) : 1 ≤ 2 ^ (M + 1) ∧ 2 ^ (M + 1) ≤ 32768 := by
 refine ⟨Nat.one_le_two_pow, ?_⟩
 have := Nat.pow_le_pow_right (n := 2) (by decide) (show M + 1 ≤ 15 by omega)
 omega
theorem enc_steps {ps : List Pk} {v : Ws} (h : ckWish ps v = 0) : solveErr ((encW ps v).vars : Int) (encW ps v).cls ((2 ^ (manyC ps + 1) : Nat) : Int) = 0 := by
 have E := encW_ok h
 have hp := pow_le E.many14
 have hcl : ∀ c ∈ (encW ps v).cls, Qm.IsCl (encW ps v).vars c := fun c hc => (E.cl c hc).1
 have hW := Qm.searchR_steps hcl E.many (by have := E.many14; omega) E.settles (manyC ps) ((encW ps v).vars + 1) (2 ^ (manyC ps + 1)) [] [] (fun n hn => by cases hn) (fun v _ => Qm.openM_le) (by simp) (by simp) (by omega)
 unfold solveErr
 rw [if_neg (by rw [enc_formula h]; simp), if_neg (by omega)]
 simp only [Int.toNat_natCast]
 rw [resOf_eq hcl]
 revert hW
 cases searchR (encW ps v).vars (encW ps v).cls ((encW ps v).vars + 1) (2 ^ (manyC ps + 1)) [] [] with
 | out => intro h; exact h.elim
 | found m => intro _; rfl
 | no a b => intro _; rfl
end Go.Proofs.YtedbhlgjcnnknaaGreatDoor

/- What only grows while a wish is encoded; how big the literals are. No program in sight. -/
namespace Go.Proofs.YtedbhlgjcnnknaaGreatDoor
open Go.RowKit Qm

def DLe (d d' : Dk) : Prop := d.vars ≤ d'.vars ∧ d.cls.length ≤ d'.cls.length
theorem DLe.refl (d : Dk) : DLe d d := ⟨Nat.le_refl _, Nat.le_refl _⟩
theorem DLe.trans {a b c : Dk} (h : DLe a b) (k : DLe b c) : DLe a c := ⟨Nat.le_trans h.1 k.1, Nat.le_trans h.2 k.2⟩
theorem bothD_cases (d : Dk) (l : List Int) : (∃ x, l = [x] ∧ bothD d l = (d, x)) ∨ (l.length ≠ 1 ∧ bothD d l = ({ d with vars := d.vars + 1, cls := d.cls ++ gate ((d.vars : Int) + 1) l }, (d.vars : Int) + 1)) := by
 match l with
 | [x] => exact .inl ⟨x, rfl, rfl⟩
 | [] => exact .inr ⟨by simp, rfl⟩
 | x :: y :: r => exact .inr ⟨by simp, rfl⟩
theorem bothD_le (d : Dk) (l : List Int) : DLe d (bothD d l).1 := by
 rcases bothD_cases d l with ⟨x, _, h⟩ | ⟨_, h⟩
 ·rw [h]; exact DLe.refl _
 ·rw [h]; exact ⟨Nat.le_succ _, by show _ ≤ (d.cls ++ _).length; rw [List.length_append]; omega⟩
theorem oneD_le (d : Dk) (l : List Int) : DLe d (oneD d l).1 := bothD_le d _
theorem addD_le (d : Dk) (c : List Int) : DLe d (addD d c) := ⟨Nat.le_refl _, by show _ ≤ (d.cls ++ _).length; rw [List.length_append]; omega⟩
theorem meanStep_le (X : Chs) (ps : List Pk) (a : At) (but : Int) (s : Dk × List Int) (i : Nat) : DLe s.1 (meanStep X ps a but s i).1 := by
 unfold meanStep
 split
 ·exact DLe.refl _
 ·split
  ·exact DLe.refl _
  ·cases ixOf a.fl (pkOf ps i).fs with
   | none => exact DLe.refl _
   | some k =>
    dsimp only
    split
    ·exact bothD_le _ _
    ·exact DLe.refl _
theorem meansTo_le (X : Chs) (ps : List Pk) (a : At) (but : Int) (d : Dk) (j : Nat) : ∀ k, DLe (meansTo X ps a but d j).1 (meansTo X ps a but d (j + k)).1
 | 0 => DLe.refl _
 | k + 1 => (meansTo_le X ps a but d j k).trans (meanStep_le X ps a but _ _)
theorem meansD_le (X : Chs) (ps : List Pk) (a : At) (but : Int) (d : Dk) : DLe d (meansD X ps a but d).1 := by
 have := meansTo_le X ps a but d 0 ps.length
 rwa [Nat.zero_add] at this
theorem kidsD_le (X : Chs) (ps : List Pk) (i : Nat) : ∀ (ks : List Nd), (∀ x ∈ ks, ∀ d, DLe d (needD X ps i x d).1) → ∀ d, DLe d (kidsD X ps i ks d).1
 | [], _, d => DLe.refl _
 | x :: r, h, d => by
  rw [kidsD]
  exact (h x (List.mem_cons_self ..) d).trans (kidsD_le X ps i r (fun y hy => h y (List.mem_cons_of_mem _ hy)) _)
theorem needD_le (X : Chs) (ps : List Pk) (i : Nat) : ∀ (y : Nd) (d : Dk), DLe d (needD X ps i y d).1 := by
 refine Nd.ind fun kd a f no ks ih => ?_
 intro d
 have hk := kidsD_le X ps i ks ih d
 rw [needD]
 split
 ·exact (meansD_le ..).trans (oneD_le ..)
 ·split
  ·exact (meansD_le ..).trans (oneD_le ..)
  ·split
   ·exact hk.trans (oneD_le ..)
   ·split
    ·exact (hk.trans (bothD_le ..)).trans (oneD_le ..)
    ·exact hk.trans (bothD_le ..)
theorem confTo_le (X : Chs) (ps : List Pk) (i : Nat) (d : Dk) (j : Nat) : ∀ k, DLe (confTo X ps i d j) (confTo X ps i d (j + k))
 | 0 => DLe.refl _
 | k + 1 => by
  refine (confTo_le X ps i d j k).trans ?_
  show DLe _ (confTo X ps i d (j + k + 1))
  rw [confTo]
  split
  ·exact addD_le ..
  ·exact DLe.refl _
theorem pkD_le (X : Chs) (ps : List Pk) (i : Nat) (d : Dk) : DLe d (pkD X ps i d) := by
 unfold pkD
 have := confTo_le X ps i d 0 i
 rw [Nat.zero_add] at this
 exact (DLe.trans this (needD_le ..)).trans (addD_le ..)
theorem pksD_le (X : Chs) (ps : List Pk) (d : Dk) (j : Nat) : ∀ k, DLe (pksD X ps d j) (pksD X ps d (j + k))
 | 0 => DLe.refl _
 | k + 1 => (pksD_le X ps d j k).trans (pkD_le ..)
theorem masksD_le (X : Chs) : ∀ (ms : List Int) (d : Dk), DLe d (masksD X ms d)
 | [], d => DLe.refl _
 | k :: r, d => by rw [masksD]; exact (addD_le ..).trans (masksD_le X r _)
theorem tgtsD_le (X : Chs) (ps : List Pk) : ∀ (ts : List At) (d : Dk), DLe d (tgtsD X ps ts d)
 | [], d => DLe.refl _
 | a :: r, d => by rw [tgtsD]; exact ((meansD_le ..).trans (addD_le ..)).trans (tgtsD_le X ps r _)

/-! ### how big -/
def LIn (d : Dk) (l : List Int) : Prop := ∀ x ∈ l, x.natAbs ≤ d.vars
structure DIn (X : Chs) (ps : List Pk) (d : Dk) : Prop where
 pick : ∀ i, i < ps.length → (X.pick i).natAbs ≤ d.vars
 on : ∀ i k, i < ps.length → k < (pkOf ps i).fs.length → (X.on i k).natAbs ≤ d.vars
 pair : ∀ n f, (d.pair n f).natAbs ≤ d.vars
section
variable {X : Chs} {ps : List Pk} {d d' : Dk}
theorem LIn.up {l : List Int} (h : LIn d l) (hd : d.vars ≤ d'.vars) : LIn d' l := fun x hx => Nat.le_trans (h x hx) hd
theorem DIn.up (h : DIn X ps d) (hd : d.vars ≤ d'.vars) (hp : d'.pair = d.pair) : DIn X ps d' :=
 ⟨fun i hi => Nat.le_trans (h.pick i hi) hd, fun i k hi hk => Nat.le_trans (h.on i k hi hk) hd, fun n f => by rw [hp]; exact Nat.le_trans (h.pair n f) hd⟩
theorem bothD_pair (d : Dk) (l : List Int) : (bothD d l).1.pair = d.pair := by
 rcases bothD_cases d l with ⟨x, _, h⟩ | ⟨_, h⟩ <;> rw [h]
theorem bothD_in (h : DIn X ps d) {l : List Int} (hl : LIn d l) : DIn X ps (bothD d l).1 ∧ (bothD d l).2.natAbs ≤ (bothD d l).1.vars := by
 refine ⟨h.up (bothD_le d l).1 (bothD_pair d l), ?_⟩
 rcases bothD_cases d l with ⟨x, rfl, h⟩ | ⟨_, h⟩
 ·rw [h]; exact hl x (List.mem_singleton.2 rfl)
 ·rw [h]; dsimp only; omega
theorem oneD_in (h : DIn X ps d) {l : List Int} (hl : LIn d l) : DIn X ps (oneD d l).1 ∧ (oneD d l).2.natAbs ≤ (oneD d l).1.vars := by
 have := bothD_in h (l := l.map Neg.neg) (fun x hx => by obtain ⟨y, hy, rfl⟩ := List.mem_map.1 hx; rw [Int.natAbs_neg]; exact hl y hy)
 refine ⟨this.1, ?_⟩
 show (-(bothD d (l.map Neg.neg)).2).natAbs ≤ _
 rw [Int.natAbs_neg]; exact this.2
theorem askD_in (h : DIn X ps d) {a : At} {i k : Nat} (hi : i < ps.length) (hk : k < (pkOf ps i).fs.length) : (askD X a i k).natAbs ≤ d.vars := by
 unfold askD
 split
 ·exact h.on i k hi hk
 ·rw [Int.natAbs_neg]; exact h.on i k hi hk
theorem meanStep_in {a : At} {but : Int} {s : Dk × List Int} {i : Nat} (h : DIn X ps s.1) (hl : LIn s.1 s.2) (hi : i < ps.length) : DIn X ps (meanStep X ps a but s i).1 ∧ LIn (meanStep X ps a but s i).1 (meanStep X ps a but s i).2 := by
 unfold meanStep
 split
 ·exact ⟨h, hl⟩
 ·split
  ·exact ⟨h, fun x hx => by
    rcases List.mem_append.1 hx with hx | hx
    ·exact hl x hx
    ·rw [List.mem_singleton.1 hx]; exact h.pick i hi⟩
  ·cases hix : ixOf a.fl (pkOf ps i).fs with
   | none => exact ⟨h, hl⟩
   | some k =>
    dsimp only
    split
    ·have hb := bothD_in h (l := [X.pick i, askD X a i k]) (fun x hx => by
      simp only [List.mem_cons, List.not_mem_nil, or_false] at hx
      rcases hx with rfl | rfl
      ·exact h.pick i hi
      ·exact askD_in h hi (ixOf_lt hix))
     have hle := bothD_le s.1 [X.pick i, askD X a i k]
     refine ⟨⟨hb.1.pick, hb.1.on, fun n f => ?_⟩, fun x hx => ?_⟩
     ·show (if _ then _ else _ : Int).natAbs ≤ (bothD s.1 [X.pick i, askD X a i k]).1.vars
      split
      ·exact hb.2
      ·exact hb.1.pair n f
     ·rcases List.mem_append.1 hx with hx | hx
      ·exact Nat.le_trans (hl x hx) hle.1
      ·rw [List.mem_singleton.1 hx]; exact hb.2
    ·exact ⟨h, fun x hx => by
      rcases List.mem_append.1 hx with hx | hx
      ·exact hl x hx
      ·rw [List.mem_singleton.1 hx]; exact h.pair _ _⟩
theorem meansTo_in (h : DIn X ps d) (a : At) (but : Int) : ∀ j, j ≤ ps.length → DIn X ps (meansTo X ps a but d j).1 ∧ LIn (meansTo X ps a but d j).1 (meansTo X ps a but d j).2
 | 0, _ => ⟨h, fun x hx => by cases hx⟩
 | j + 1, hj => by
  have := meansTo_in h a but j (by omega)
  exact meanStep_in this.1 this.2 (by omega)
theorem ifLit_in (h : DIn X ps d) {i : Nat} (hi : i < ps.length) (f : Qm.W) (no : Bool) : (ifLit X ps i f no).natAbs ≤ d.vars := by
 unfold ifLit
 cases hix : ixOf f (pkOf ps i).fs with
 | none => exact Nat.zero_le _
 | some j =>
  dsimp only
  split
  ·rw [Int.natAbs_neg]; exact h.on i j hi (ixOf_lt hix)
  ·exact h.on i j hi (ixOf_lt hix)
theorem kidsD_in {i : Nat} : ∀ (ks : List Nd), (∀ x ∈ ks, ∀ d, DIn X ps d → DIn X ps (needD X ps i x d).1 ∧ (needD X ps i x d).2.natAbs ≤ (needD X ps i x d).1.vars) → ∀ d, DIn X ps d → DIn X ps (kidsD X ps i ks d).1 ∧ LIn (kidsD X ps i ks d).1 (kidsD X ps i ks d).2
 | [], _, d, h => ⟨h, fun x hx => by cases hx⟩
 | x :: r, ih, d, h => by
  have h1 := ih x (List.mem_cons_self ..) d h
  have h2 := kidsD_in r (fun y hy => ih y (List.mem_cons_of_mem _ hy)) _ h1.1
  have hle := kidsD_le X ps i r (fun y _ d => needD_le X ps i y d) (needD X ps i x d).1
  rw [kidsD]
  refine ⟨h2.1, fun z hz => ?_⟩
  rcases List.mem_cons.1 hz with rfl | hz
  ·exact Nat.le_trans h1.2 hle.1
  ·exact h2.2 z hz
theorem needD_in {i : Nat} (hi : i < ps.length) : ∀ (y : Nd) (d : Dk), DIn X ps d → DIn X ps (needD X ps i y d).1 ∧ (needD X ps i y d).2.natAbs ≤ (needD X ps i y d).1.vars := by
 refine Nd.ind fun kd a f no ks ih => ?_
 intro d h
 have hk := kidsD_in ks ih d h
 have hm := fun but => meansTo_in h a but ps.length (Nat.le_refl _)
 rw [needD]
 split
 ·exact oneD_in (hm _).1 (hm _).2
 ·split
  ·have := oneD_in (hm (i : Int)).1 (hm (i : Int)).2
   refine ⟨this.1, ?_⟩
   dsimp only
   rw [Int.natAbs_neg]; exact this.2
  ·split
   ·exact oneD_in hk.1 hk.2
   ·have hb := bothD_in hk.1 hk.2
    split
    ·exact oneD_in hb.1 (fun x hx => by
      simp only [List.mem_cons, List.not_mem_nil, or_false] at hx
      rcases hx with rfl | rfl
      ·rw [Int.natAbs_neg]; exact ifLit_in hb.1 hi f no
      ·exact hb.2)
    ·exact hb
end
end Go.Proofs.YtedbhlgjcnnknaaGreatDoor

/- Choices, step by step, as the program lays them. No program in sight. -/
namespace Go.Proofs.YtedbhlgjcnnknaaGreatDoor
open Go.RowKit Qm

def pkIns (ins : List Mem) (n j : Nat) : List Int := (List.range n).map fun i => if ((insP ins).take j).contains i = true then -((ixP (insP ins) i : Int) + 1) else 0
def cntF (ins : List Mem) (i : Nat) : Nat := ((List.range i).filter fun k => !(insP ins).contains k).length
def pkAll (ps : List Pk) (v : Ws) (i : Nat) : List Int := (List.range ps.length).map fun k => if k < i ∨ (insP v.ins).contains k = true then (chW ps v).pick k else 0
theorem getD_range {α : Type} {f : Nat → α} {z : α} {n i : Nat} (h : i < n) : ((List.range n).map f).getD i z = f i := by
  rw [List.getD_eq_getElem?_getD, List.getElem?_map, List.getElem?_range h]; rfl
theorem set_range {α : Type} {f g : Nat → α} {n p : Nat} {x : α} (hx : g p = x) (h : ∀ i, i < n → i ≠ p → g i = f i) : ((List.range n).map f).set p x = (List.range n).map g := by
  apply List.ext_getElem?
  intro i
  rw [List.getElem?_set]
  simp only [List.length_map, List.length_range, List.getElem?_map]
  by_cases hi : i < n
  · rw [List.getElem?_range hi]
    by_cases hp : p = i
    · subst hp; rw [if_pos rfl, if_pos hi, Option.map_some, hx]
    · rw [if_neg hp, Option.map_some, Option.map_some, h i hi fun e => hp e.symm]
  · rw [List.getElem?_eq_none (by simpa using hi)]
    split
    · split
      · omega
      · rfl
    · rfl
section
variable {ps : List Pk} {v : Ws}
theorem insP_nodup (h : WsOk ps v) : (insP v.ins).Nodup := by
  have := insP_rise (ps := ps) h.ins
  exact this.imp fun h => Nat.ne_of_lt h
theorem pkIns_step (h : WsOk ps v) {n j p : Nat} (hj : (insP v.ins)[j]? = some p) : (pkIns v.ins n j).set p (-((j : Int) + 1)) = pkIns v.ins n (j + 1) := by
  have hix := ixP_of (insP_nodup h) hj
  obtain ⟨hl, hp⟩ := List.getElem?_eq_some_iff.1 hj
  have hmem : ∀ i, ((insP v.ins).take (j + 1)).contains i = (((insP v.ins).take j).contains i || (i == p)) := fun i => by
    rw [List.take_succ_eq_append_getElem hl, hp]
    rw [Bool.eq_iff_iff, Bool.or_eq_true, List.contains_iff_mem, List.contains_iff_mem, List.mem_append, List.mem_singleton, beq_iff_eq]
  unfold pkIns
  refine set_range ?_ fun i hi hne => ?_
  · rw [if_pos (by rw [hmem]; simp), hix]
  · have : ((insP v.ins).take (j + 1)).contains i = ((insP v.ins).take j).contains i := by rw [hmem, beq_eq_false_iff_ne.2 hne, Bool.or_false]
    rw [this]
theorem pkIns_all (h : WsOk ps v) : pkIns v.ins ps.length v.ins.length = pkAll ps v 0 := by
  unfold pkIns pkAll
  refine List.map_congr_left fun i hi => ?_
  have ht : (insP v.ins).take v.ins.length = insP v.ins := List.take_of_length_le (by unfold insP; simp)
  rw [ht]
  by_cases hc : (insP v.ins).contains i = true
  · rw [if_pos hc, if_pos (.inr hc)]
    show _ = if (insP v.ins).contains i = true then -((ixP (ordP v.ins ps.length) i : Int) + 1) else _
    rw [if_pos hc]
    have : ixP (ordP v.ins ps.length) i = ixP (insP v.ins) i := by
      have hm := List.contains_iff_mem.1 hc
      refine ixP_of (ordP_nodup h) ?_
      unfold ordP
      rw [List.getElem?_append_left (ixP_lt hm)]
      exact ixP_at hm
    rw [this]
  · rw [if_neg hc, if_neg (by simpa using hc)]
theorem cntF_succ (ins : List Mem) (i : Nat) : cntF ins (i + 1) = cntF ins i + if (insP ins).contains i = true then 0 else 1 := by
  unfold cntF
  rw [List.range_succ, List.filter_append, List.length_append]
  congr 1
  by_cases hc : (insP ins).contains i = true
  · rw [if_pos hc]; simp only [List.filter_cons, hc]; rfl
  · have hf : (insP ins).contains i = false := by simpa using hc
    rw [if_neg hc]; simp only [List.filter_cons, hf]; rfl
theorem ixP_free (h : WsOk ps v) {i : Nat} (hi : i < ps.length) (hc : (insP v.ins).contains i = false) : ixP (ordP v.ins ps.length) i = v.ins.length + cntF v.ins i := by
  refine ixP_of (ordP_nodup h) ?_
  have hl : (insP v.ins).length = v.ins.length := by unfold insP; simp
  unfold ordP
  rw [List.getElem?_append_right (by omega), hl, Nat.add_sub_cancel_left]
  unfold freeP cntF
  have : ∀ n, i < n → ((List.range n).filter fun k => !(insP v.ins).contains k)[((List.range i).filter fun k => !(insP v.ins).contains k).length]? = some i := by
    intro n
    induction n with
    | zero => intro h; omega
    | succ n ih =>
      intro hn
      rw [List.range_succ, List.filter_append]
      by_cases e : i = n
      · subst e
        rw [List.getElem?_append_right (Nat.le_refl _), Nat.sub_self]
        have hf : [i].filter (fun k => !(insP v.ins).contains k) = [i] := by simp only [List.filter_cons, hc]; rfl
        rw [hf]; rfl
      · have := ih (by omega)
        rw [List.getElem?_append_left (List.getElem?_eq_some_iff.1 this).1]
        exact this
  exact this _ hi
theorem pkAll_full : pkAll ps v ps.length = (List.range ps.length).map (chW ps v).pick := by
  unfold pkAll
  refine List.map_congr_left fun i hi => ?_
  rw [if_pos (.inl (List.mem_range.1 hi))]
theorem pkAll_old {i : Nat} (hc : (insP v.ins).contains i = true) : pkAll ps v (i + 1) = pkAll ps v i := by
  unfold pkAll
  refine List.map_congr_left fun k hk => ?_
  by_cases e : k = i
  · subst e; rw [if_pos (.inr hc), if_pos (.inr hc)]
  · by_cases h1 : k < i ∨ (insP v.ins).contains k = true
    · rw [if_pos h1, if_pos (h1.imp (by omega) id)]
    · rw [if_neg h1, if_neg fun h2 => h1 (h2.imp (by omega) id)]
theorem pkAll_new (h : WsOk ps v) {i : Nat} (hi : i < ps.length) (hc : (insP v.ins).contains i = false) : (pkAll ps v i).set i ((v.ins.length + cntF v.ins i + 1 : Nat) : Int) = pkAll ps v (i + 1) := by
  unfold pkAll
  refine set_range ?_ fun k hk hne => ?_
  · rw [if_pos (.inl (Nat.lt_succ_self i))]
    show (if (insP v.ins).contains i = true then -((ixP (ordP v.ins ps.length) i : Int) + 1) else (ixP (ordP v.ins ps.length) i : Int) + 1) = _
    rw [if_neg (by rw [hc]; decide), ixP_free h hi hc]; omega
  · by_cases h1 : k < i ∨ (insP v.ins).contains k = true
    · rw [if_pos h1, if_pos (h1.imp (by omega) id)]
    · rw [if_neg h1, if_neg fun h2 => h1 (h2.imp (by omega) id)]
theorem pkAll_at {i : Nat} (hi : i < ps.length) : (pkAll ps v i).getD i 0 = if (insP v.ins).contains i = true then (chW ps v).pick i else 0 := by
  unfold pkAll
  rw [getD_range hi]
  by_cases hc : (insP v.ins).contains i = true
  · rw [if_pos (.inr hc), if_pos hc]
  · rw [if_neg hc, if_neg]; simpa using hc
theorem pick_ne (i : Nat) : (chW ps v).pick i ≠ 0 := fun e => by
  have := pick_abs (ps := ps) (v := v) i
  rw [e] at this; simp at this
theorem cntF_all (h : WsOk ps v) : v.ins.length + cntF v.ins ps.length = ps.length := by
  have h1 := ordP_len h
  unfold ordP freeP at h1
  rw [List.length_append] at h1
  have hl : (insP v.ins).length = v.ins.length := by unfold insP; simp
  unfold cntF; omega
theorem cntF_mono {i j : Nat} (h : i ≤ j) : cntF v.ins i ≤ cntF v.ins j := by
  induction j with
  | zero => obtain rfl : i = 0 := by omega
            exact Nat.le_refl _
  | succ j ih =>
    by_cases e : i = j + 1
    · subst e; exact Nat.le_refl _
    · rw [cntF_succ]; have := ih (by omega); omega
theorem on_snoc {i k : Nat} : (List.range (k + 1)).map ((chW ps v).on i) = (List.range k).map ((chW ps v).on i) ++ [(chW ps v).on i k] := by
  rw [List.range_succ, List.map_append]; rfl
theorem ons_snoc {i : Nat} : (List.range (i + 1)).map (fun (i : Nat) => (List.range (pkOf ps i).fs.length).map ((chW ps v).on i)) = (List.range i).map (fun (i : Nat) => (List.range (pkOf ps i).fs.length).map ((chW ps v).on i)) ++ [(List.range (pkOf ps i).fs.length).map ((chW ps v).on i)] := by
  rw [List.range_succ, List.map_append]; rfl
end
theorem ckOn_mem {ps : List Pk} : ∀ {l : List (Int × Int)} {prev : Option (Int × Int)}, ckOn ps prev l = 0 → ∀ x ∈ l, 0 ≤ x.1 ∧ x.1 < ps.length ∧ 0 ≤ x.2 ∧ x.2 < ((pkOf ps x.1).fs.length : Int)
  | [], _, _, x, hx => by cases hx
  | y :: r, prev, h, x, hx => by
    unfold ckOn at h
    split at h
    · cases h
    · rename_i h1
      split at h
      · cases h
      · rcases List.mem_cons.1 hx with rfl | hx
        · omega
        · exact ckOn_mem h x hx
theorem fs_few {ps : List Pk} (h14 : manyC ps ≤ 14) {x : Int} (h0 : 0 ≤ x) (h1 : x < ps.length) : (pkOf ps x).fs.length ≤ 14 := by
  obtain ⟨i, rfl⟩ : ∃ i : Nat, x = i := ⟨x.toNat, by omega⟩
  have h := flagsBef_mono (ps := ps) (i := i + 1) (j := ps.length) (by omega)
  simp only [flagsBef] at h
  unfold manyC at h14
  omega
theorem ckOn_len {ps : List Pk} (h14 : manyC ps ≤ 14) : ∀ {l : List (Int × Int)} {q : Int × Int}, ckOn ps (some q) l = 0 → 0 ≤ q.1 → q.1 < ps.length → 0 ≤ q.2 → q.2 < 100 → (l.length : Int) + (100 * q.1 + q.2) < 100 * ps.length
  | [], q, _, _, _, _, _ => by simp; omega
  | y :: r, q, h, g1, g2, g3, g4 => by
    have hm := ckOn_mem h y (List.mem_cons_self ..)
    have hf := fs_few h14 hm.1 hm.2.1
    unfold ckOn at h
    split at h
    · cases h
    · split at h
      · cases h
      · rename_i h1 h2
        have ih := ckOn_len h14 h hm.1 hm.2.1 hm.2.2.1 (by omega)
        have hb : q.1 < y.1 ∨ (q.1 = y.1 ∧ q.2 < y.2) := by
          unfold badOn at h2
          simp at h2
          by_cases g : q.1 < y.1
          · exact .inl g
          · exact .inr (h2 (by omega))
        simp only [List.length_cons]
        omega
theorem ckOn_few {ps : List Pk} {l : List (Int × Int)} (h14 : manyC ps ≤ 14) (h8 : ps.length ≤ 8) (h : ckOn ps none l = 0) : l.length ≤ 801 := by
  match l, h with
  | [], _ => simp
  | y :: r, h =>
    have hm := ckOn_mem h y (List.mem_cons_self ..)
    have hf := fs_few h14 hm.1 hm.2.1
    unfold ckOn at h
    split at h
    · cases h
    · split at h
      · cases h
      · have ih := ckOn_len h14 h hm.1 hm.2.1 hm.2.2.1 (by omega)
        simp only [List.length_cons]
        omega
end Go.Proofs.YtedbhlgjcnnknaaGreatDoor

/-
 A map from ints to bools all of whose entries hold: a set of ints. What the operations on it give.
-/
namespace Go.Proofs.YtedbhlgjcnnknaaGreatDoor
open Go.RowKit

def IntSet (P : Program) (w : World) (b : Nat) (K : Int → Bool) (m : Nat) : Prop :=
 ∃ D : DataW Unit, w.ownsMap P 3 (plainElem P 4) b m D ∧ Maps.size D = m ∧ ∀ x : Int, (Lit.int .i64 x).wf = true → Maps.has D (.int .i64 x) = K x ∧ D.atKey (.int .i64 x) (.lit (.bool false)) = .lit (.bool (K x))

section
variable {P : Program} {w w' : World} {b m : Nat} {K : Int → Bool}
theorem wf_of {x : Int} (h1 : -9223372036854775808 ≤ x) (h2 : x ≤ 9223372036854775807) : (Lit.int .i64 x).wf = true := WalkArith.wf_i64 (by omega)
theorem IntSet.made (P : Program) (w : World) : IntSet P (w.alloc (.map #[] 0)) w.heap.size (fun _ => false) 0 :=
 ⟨.map [], World.ownsMap_made w P 3 _, rfl, fun x _ => ⟨rfl, rfl⟩⟩
theorem IntSet.kept {row : Option Nat} (h : IntSet P w b K m) (hg : w.grownBy w' row) (hne : some b ≠ row) : IntSet P w' b K m := by
 obtain ⟨D, h1, h2⟩ := h
 exact ⟨D, h1.kept hg hne, h2⟩
theorem IntSet.lt (h : IntSet P w b K m) : b < w.heap.size := by obtain ⟨D, h1, _⟩ := h; exact h1.lt
theorem IntSet.congr {K' : Int → Bool} {m' : Nat} (h : IntSet P w b K m) (hm : m = m') (hK : ∀ x, (Lit.int .i64 x).wf = true → K x = K' x) : IntSet P w b K' m' := by
 subst hm
 obtain ⟨D, h1, h2, h3⟩ := h
 exact ⟨D, h1, h2, fun x hx => by rw [← hK x hx]; exact h3 x hx⟩
theorem IntSet.look (h : IntSet P w b K m) (hk : P.underlying 3 = some (.int .i64)) (he : P.underlying 4 = some .bool) (hz : (zeroValue 4).run P w = .ok (.bool false) w) {t : TypeId} (ht : P.underlying t = some (.map 3 4)) {x : Int} (hx : (Lit.int .i64 x).wf = true) :
  (Instr.lookup t (.map (some b)) (.int .i64 x) false).run P w = .ok (.bool (K x)) w := by
 obtain ⟨D, h1, _, h3⟩ := h
 obtain ⟨v, ps, hrun, hv⟩ := h1.lookup (Maps.int_keyed hk) ht hz (plainElem_bool he false) (Maps.keyOf_int_mk hk hx)
 rw [(h3 x hx).2] at hv
 have : v = .bool (K x) := by
  unfold plainElem at hv
  rw [he] at hv
  cases v <;> simp at hv
  rw [hv.1]
 rw [hrun, this]
theorem IntSet.put (h : IntSet P w b K m) (hk : P.underlying 3 = some (.int .i64)) (he : P.underlying 4 = some .bool) {t : TypeId} (ht : P.underlying t = some (.map 3 4)) {x : Int} (hx : (Lit.int .i64 x).wf = true) (hm : m < maxLen) :
  ∃ w', (Instr.mapUpdate t (.map (some b)) (.int .i64 x) (.bool true)).run P w = .ok () w' ∧ IntSet P w' b (fun y => y == x || K y) (if K x then m else m + 1) ∧ w.grownBy w' (some b) ∧ w'.heap.size = w.heap.size := by
 obtain ⟨D, h1, h2, h3⟩ := h
 have Kd := Maps.int_keyed (P := P) hk
 have hkey := Maps.keyOf_int_mk (P := P) hk hx
 have hkl : WideAt.IsKeyLit (.int .i64 x) := Kd.key hkey
 obtain ⟨w', hrun, h4, h5⟩ := h1.store Kd ht hm hkey (plainElem_bool he true)
 have htd := h1.tidy Kd
 have hsz : Maps.size (D.put (.int .i64 x) (.lit (.bool true))) = if K x then m else m + 1 := by
  rw [Maps.size_put htd, (h3 x hx).1, h2]
 refine ⟨w', hrun, ⟨_, ?_, hsz, fun y hy => ?_⟩, h5.grown, ?_⟩
 ·have e : Maps.size (D.put (.int .i64 x) (.lit (.bool true))) ≤ if K x then m else m + 1 := by rw [hsz]; exact Nat.le_refl _
  obtain ⟨es, clock, hb, F, hs, hD⟩ := h4
  refine ⟨es, clock, hb, F, ?_, hD⟩
  rw [hD] at e
  simpa [Maps.size, length_sorted] using e
 ·by_cases hyx : y = x
  ·subst hyx
   rw [Maps.has_put_same htd.isMap hkl, Maps.atKey_put_same htd.isMap hkl]
   simp
  ·have hne : (Lit.int .i64 y) ≠ .int .i64 x := by intro e; injection e with _ e; exact hyx e
   rw [Maps.has_put_other hne, Maps.atKey_put_other hne]
   have : (y == x) = false := by simpa using hyx
   show _ = (y == x || K y) ∧ _ = DataW.lit (.bool (y == x || K y))
   rw [this, Bool.false_or]
   exact h3 y hy
 ·obtain ⟨es, clock, es', clock', _, rfl⟩ := h5
  simp [ChangeMaps.setBlock]
end
end Go.Proofs.YtedbhlgjcnnknaaGreatDoor

/- A map from pairs of ints to ints, by what it holds (0 where it holds nothing). What the operations on it give. -/
namespace Go.Proofs.YtedbhlgjcnnknaaGreatDoor
open Go.RowKit Go.WideMaps

def keyL (x y : Int) : Lit := .string (keyBytes [.int .i64 x, .int .i64 y])
structure PairKey (P : Program) (k : TypeId) : Prop where
 law : Maps.Keyed P k
 arr : ArrKey P k 3 2
 i : P.underlying 3 = some (.int .i64)
 sz : ∃ m, P.types.size = m + 1
section
variable {P : Program} {w w' : World} {k : TypeId} {b m : Nat} {K : Int → Int → Int}
theorem PairKey.key (h : PairKey P k) {x y : Int} (hx : (Lit.int .i64 x).wf = true) (hy : (Lit.int .i64 y).wf = true) : keyOf P k (.agg #[.int .i64 x, .int .i64 y]) = some (keyL x y) := keyOf_pair h.arr h.i h.sz hx hy
theorem PairKey.ne (h : PairKey P k) {x y n f : Int} (hx : (Lit.int .i64 x).wf = true) (hy : (Lit.int .i64 y).wf = true) (hn : (Lit.int .i64 n).wf = true) (hf : (Lit.int .i64 f).wf = true) (hne : ¬ (x = n ∧ y = f)) : keyL x y ≠ keyL n f := by
 intro e
 have h1 := h.key hx hy
 rw [e] at h1
 have h2 := h.law.inj h1 (h.key hn hf)
 injection h2 with h2; injection h2 with h2
 simp only [List.cons.injEq, Value.int.injEq, true_and, and_true] at h2
 exact hne h2
def PairMap (P : Program) (k : TypeId) (w : World) (b : Nat) (K : Int → Int → Int) (m : Nat) : Prop :=
 ∃ D : DataW Unit, w.ownsMap P k (plainElem P 3) b m D ∧ ∀ x y : Int, (Lit.int .i64 x).wf = true → (Lit.int .i64 y).wf = true → D.atKey (keyL x y) (.lit (.int .i64 0)) = .lit (.int .i64 (K x y))
theorem PairMap.made (P : Program) (k : TypeId) (w : World) : PairMap P k (w.alloc (.map #[] 0)) w.heap.size (fun _ _ => 0) 0 :=
 ⟨.map [], World.ownsMap_made w P k _, fun _ _ _ _ => rfl⟩
theorem PairMap.kept {row : Option Nat} (h : PairMap P k w b K m) (hg : w.grownBy w' row) (hne : some b ≠ row) : PairMap P k w' b K m := by
 obtain ⟨D, h1, h2⟩ := h
 exact ⟨D, h1.kept hg hne, h2⟩
theorem PairMap.block (h : PairMap P k w b K m) (hb : w'.heap[b]? = w.heap[b]?) : PairMap P k w' b K m := by
 obtain ⟨D, ⟨es, clock, h1, r⟩, h2⟩ := h
 exact ⟨D, ⟨es, clock, hb.trans h1, r⟩, h2⟩
theorem PairMap.mono {m' : Nat} (h : PairMap P k w b K m) (hm : m ≤ m') : PairMap P k w b K m' := by
 obtain ⟨D, h1, h2⟩ := h
 exact ⟨D, h1.mono hm, h2⟩
theorem PairMap.lt (h : PairMap P k w b K m) : b < w.heap.size := by obtain ⟨D, h1, _⟩ := h; exact h1.lt
theorem PairMap.look (h : PairMap P k w b K m) (hk : PairKey P k) (hz : (zeroValue 3).run P w = .ok (.int .i64 0) w) {t : TypeId} (ht : P.underlying t = some (.map k 3)) {x y : Int} (hx : (Lit.int .i64 x).wf = true) (hy : (Lit.int .i64 y).wf = true) :
  (Instr.lookup t (.map (some b)) (.agg #[.int .i64 x, .int .i64 y]) false).run P w = .ok (.int .i64 (K x y)) w := by
 obtain ⟨D, h1, h3⟩ := h
 obtain ⟨v, ps, hrun, hv⟩ := h1.lookup hk.law ht hz (plainElem_int hk.i (by decide)) (hk.key hx hy)
 rw [h3 x y hx hy] at hv
 obtain ⟨a, rfl, ha, _⟩ := plainElem_int_inv hk.i hv
 simp only [Prod.mk.injEq, DataW.lit.injEq, Lit.int.injEq, true_and] at ha
 rw [hrun, ha.1]
theorem PairMap.put (h : PairMap P k w b K m) (hk : PairKey P k) {t : TypeId} (ht : P.underlying t = some (.map k 3)) {x y v : Int} (hx : (Lit.int .i64 x).wf = true) (hy : (Lit.int .i64 y).wf = true) (hv : (Lit.int .i64 v).wf = true) (hm : m < maxLen) :
  ∃ w', (Instr.mapUpdate t (.map (some b)) (.agg #[.int .i64 x, .int .i64 y]) (.int .i64 v)).run P w = .ok () w' ∧ PairMap P k w' b (fun n f => if n = x ∧ f = y then v else K n f) (m + 1) ∧ w.grownBy w' (some b) ∧ w'.heap.size = w.heap.size := by
 obtain ⟨D, h1, h3⟩ := h
 have hkey := hk.key hx hy
 have hkl : WideAt.IsKeyLit (keyL x y) := hk.law.key hkey
 obtain ⟨w', hrun, h4, h5⟩ := h1.store hk.law ht hm hkey (plainElem_int hk.i hv)
 have htd := h1.tidy hk.law
 refine ⟨w', hrun, ⟨_, h4, fun n f hn hf => ?_⟩, h5.grown, ?_⟩
 ·by_cases e : n = x ∧ f = y
  ·obtain ⟨rfl, rfl⟩ := e
   rw [Maps.atKey_put_same htd.isMap hkl]
   dsimp only
   rw [if_pos (And.intro rfl rfl)]
  ·rw [Maps.atKey_put_other (hk.ne hn hf hx hy e)]
   dsimp only
   rw [if_neg e]
   exact h3 n f hn hf
 ·obtain ⟨es, clock, es', clock', _, rfl⟩ := h5
  simp [ChangeMaps.setBlock]
end
end Go.Proofs.YtedbhlgjcnnknaaGreatDoor
