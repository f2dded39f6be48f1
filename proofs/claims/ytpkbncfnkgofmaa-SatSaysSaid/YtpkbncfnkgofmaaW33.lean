/- Walk: sat.Solve. -/
import Derived.Test.YtpkbncfnkgofmaaW32
import Derived.Test.YtpkbncfnkgofmaaW9
import Derived.Test.YtpkbncfnkgofmaaW10
namespace Go.Proofs.Ytpkbncfnkgofmaa
open Go.RowKit
theorem bool_one (xs : List Bool) : ∀ u ∈ xs.map Value.bool, u.oneCell' = true := by
  intro u hu; obtain ⟨x, _, rfl⟩ := List.mem_map.1 hu; rfl
def resOf (N : Nat) (cs : List (List Int)) (st : Nat) : Qm.Res := Qm.search cs (N + 1) st [] [] (Qm.zeroVals N)
def solveErr (vars : Int) (cs : List (List Int)) (steps : Int) : Int :=
  if ckFormula vars cs ≠ 0 then ckFormula vars cs else if steps < 1 ∨ 40000 < steps then 3 else match resOf vars.toNat cs steps.toNat with | .out => 8 | _ => 0
def solveM (vars : Int) (cs : List (List Int)) (steps : Int) : List Bool := if ckFormula vars cs ≠ 0 ∨ steps < 1 ∨ 40000 < steps then [] else match resOf vars.toNat cs steps.toNat with | .found m => m | _ => []
def solveP (vars : Int) (cs : List (List Int)) (steps : Int) : List (List Int) := if ckFormula vars cs ≠ 0 ∨ steps < 1 ∨ 40000 < steps then [] else match resOf vars.toNat cs steps.toNat with | .no _ pf => pf | _ => []
def SolvePost (vars : Int) (cs : List (List Int)) (steps : Int) (w : World) (e : Ending) (w' : World) : Prop :=
  ∃ (AM : Option Addr) (nM cM : Nat) (AP : Option Addr) (nP cP : Nat), e = .returned (.tuple #[.agg #[.slice AM nM cM, .slice AP nP cP], .int .i64 (solveErr vars cs steps)]) ∧
    RBools w' (fun k => w.heap.size ≤ k ∧ k < w'.heap.size) AM nM (solveM vars cs steps) ∧ (nM ≤ cM ∧ cM ≤ maxLen) ∧ RClauses w' (fun k => w.heap.size ≤ k ∧ k < w'.heap.size) AP nP (solveP vars cs steps) ∧ (nP ≤ cP ∧ cP ≤ maxLen) ∧ Below w.heap.size w w'
set_option maxHeartbeats 8000000 in
theorem solve_any (A : Option Addr) (n cap : Nat) (vars steps : Int) (cs : List (List Int)) (w : World) (S : Nat → Prop) (hS : ∀ k, S k → k < w.heap.size)
    (hr : RClauses w S A n cs) (hn : n ≤ cap ∧ cap ≤ maxLen) (hv : -9223372036854775808 ≤ vars) (hv' : vars ≤ 9223372036854775807) (hs : -9223372036854775808 ≤ steps) (hs' : steps ≤ 9223372036854775807) :
    Calls Try.prog 38 #[.agg #[.int .i64 vars, .slice A n cap], .int .i64 steps] w (SolvePost vars cs steps w) := by
  obtain ⟨k0, hkk, hk0, hk1, hk2⟩ := info_parts bool_info
  have Hk' := Lib.hid hkk; have Hk0 := Lib.hid hk0; have Hk1 := Lib.hid hk1; have Hk2 := Lib.hid hk2
  have Hr := Lib.hid hr; have Hn := Lib.hid hn
  clear hr hn hkk hk0 hk1 hk2
  go_enter Try.func38, Try.ntmps38
  go_wp2_with fail
  have hb0 : Below w.heap.size w ((w.alloc (.cells #[.int .i64 vars, .slice A n cap] 29)).alloc (.cells #[.slice none 0 0, .slice none 0 0] 57)) := ((Below.refl _ _).alloc (Nat.le_refl _) _).alloc (by simp) _
  refine (checkFormula_any A n cap cs vars _ S (Hr.out.below hb0 hS) (fun k hk => by have := hS k hk; simp; omega) (Nat.le_trans Hn.out.1 Hn.out.2) hv hv').mono ?_
  rintro e w1 ⟨rfl, hb1⟩
  have Hb1 := Lib.hid (hb0.trans (hb1.mono hb0.size))
  have hF1 : Whole w1 w.heap.size 29 [.int .i64 vars, .slice A n cap] := Whole.below ((Whole.new w _ _ _ rfl).alloc _) hb1 (by simp; omega)
  have hA1 : Whole w1 (w.heap.size + 1) 57 [.slice none 0 0, .slice none 0 0] := Whole.below (Whole.new _ _ _ [.slice none 0 0, .slice none 0 0] (by simp)) hb1 (by simp)
  have HF1 := Lib.hid hF1; have HA1 := Lib.hid hA1
  have hf0 := hF1.cell 0
  have hf1 := hF1.cell 1
  have ha0 := hA1.cell 0
  have ha1 := hA1.cell 1
  have haf0 := hA1.free 0
  have haf1 := hA1.free 1
  simp only [List.getElem?_cons_zero, List.getElem?_cons_succ] at hf0 hf1 ha0 ha1
  clear hb0 hb1 hF1 hA1
  generalize hck : ckFormula vars cs = E
  have Hck := Lib.hid hck; clear hck
  by_cases hE : E = 0
  · subst hE
    by_cases hst : steps < 1 ∨ 40000 < steps
    · have H1 : Hid (solveErr vars cs steps = 3) := by show _ = _; unfold solveErr; rw [if_neg (by rw [Hck.out]; simp), if_pos hst]
      have H2 : Hid (solveM vars cs steps = []) := by show _ = _; unfold solveM; rw [if_pos (.inr hst)]
      have H3 : Hid (solveP vars cs steps = []) := by show _ = _; unfold solveP; rw [if_pos (.inr hst)]
      have hc : decide (steps < 1) = true ∨ (decide (steps < 1) = false ∧ decide (40000 < steps) = true) := by
        by_cases h : steps < 1
        · exact .inl (by simpa using h)
        · exact .inr ⟨by simpa using h, by simp; omega⟩
      clear hst
      rcases hc with h | ⟨h, h'⟩
      all_goals
        go_wp2_with fail
        have hW := (HA1.out.set_ 0 (.slice none 0 0)).set_ 1 (.slice none 0 0)
        have hbz := (Hb1.out.setCell (p := ⟨w.heap.size + 1, 0, none⟩) (by simp) (.slice none 0 0)).setCell (p := ⟨w.heap.size + 1, 1, none⟩) (by simp) (.slice none 0 0)
        simp only [List.set_cons_succ, List.set_cons_zero] at hW
        generalize hwz : (World.setCell (World.setCell _ _ _) _ _) = wz at hW hbz ⊢
        have z0 := hW.cell 0
        have z1 := hW.cell 1
        simp only [List.getElem?_cons_zero, List.getElem?_cons_succ] at z0 z1
        refine bodyPost_ret (v := .tuple #[.agg #[_, _], .int .i64 _]) (by simp [results, Try.results38, go_sem, z0, z1]; exact ⟨⟨rfl, rfl⟩, rfl⟩) rfl ?_
        exact ⟨none, 0, 0, none, 0, 0, by rw [H1.out], by rw [H2.out]; exact Row.nil_, ⟨Nat.le_refl _, Nat.zero_le _⟩, by rw [H3.out]; exact RClauses.nil_, ⟨Nat.le_refl _, Nat.zero_le _⟩, hbz⟩
    · obtain ⟨N, rfl, hN, hcl, hcs⟩ := ckFormula_ok Hck.out
      obtain ⟨st, rfl⟩ : ∃ st : Nat, steps = st := ⟨steps.toNat, by omega⟩
      have hst0 : 1 ≤ st ∧ st ≤ 40000 := by omega
      have hd1 : decide ((st : Int) < 1) = false := by simp; omega
      have hd2 : decide ((40000 : Int) < (st : Int)) = false := by simp; omega
      have H1 : Hid (solveErr (N : Int) cs (st : Int) = match resOf N cs st with | .out => 8 | _ => 0) := by show _ = _; unfold solveErr; rw [if_neg (by rw [Hck.out]; simp), if_neg hst]; simp
      have H2 : Hid (solveM (N : Int) cs (st : Int) = match resOf N cs st with | .found m => m | _ => []) := by show _ = _; unfold solveM; rw [if_neg (by rw [Hck.out]; simpa using hst)]; simp
      have H3 : Hid (solveP (N : Int) cs (st : Int) = match resOf N cs st with | .no _ pf => pf | _ => []) := by show _ = _; unfold solveP; rw [if_neg (by rw [Hck.out]; simpa using hst)]; simp
      have Hcs : Hid (∀ c ∈ cs, Qm.IsCl N c) := fun c hc => (hcs c hc).1
      have hmk := fun w => run_make_zeros N hN w
      have hww0 : w.heap.size < w1.heap.size := HF1.out.lt
      clear hst hcs
      go_wp2_with fail
      have hbs : Below w1.heap.size w1 ((w1.alloc (.cells #[.int .i64 (N : Int), .slice A n cap, .int .i64 (st : Int), .slice none 0 0, .slice none 0 0, .bool false] 80)).alloc (zeroObj N)) := ((Below.refl _ _).alloc (Nat.le_refl _) _).alloc (by simp) _
      have hS1 : ∀ k, S k → k < w1.heap.size := fun k hk => by have := hS k hk; have := Hb1.out.size; omega
      have hblk : SBlk ((w1.alloc (.cells #[.int .i64 (N : Int), .slice A n cap, .int .i64 (st : Int), .slice none 0 0, .slice none 0 0, .bool false] 80)).alloc (zeroObj N)) w1.heap.size (N : Int) A n cap (st : Int) (.slice none 0 0) (.slice none 0 0) false := (Whole.new w1 _ 80 [.int .i64 (N : Int), .slice A n cap, .int .i64 (st : Int), .slice none 0 0, .slice none 0 0, .bool false] rfl).alloc _
      have hss : SState (w1.heap.size + 1) w1.heap.size N A n cap cs S st (.slice none 0 0) [] [] ((w1.alloc (.cells #[.int .i64 (N : Int), .slice A n cap, .int .i64 (st : Int), .slice none 0 0, .slice none 0 0, .bool false] 80)).alloc (zeroObj N)).heap.size ((w1.alloc (.cells #[.int .i64 (N : Int), .slice A n cap, .int .i64 (st : Int), .slice none 0 0, .slice none 0 0, .bool false] 80)).alloc (zeroObj N)) :=
        ⟨hblk, World.ownsRow_nil _ _ _ _, fun g h => by simp [Value.ownBlock] at h, Heads.nil_, (Hr.out.below Hb1.out hS).below hbs hS1, Nat.le_refl _, by simp, fun k hk => by have := hS1 k hk; omega⟩
      have hzw : Whole ((w1.alloc (.cells #[.int .i64 (N : Int), .slice A n cap, .int .i64 (st : Int), .slice none 0 0, .slice none 0 0, .bool false] 80)).alloc (zeroObj N)) (w1.heap.size + 1) 3 ((Qm.zeroVals N).map (.int .i64)) := whole_zeros _ N _ (by simp)
      refine (from_any (w1.heap.size + 1) w1.heap.size N A n cap cs S hN Hn.out Hcs.out (by omega) (N + 1) st [] [] (.slice none 0 0) [] (Qm.zeroVals N) none (some ⟨w1.heap.size + 1, 0, none⟩) 0 0 (N + 1) _ (fun _ => False) (fun k => k = w1.heap.size + 1) hss (by omega) (by simp; omega) RInts.nil_ (fun _ h => absurd h id) (Nat.zero_le _) (fun n hn => by simp at hn)
        (Whole.ints (S := fun k => k = w1.heap.size + 1) hzw rfl (Qm.zeroVals_fine N).1) (fun k hk => by simp; omega) (Qm.zeroVals_fine N) (by rw [Qm.zeros_zeroVals]; omega)).mono ?_
      intro e w2 hpost
      clear hmk hd1 hd2
      have hres0 : Qm.search cs (N + 1) st [] [] (Qm.zeroVals N) = resOf N cs st := rfl
      rw [hres0] at hpost
      clear hres0 hss hzw hblk
      have hfar := hpost.1
      have hb12 : Below w1.heap.size w1 w2 := hbs.trans (hfar.below (B := w1.heap.size) (by simp; omega) (fun i h => by
        rcases h with h | h
        · omega
        · simp [Value.ownBlock] at h))
      have HA2 := Lib.hid (HA1.out.below hb12 HA1.out.lt)
      have Hb2 := Lib.hid (Hb1.out.trans (hb12.mono Hb1.out.size))
      have hw12 : w1.heap.size + 1 < w2.heap.size := by have := hfar.size; simp at this; omega
      have hww1 : w.heap.size + 1 < w1.heap.size := HA1.out.lt
      have hw12' : w1.heap.size < w2.heap.size := by omega
      clear hf0 hf1 ha0 ha1 haf0 haf1 hfar hb12 hbs
      have ha0 := HA2.out.cell 0
      have ha1 := HA2.out.cell 1
      have haf0 := HA2.out.free 0
      have haf1 := HA2.out.free 1
      simp only [List.getElem?_cons_zero, List.getElem?_cons_succ] at ha0 ha1
      generalize hr0 : resOf N cs st = r at *
      have Hr0 := Lib.hid hr0; clear hr0
      cases r with
      | out =>
        obtain ⟨_, rfl, sto, Po, hblk⟩ := hpost
        have hq5 := hblk.cell 5
        simp only [List.getElem?_cons_zero, List.getElem?_cons_succ] at hq5
        clear hblk
        go_wp2_with fail
        have hW := (HA2.out.set_ 0 (.slice none 0 0)).set_ 1 (.slice none 0 0)
        have hbz := (Hb2.out.setCell (p := ⟨w.heap.size + 1, 0, none⟩) (by simp) (.slice none 0 0)).setCell (p := ⟨w.heap.size + 1, 1, none⟩) (by simp) (.slice none 0 0)
        simp only [List.set_cons_succ, List.set_cons_zero] at hW
        generalize hwz : (World.setCell (World.setCell _ _ _) _ _) = wz at hW hbz ⊢
        have z0 := hW.cell 0
        have z1 := hW.cell 1
        simp only [List.getElem?_cons_zero, List.getElem?_cons_succ] at z0 z1
        refine bodyPost_ret (v := .tuple #[.agg #[_, _], .int .i64 _]) (by simp [results, Try.results38, go_sem, z0, z1]; exact ⟨⟨rfl, rfl⟩, rfl⟩) rfl ?_
        exact ⟨none, 0, 0, none, 0, 0, by rw [H1.out], by rw [H2.out]; exact Row.nil_, ⟨Nat.le_refl _, Nat.zero_le _⟩, by rw [H3.out]; exact RClauses.nil_, ⟨Nat.le_refl _, Nat.zero_le _⟩, hbz⟩
      | found m =>
        obtain ⟨_, rfl, sto, Po, M, cM, hblk, hbools, hcM, hcM', _⟩ := hpost
        have hq5 := hblk.cell 5
        have hq4 := hblk.cell 4
        simp only [List.getElem?_cons_zero, List.getElem?_cons_succ] at hq5 hq4
        have Hbools := Lib.hid hbools
        have hml : m.length ≤ 400 := by
          have := Qm.search_found_len Hcs.out _ _ _ _ _ (Qm.zeroVals_fine N) Hr0.out
          omega
        clear hblk hbools
        go_wp2_with (at_builtin; refine wpList_append_row rfl _ _ 39 rfl w2.heap.size 4 k0 (.bool false) 1 Try.underlying39 Hk'.out Hk0.out Hk1.out Hk2.out rfl _ 0 [] rfl (World.ownsRow_made w2 #[] 0 (Nat.le_refl _) (Nat.zero_le _) rfl) M m.length cM (m.map .bool) rfl (fun k => k < w2.heap.size) (Row.below (Row.more Hbools.out (fun k hk => hk.2.1)) ((Below.refl w2.heap.size w2).alloc (Nat.le_refl _) _) (fun k hk => hk)) (bool_one m) (by unfold maxLen; omega) (by omega) (by simp) ?_)
        intro A5 c5 w5 hn5 hc5 hown5 hg5
        have hb25 : Below w2.heap.size w2 w5 := ((Below.refl _ _).alloc (Nat.le_refl _) _).trans (below_of_grown hg5 (by simp) (fun k e => by simp [Value.ownBlock] at e; omega))
        have hA5 := HA2.out.below hb25 HA2.out.lt
        have ha0 := hA5.cell 0
        have ha1 := hA5.cell 1
        have haf0 := hA5.free 0
        have haf1 := hA5.free 1
        simp only [List.getElem?_cons_zero, List.getElem?_cons_succ] at ha0 ha1
        obtain ⟨_, _, e5, _, _, hrow5⟩ := own_form hown5
        injection e5 with e51 e52 e53
        subst e51
        have hrow5' : RBools w5 (fun k => w2.heap.size ≤ k ∧ k < w5.heap.size) A5 m.length m := by
          have := hrow5
          first | exact this | (simp only [Nat.zero_add, List.nil_append] at this; exact this)
        have Hrow5 := Lib.hid hrow5'
        try simp only [Nat.zero_add] at hn5
        have Hn5 : Hid (m.length ≤ c5 ∧ c5 ≤ maxLen) := ⟨hn5, hc5⟩
        have Hb5 := Lib.hid (Hb2.out.trans (hb25.mono Hb2.out.size))
        have Hb25 := Lib.hid hb25
        have hw25 : w2.heap.size ≤ w5.heap.size := hb25.size
        clear hq4 hq5 hown5 hg5 hrow5 hrow5' hn5 hc5 hb25 e52 e53
        have HA5 := Lib.hid hA5; clear hA5
        go_wp2_with fail
        have hW := (HA5.out.set_ 0 (.slice A5 m.length c5)).set_ 1 (.slice none 0 0)
        have hbz := (Hb5.out.setCell (p := ⟨w.heap.size + 1, 0, none⟩) (by simp) (.slice A5 m.length c5)).setCell (p := ⟨w.heap.size + 1, 1, none⟩) (by simp) (.slice none 0 0)
        have hfz : Far (fun i => i = w.heap.size + 1) w5 ((w5.setCell ⟨w.heap.size + 1, 0, none⟩ (.slice A5 m.length c5)).setCell ⟨w.heap.size + 1, 1, none⟩ (.slice none 0 0)) := (Far.set_ (D := fun i => i = w.heap.size + 1) rfl 0 _).trans (Far.set_ (D := fun i => i = w.heap.size + 1) rfl 1 _) (fun i _ h => h)
        have hrz := (hfz.bools Hrow5.out (fun k hk => ⟨hk.2, by omega⟩)).more (S' := fun k => w.heap.size ≤ k ∧ k < w5.heap.size) (fun k hk => ⟨by omega, hk.2⟩)
        have hszz := hfz.size
        clear hfz
        simp only [List.set_cons_succ, List.set_cons_zero] at hW
        generalize hwz : (World.setCell (World.setCell _ _ _) _ _) = wz at hW hbz hrz hszz ⊢
        have z0 := hW.cell 0
        have z1 := hW.cell 1
        simp only [List.getElem?_cons_zero, List.getElem?_cons_succ] at z0 z1
        refine bodyPost_ret (v := .tuple #[.agg #[_, _], .int .i64 _]) (by simp [results, Try.results38, go_sem, z0, z1]; exact ⟨⟨rfl, rfl⟩, rfl⟩) rfl ?_
        exact ⟨A5, m.length, c5, none, 0, 0, by rw [H1.out], by rw [H2.out]; exact hrz.more (fun k hk => ⟨hk.1, by omega⟩), Hn5.out, by rw [H3.out]; exact RClauses.nil_, ⟨Nat.le_refl _, Nat.zero_le _⟩, hbz⟩
      | no st' pf =>
        obtain ⟨_, rfl, Po, hso, hst, _⟩ := hpost
        obtain ⟨AP, cP, rfl, hcP, hcP', hrowP⟩ := own_form hst.own
        have hq5 := hst.blk.cell 5
        have hq3 := hst.blk.cell 3
        simp only [List.getElem?_cons_zero, List.getElem?_cons_succ] at hq5 hq3
        have Hst := Lib.hid hst; have HcP : Hid (pf.length ≤ cP ∧ cP ≤ maxLen) := ⟨hcP, hcP'⟩; have HrP := Lib.hid hrowP
        clear hst hcP hcP' hrowP
        go_wp2_with fail
        have hW := (HA2.out.set_ 0 (.slice none 0 0)).set_ 1 (.slice AP pf.length cP)
        have hbz := (Hb2.out.setCell (p := ⟨w.heap.size + 1, 0, none⟩) (by simp) (.slice none 0 0)).setCell (p := ⟨w.heap.size + 1, 1, none⟩) (by simp) (.slice AP pf.length cP)
        have hfz : Far (fun i => i = w.heap.size + 1) w2 ((w2.setCell ⟨w.heap.size + 1, 0, none⟩ (.slice none 0 0)).setCell ⟨w.heap.size + 1, 1, none⟩ (.slice AP pf.length cP)) := (Far.set_ (D := fun i => i = w.heap.size + 1) rfl 0 _).trans (Far.set_ (D := fun i => i = w.heap.size + 1) rfl 1 _) (fun i _ h => h)
        have hrz : RClauses w2 (fun k => w1.heap.size + 1 ≤ k ∧ k < w2.heap.size) AP pf.length pf := RClauses.of_ (hs := hso) (HrP.out) (Hst.out.heads.more (fun k hk => ⟨hk.1, hk.2.1⟩))
        have hrz' := (hfz.clauses hrz (fun k hk => ⟨hk.2, by omega⟩)).more (S' := fun k => w.heap.size ≤ k ∧ k < w2.heap.size) (fun k hk => ⟨by omega, hk.2⟩)
        have hszz := hfz.size
        clear hfz hrz
        simp only [List.set_cons_succ, List.set_cons_zero] at hW
        generalize hwz : (World.setCell (World.setCell _ _ _) _ _) = wz at hW hbz hrz' hszz ⊢
        have z0 := hW.cell 0
        have z1 := hW.cell 1
        simp only [List.getElem?_cons_zero, List.getElem?_cons_succ] at z0 z1
        refine bodyPost_ret (v := .tuple #[.agg #[_, _], .int .i64 _]) (by simp [results, Try.results38, go_sem, z0, z1]; exact ⟨⟨rfl, rfl⟩, rfl⟩) rfl ?_
        exact ⟨none, 0, 0, AP, pf.length, cP, by rw [H1.out], by rw [H2.out]; exact Row.nil_, ⟨Nat.le_refl _, Nat.zero_le _⟩, by rw [H3.out]; exact hrz'.more (fun k hk => ⟨hk.1, by omega⟩), HcP.out, hbz⟩
  · have hE1 : (E != 0) = true := by simpa using hE
    have H1 : Hid (solveErr vars cs steps = E) := by show _ = _; unfold solveErr; rw [if_pos (by rw [Hck.out]; exact hE), Hck.out]
    have H2 : Hid (solveM vars cs steps = []) := by show _ = _; unfold solveM; rw [if_pos (.inl (by rw [Hck.out]; exact hE))]
    have H3 : Hid (solveP vars cs steps = []) := by show _ = _; unfold solveP; rw [if_pos (.inl (by rw [Hck.out]; exact hE))]
    clear hE
    go_wp2_with fail
    have hW := (HA1.out.set_ 0 (.slice none 0 0)).set_ 1 (.slice none 0 0)
    have hbz := (Hb1.out.setCell (p := ⟨w.heap.size + 1, 0, none⟩) (by simp) (.slice none 0 0)).setCell (p := ⟨w.heap.size + 1, 1, none⟩) (by simp) (.slice none 0 0)
    simp only [List.set_cons_succ, List.set_cons_zero] at hW
    generalize hwz : (World.setCell (World.setCell _ _ _) _ _) = wz at hW hbz ⊢
    have z0 := hW.cell 0
    have z1 := hW.cell 1
    simp only [List.getElem?_cons_zero, List.getElem?_cons_succ] at z0 z1
    refine bodyPost_ret (v := .tuple #[.agg #[_, _], .int .i64 _]) (by simp [results, Try.results38, go_sem, z0, z1]; exact ⟨⟨rfl, rfl⟩, rfl⟩) rfl ?_
    exact ⟨none, 0, 0, none, 0, 0, by rw [H1.out], by rw [H2.out]; exact Row.nil_, ⟨Nat.le_refl _, Nat.zero_le _⟩, by rw [H3.out]; exact RClauses.nil_, ⟨Nat.le_refl _, Nat.zero_le _⟩, hbz⟩
end Go.Proofs.Ytpkbncfnkgofmaa
