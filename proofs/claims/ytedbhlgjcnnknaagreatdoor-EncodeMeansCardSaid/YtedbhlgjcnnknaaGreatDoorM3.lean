/- Parts of the proof: walks and plain laws, side by side. -/
import Derived.Test.YtedbhlgjcnnknaaGreatDoorM2
import Derived.Test.YtedbhlgjcnnknaaGreatDoorM1
import Derived.Deep.AppendLies
import Derived.OwnWalk
import Derived.Maps.AppendAt
import Derived.Lib.AppendZerosOnto
import Derived.Lib.Walk
import Derived.Lib.AtoiAll
import Derived.Lib.ItoaNum
import Derived.Lib.IndexAny
import Derived.Lib.IndexLaws
set_option linter.unusedVariables false
set_option linter.unusedSimpArgs false
set_option linter.unusedSectionVars false
/- Walk: cnf.checkLits. -/
namespace Go.Proofs.YtedbhlgjcnnknaaGreatDoor
open Go.RowKit
def ckLits (c : List Int) (vars : Int) : Int := if c.any (badLit vars) then 5 else 0
theorem ckLits_bad {c : List Int} {vars x : Int} {n k : Nat} (hn : c.length = n) (hk : k < n) (hx : c.getD k 0 = x) (h : badLit vars x = true) : ckLits c vars = 5 := by
  subst hn hx
  unfold ckLits
  rw [if_pos]
  exact any_of_take _ _ (k+1) (by rw [any_take_succ _ _ _ hk, h]; simp)
theorem ckLits_end {c : List Int} {vars : Int} {n k : Nat} (hn : c.length = n) (hk : ¬ k < n) (h : (c.take k).any (badLit vars) = false) : ckLits c vars = 0 := by
  subst hn
  unfold ckLits
  rw [List.take_of_length_le (by omega)] at h
  rw [if_neg]
  rw [h]; simp
set_option maxHeartbeats 400000 in
theorem checkLits_any (A : Option Addr) (n cap : Nat) (c : List Int) (vars : Int) (w : World) (S : Nat → Prop) (hr : RInts w S A n c) (hn : n ≤ maxLen) (hv : -9223372036854775808 ≤ vars) (hv' : vars ≤ 9223372036854775807) :
    Calls Tryz.prog 58 #[.slice A n cap, .int .i64 vars] w fun e w' => e = .returned (.int .i64 (ckLits c vars)) ∧ w = w' := by
  unfold maxLen at hn
  have Hlen := qh hr.len
  go_enter Tryz.func58, Tryz.ntmps58
  go_wp2
  go_loop [9] (fun i => ∃ k : Nat, k ≤ n ∧ i = .int .i64 k ∧ (c.take k).any (badLit vars) = false) (fun i => n - (intOf i).toNat)
  case atStart => exact ⟨0, Nat.zero_le _, rfl, rfl⟩
  case round =>
    obtain ⟨k, hk, rfl, hany⟩ := hrel
    have Hany := qh hany; clear hany
    by_cases hlt : k < n
    · obtain ⟨b, o, rfl, hb, hc⟩ := hr.at_ hlt
      generalize hx : c.getD k 0 = x at hc
      have Hx := qh hx; clear hx
      rcases Decidable.em (x = 0) with h0 | h0
      · have h1 : (x == 0) = true := by simpa using h0
        have h2 := qh h0; clear h0
        go_wp2
        all_goals (go_ret; exact ⟨ret_int (ckLits_bad Hlen.out hlt Hx.out (badLit_yes (.inr (.inl h2.out)))).symm, rfl⟩)
      have h1 : (x == 0) = false := by simpa using h0
      go_wp2
      all_goals first
        | (go_ret; refine ⟨ret_int ?_, rfl⟩; exact (ckLits_bad Hlen.out hlt Hx.out (badLit_yes (by omega))).symm)
        | (go_round
           case rel => refine ⟨k + 1, by omega, by go_num, anyBad_step Hlen.out hlt Hx.out Hany.out (badLit_no (by omega))⟩
           case measure => simp [intOf]; omega)
    · go_wp2
      go_ret
      exact ⟨ret_int (ckLits_end Hlen.out hlt Hany.out).symm, rfl⟩
end Go.Proofs.YtedbhlgjcnnknaaGreatDoor

/-
 Plain: literals out of values; what follows.
-/
namespace Qm
def litsTo (v : List Int) : Nat → List Int
 | 0 => []
 | k + 1 => litsTo v k ++ if v.getD (k + 1) 0 = 0 then [] else [((k + 1 : Nat) : Int) * v.getD (k + 1) 0]
theorem litsTo_succ (v : List Int) (k : Nat) : litsTo v (k + 1) = litsTo v k ++ if v.getD (k + 1) 0 = 0 then [] else [((k + 1 : Nat) : Int) * v.getD (k + 1) 0] := rfl
theorem litsTo_zero {v : List Int} {k : Nat} (h : v.getD (k + 1) 0 = 0) : litsTo v (k + 1) = litsTo v k := by rw [litsTo_succ, if_pos h, List.append_nil]
theorem litsTo_one {v : List Int} {k : Nat} (h : v.getD (k + 1) 0 = 1) : litsTo v (k + 1) = litsTo v k ++ [(k : Int) + 1] := by rw [litsTo_succ, h, if_neg (by decide)]; congr 2; omega
theorem litsTo_neg {v : List Int} {k : Nat} (h : v.getD (k + 1) 0 = -1) : litsTo v (k + 1) = litsTo v k ++ [-((k : Int) + 1)] := by rw [litsTo_succ, h, if_neg (by decide)]; congr 2; omega
theorem litsTo_len (v : List Int) (k : Nat) : (litsTo v k).length ≤ k := by
 induction k with
 | zero => exact Nat.le_refl _
 | succ k ih => unfold litsTo; rw [List.length_append]; split <;> simp <;> omega
def followsV (N : Nat) (cs : List (List Int)) (az : List Int) : Option (List Int) := match assume az (zeroVals N) with | none => none | some v => spread cs v
theorem spreadN_fine {N : Nat} {cs : List (List Int)} (hc : ∀ c ∈ cs, IsCl N c) : ∀ (k : Nat) {v v' : List Int}, Fine N v → spreadN cs k v = some v' → Fine N v' := by
 intro k
 induction k with
 | zero => intro v v' hf h; simp [spreadN] at h; subst h; exact hf
 | succ k ih =>
  intro v v' hf h
  simp only [spreadN] at h
  cases hp : pass cs v with
  | none => rw [hp] at h; cases h
  | some x =>
   obtain ⟨v1, b⟩ := x
   rw [hp] at h
   have hf1 := (pass_ok hc hf hp).1
   cases b with
   | true => exact ih hf1 h
   | false => simp at h; subst h; exact hf1
theorem spread_fine {N : Nat} {cs : List (List Int)} (hc : ∀ c ∈ cs, IsCl N c) {v v' : List Int} (hf : Fine N v) (h : spread cs v = some v') : Fine N v' := spreadN_fine hc _ hf h
end Qm

/- Laws: append of whatever row. -/
namespace Go.Proofs.YtedbhlgjcnnknaaGreatDoor
open Go.RowKit
theorem own_form {w : World} {base : Nat} {e : TypeId} {v : Value} {n : Nat} {vs : List Value} (h : w.ownsRow base e 1 v n vs) : ∃ (A : Option Addr) (c : Nat), v = .slice A n c ∧ n ≤ c ∧ c ≤ maxLen ∧ Row w (fun k => base ≤ k ∧ k < w.heap.size) A n vs := by
 have h' := h
 rcases h'.2 with ⟨rfl, rfl⟩ | ⟨g, cap, cur, rfl, hb, hh, hc, hm, _⟩
 ·exact ⟨none, 0, rfl, qr _, Nat.zero_le _, by have := h.1; simpa using this, fun h => absurd h (by omega)⟩
 ·exact ⟨_, cap, rfl, hc, hm, row_of_own h (fun g' e => by simp [Value.ownBlock] at e; subst e; exact ⟨hb, lt_of_block hh⟩)⟩
theorem own_formK {w : World} {base : Nat} {e : TypeId} {size : Nat} {v : Value} {n : Nat} {vs : List Value} (h : w.ownsRow base e size v n vs) : ∃ (A : Option Addr) (c : Nat), v = .slice A n c ∧ n ≤ c ∧ c ≤ maxLen ∧ Row w (fun k => v.ownBlock = some k) A (n * size) vs := by
 rcases h.2 with ⟨rfl, rfl⟩ | ⟨g, cap, cur, rfl, hb, hh, hc, hm, hs, ht⟩
 ·exact ⟨none, 0, rfl, qr _, Nat.zero_le _, by have := h.1; simpa using this, fun h => absurd h (by omega)⟩
 ·refine ⟨_, cap, rfl, hc, hm, h.1, fun hn => ⟨g, 0, rfl, rfl, fun j hj => ?_⟩⟩
  have hj' : j < cur.size := by rw [hs]; exact ql hj (Nat.mul_le_mul_right _ hc)
  rw [cell_of_row w g _ _ _ (0, 0) hh, Nat.zero_add, ← ht, List.getElem?_take_of_lt hj]
  simp
theorem Row.some_lit {w : World} {S : Nat → Prop} {A : Option Addr} {n : Nat} {vs : List Value} (h : Row w S A n vs) (hn : 0 < n) : ∃ b o, A = some ⟨b, o, none⟩ ∧ S b := by
 obtain ⟨b, o, e, hS, _⟩ := h.at_ hn
 exact ⟨b, o, e, hS⟩
end Go.Proofs.YtedbhlgjcnnknaaGreatDoor

/- Walk: cnf.Follows. -/
namespace Go.Proofs.YtedbhlgjcnnknaaGreatDoor
open Go.RowKit
def folErr (vars : Int) (cs : List (List Int)) (asm : List Int) : Int := if ckFormula vars cs ≠ 0 then ckFormula vars cs else if 400 < asm.length then 2 else ckLits asm vars
def folV (vars : Int) (cs : List (List Int)) (asm : List Int) : Option (List Int) := if folErr vars cs asm ≠ 0 then none else Qm.followsV vars.toNat cs asm
def folOk (vars : Int) (cs : List (List Int)) (asm : List Int) : Bool := (folV vars cs asm).isSome
def folL (vars : Int) (cs : List (List Int)) (asm : List Int) : List Int := match folV vars cs asm with | none => [] | some v => Qm.litsTo v vars.toNat
def FolPost (vars : Int) (cs : List (List Int)) (asm : List Int) (w : World) (e : Ending) (w' : World) : Prop :=
 ∃ (A : Option Addr) (n c : Nat), e = .returned (.tuple #[.slice A n c, .bool (folOk vars cs asm), .int .i64 (folErr vars cs asm)]) ∧ RInts w' (fun k => w.heap.size ≤ k ∧ k < w'.heap.size) A n (folL vars cs asm) ∧ n ≤ c ∧ c ≤ maxLen ∧ Below w.heap.size w w'
theorem FolPost.no {vars : Int} {cs : List (List Int)} {asm : List Int} {w w' : World} {E : Int} (h : folV vars cs asm = none) (he : folErr vars cs asm = E) (hb : Below w.heap.size w w') :
  FolPost vars cs asm w (.returned (.tuple #[.slice none 0 0, .bool false, .int .i64 E])) w' := by
 refine ⟨none, 0, 0, ?_, ?_, qr _, Nat.zero_le _, hb⟩
 ·unfold folOk; rw [h, he]; rfl
 ·unfold folL; rw [h]; exact RInts.nil_
theorem folV_err {vars : Int} {cs : List (List Int)} {asm : List Int} (h : folErr vars cs asm ≠ 0) : folV vars cs asm = none := by unfold folV; rw [if_pos h]
theorem ckLits_ok {N : Nat} {asm : List Int} (h : ckLits asm (N : Int) = 0) : ∀ x ∈ asm, Qm.IsLit N x := by
 intro x hx
 unfold ckLits at h
 split at h
 ·omega
 ·rename_i h2
  have h3 : badLit (N : Int) x = false := by
   cases hb : badLit (N : Int) x
   ·rfl
   ·exact absurd (List.any_eq_true.2 ⟨x, hx, hb⟩) h2
  have h4 : ¬ ((N : Int) < 0 ∨ x = 0 ∨ x < -(N : Int) ∨ (N : Int) < x) := by
   intro h5
   rw [badLit_yes h5] at h3; cases h3
  exact ⟨by omega, by omega⟩


set_option maxRecDepth 100000 in
set_option maxHeartbeats 4000000 in
theorem follows_any (A A' : Option Addr) (n cap n' cap' : Nat) (vars : Int) (cs : List (List Int)) (asm : List Int) (w : World) (S : Nat → Prop) (hS : ∀ k, S k → k < w.heap.size)
  (hr : RClauses w S A n cs) (hr' : RInts w S A' n' asm) (hn : n ≤ cap ∧ cap ≤ maxLen) (hn' : n' ≤ maxLen) (hv : -9223372036854775808 ≤ vars) (hv' : vars ≤ 9223372036854775807) :
  Calls Tryz.prog 19 #[.agg #[.int .i64 vars, .slice A n cap], .slice A' n' cap'] w (FolPost vars cs asm w) := by
 have Hr := qh hr; have Hr' := qh hr'; have Hn := qh hn; have Hnm := qh hn'
 unfold maxLen at hn'
 clear hr hr' hn
 have hb0 : Below w.heap.size w (w.alloc (.cells #[.int .i64 vars, .slice A n cap] 33)) := (Below.refl _ _).alloc (qr _) _
 have hck := checkFormula_any A n cap cs vars _ S (Hr.out.below hb0 hS) (fun k hk => by have := hS k hk; simp; omega) (Nat.le_trans Hn.out.1 Hn.out.2) hv hv'
 generalize he : ckFormula vars cs = E at hck
 have He := qh he; clear he
 have Hck := qh hck
 clear hck hb0
 go_enter Tryz.func19, Tryz.ntmps19
 go_wp2_with fail
 refine Hck.out.mono ?_
 rintro e w1 ⟨rfl, hb1⟩
 have hb1' : Below w.heap.size w w1 := ((Below.refl _ _).alloc (qr _) _).trans (hb1.mono (by simp))
 have hW1 : Whole w1 w.heap.size 33 [.int .i64 vars, .slice A n cap] := Whole.below (Whole.new w _ _ _ rfl) hb1 (by simp)
 have Hb1 := qh hb1'; have HW1 := qh hW1
 have hf0 := hW1.cell 0
 have hf1 := hW1.cell 1
 simp only [qgz, qgs] at hf0 hf1
 clear hW1 hb1 hb1'
 by_cases hE : E = 0
 ·subst hE
  by_cases hl : 400 < n'
  ·have hl' : decide ((400 : Int) < (n' : Int)) = true := by simp; omega
   have HE : Hid (folErr vars cs asm = 2) := by show _ = _; unfold folErr; rw [if_neg (by rw [He.out]; simp), if_pos (by rw [Hr'.out.len]; exact hl)]
   go_wp2_with fail
   go_ret3
   exact FolPost.no (folV_err (by rw [HE.out]; omega)) HE.out Hb1.out
  ·have hl' : decide ((400 : Int) < (n' : Int)) = false := by simp; omega
   have hck2 := checkLits_any A' n' cap' asm vars w1 S (Hr'.out.below Hb1.out hS) Hnm.out hv hv'
   generalize he2 : ckLits asm vars = E2 at hck2
   have He2 := qh he2; clear he2
   have Hck2 := qh hck2; clear hck2
   have HE : Hid (folErr vars cs asm = E2) := by show _ = _; unfold folErr; rw [if_neg (by rw [He.out]; simp), if_neg (by rw [Hr'.out.len]; exact hl), He2.out]
   by_cases hE2 : E2 = 0
   ·subst hE2
    obtain ⟨N, rfl, hN, hcl, hcs⟩ := ckFormula_ok He.out
    have hls := ckLits_ok He2.out
    have Hcs := qh hcs; have Hls := qh hls; clear hcs hls
    have HV : Hid (folV (N : Int) cs asm = Qm.followsV N cs asm) := by show _ = _; unfold folV; rw [if_neg (by rw [HE.out]; simp)]; rfl
    have hmk := fun w => run_make_zeros N hN w
    go_wp2_with fail
    refine Hck2.out.mono ?_
    rintro e w' ⟨rfl, rfl⟩
    go_wp2_with fail
    clear hmk hf0 hf1
    have hsz := Hb1.out.size
    go_loopg [35] n' (fun g i wr => ∃ (k : Nat) (vc : List Int), Hid (k + g = n') ∧ i = .int .i64 k ∧ Whole wr w1.heap.size 3 (vc.map (Value.int .i64)) ∧ Qm.Fine N vc ∧ (w1.alloc (zeroObj N)).grownBy wr (some w1.heap.size) ∧ wr.heap.size = w1.heap.size + 1 ∧ Hid ((asm.take k).foldl Qm.assume1 (some (Qm.zeroVals N)) = some vc))
    case atStart => exact ⟨0, Qm.zeroVals N, Nat.zero_add _, rfl, whole_zeros _ N _ rfl, Qm.zeroVals_fine N, World.grownBy.refl _ _, by simp, rfl⟩
    case round =>
     obtain ⟨k, vc, Hk, rfl, hwv, hfine, hgr, hszr, Hfold⟩ := hrel
     have hbr : Below w1.heap.size w1 wr := ((Below.refl _ _).alloc (qr _) _).trans (below_of_grown hgr (by simp) (fun k e => by injection e with e; omega))
     have hbw : Below w.heap.size w wr := Hb1.out.trans (hbr.mono hsz)
     have hW := HW1.out.below hbr HW1.out.lt
     have hf0 := hW.cell 0
     have hf1 := hW.cell 1
     simp only [qgz, qgs] at hf0 hf1
     have HWr := qh hW; have Hbr := qh hbr; have Hbw := qh hbw
     have Hwv := qh hwv; have Hgr := qh hgr; have Hszr := qh hszr
     clear hW hbr hbw hwv hgr
     by_cases hk : k < n'
     ·obtain ⟨b, o, rfl, hb, hcell⟩ := (Hr'.out.below Hbw.out hS).at_ hk
      have hlc : k < asm.length := by rw [Hr'.out.len]; exact hk
      generalize hx : asm.getD k 0 = x at hcell
      have hlx : Qm.IsLit N x := by have := Hls.out _ (getD_mem (d := 0) hlc); rwa [hx] at this
      have hd : -((N + 1 : Nat) : Int) < x ∧ x < ((N + 1 : Nat) : Int) := by have := hlx.1; have := hlx.2; omega
      have hnext := Qm.assume_take Hfold.out hlc hx
      have hcall := of_any (some ⟨w1.heap.size, 0, none⟩) (N + 1) (N + 1) vc x wr (fun k => k = w1.heap.size) (Whole.ints (S := fun k => k = w1.heap.size) Hwv.out rfl hfine.1) (by omega) hd (fine_bd hfine)
      have Hx := qh hx; clear hx hszr
      by_cases hvv : Qm.vof vc x = -1
      ·rw [if_pos hvv] at hnext
       rw [hvv] at hcall
       have Hcall := qh hcall; have Hnext := qh hnext
       clear hcall hnext hvv hlx hd hlc
       go_wp2_with fail
       refine Hcall.out.mono ?_
       rintro e w' ⟨rfl, rfl⟩
       go_wp2_with fail
       go_ret3
       exact FolPost.no (by rw [HV.out]; unfold Qm.followsV; rw [Qm.assume_stop Hnext.out]) HE.out Hbw.out
      ·rw [if_neg hvv] at hnext
       have hlt : decide (Qm.vof vc x < 0) = false := by
        rcases Qm.vof_range hfine x with h | h | h
        ·rw [h]; rfl
        ·rw [h]; rfl
        ·exact absurd h hvv
       generalize Qm.vof vc x = u at hcall hlt
       have hcall2 := set_any w1.heap.size 3 (N + 1) (N + 1) vc x wr hfine.1 Hwv.out (by omega) hd
       have Hcall := qh hcall; have Hnext := qh hnext; have Hcall2 := qh hcall2
       clear hcall hnext hvv hlx hd hcall2 hlc
       go_wp2_with fail
       refine Hcall.out.mono ?_
       rintro e w' ⟨rfl, rfl⟩
       go_wp2_with fail
       refine Hcall2.out.mono ?_
       rintro e w5 ⟨rfl, hw5⟩
       go_wp2_with fail
       go_roundg (gk - 1)
       case measure => have := Hk.out; omega
       case rel => exact ⟨k + 1, Qm.vset vc x, by have := Hk.out; show _ = _; omega, by go_num, hw5.1, Qm.vset_fine hfine _, grown_trans Hgr.out hw5.2.1, hw5.2.2.trans Hszr.out, Hnext.out⟩
     ·have hb2 : ∀ o : Obj, Below wr.heap.size wr (wr.alloc o) := fun o => (Below.refl _ _).alloc (qr _) o
      have hbs := Hbw.out.size
      have hcall := spread_any N w1.heap.size (N + 1) 1 1 vc (some ⟨wr.heap.size, 0, none⟩) [cs] (wr.alloc (.cells #[.slice A n cap] 31)) (fun k => S k ∨ k = wr.heap.size) hN hfine (Hwv.out.alloc _)
       (fun k hk => by rcases hk with hk | hk <;> first | (have := hS k hk; simp; omega) | (simp; omega))
       (rlists1 (Whole.new wr _ 31 [.slice A n cap] rfl) (.inr rfl) (((Hr.out.below Hbw.out hS).below (hb2 _) (fun k hk => by have := hS k hk; omega)).more (fun k hk => .inl hk)) Hn.out) (by unfold maxLen; omega)
       (fun l hl c hc => by rw [List.mem_singleton] at hl; subst hl; exact (Hcs.out c hc).1)
      rw [List.flatten_singleton] at hcall
      have hass := Qm.assume_all Hfold.out (by rw [Hr'.out.len]; have := Hk.out; omega)
      have hres : Qm.followsV N cs asm = Qm.spread cs vc := by unfold Qm.followsV; rw [hass]
      have Hcall := qh hcall; have Hres := qh hres
      clear hcall hres hass hb2 hszr
      go_wp2_with fail
      refine Hcall.out.mono ?_
      rintro e w5 ⟨he, hv2, hg5, hs5⟩
      have hb5 : Below w.heap.size w w5 := (Hbw.out.alloc hbs _).trans (below_of_grown hg5 (by simp; omega) (fun k e => by injection e with e; omega))
      have Hb5 := qh hb5
      have hsp5 : w.heap.size ≤ w5.heap.size := hb5.size
      have hW5 : Whole w5 w.heap.size 33 [.int .i64 (N : Int), .slice A n cap] := (HWr.out.alloc _).grown hg5 (by intro e; injection e with e; have := HW1.out.lt; omega)
      have HW5 := qh hW5
      clear hf0 hf1 hb5 hW5 hg5 hs5
      generalize hsp : Qm.spread cs vc = sp at he hv2
      cases sp with
      | none =>
       obtain rfl : e = .returned (.bool false) := he
       clear hv2
       have Hsp := qh hsp; clear hsp
       go_wp2_with fail
       go_ret3
       exact FolPost.no (by rw [HV.out, Hres.out, Hsp.out]) HE.out Hb5.out
      | some v2 =>
       obtain rfl : e = .returned (.bool true) := he
       have hw2 := hv2 v2 rfl
       have hfine2 : Qm.Fine N v2 := (Qm.spread_fine (fun c hc => (Hcs.out c hc).1) hfine hsp)
       have Hsp := qh hsp; have Hw2 := qh hw2
       clear hv2 hsp hw2
       have hf0 := HW5.out.cell 0
       simp only [List.getElem?_cons_zero] at hf0
       obtain ⟨i0, hi, hz0, hz1, hz2⟩ := info_parts int_info
       go_wp2_with fail
       go_loopg [12, 13] N (fun g lv kv wr => ∃ (j : Nat), Hid (j + g = N) ∧ kv = .int .i64 ((j : Int) + 1) ∧ wr.ownsRow w5.heap.size 3 1 lv (Qm.litsTo v2 j).length ((Qm.litsTo v2 j).map (Value.int .i64)) ∧ Below w5.heap.size w5 wr)
       case atStart => exact ⟨0, Nat.zero_add _, rfl, World.ownsRow_nil _ _ _ _, Below.refl _ _⟩
       case round =>
        obtain ⟨j, Hj, rfl, hown, hbel⟩ := hrel
        have hw := Hw2.out.below hbel Hw2.out.lt
        have hb0 := (HW5.out.below hbel HW5.out.lt).cell 0
        simp only [List.getElem?_cons_zero] at hb0
        have hll := Qm.litsTo_len v2 j
        clear hf0
        by_cases hj : j < N
        ·have hc := hw.cell (j + 1)
         rw [List.getElem?_map, List.getElem?_eq_getElem (by have := hfine2.1; omega), Option.map_some] at hc
         have hu : v2.getD (j + 1) 0 = v2[j + 1]'(by have := hfine2.1; omega) := by rw [List.getD_eq_getElem?_getD, List.getElem?_eq_getElem]; rfl
         have hur := hfine2.2 _ (List.getElem_mem (l := v2) (n := j + 1) (by have := hfine2.1; omega))
         generalize v2[j + 1]'(by have := hfine2.1; omega) = u at hc hu hur
         have Hu := qh hu
         clear hu hw
         rcases hur with rfl | rfl | rfl
         ·have Hln : Hid (Qm.litsTo v2 (j + 1) = Qm.litsTo v2 j) := by
           exact Qm.litsTo_zero Hu.out
          have Hown := qh hown; have Hbel := qh hbel
          clear hown hbel
          go_wp2_with fail
          go_roundg (gk - 1)
          case measure => have := Hj.out; omega
          case rel => exact ⟨j + 1, by have := Hj.out; show _ = _; omega, by go_num, by rw [Hln.out]; exact Hown.out, Hbel.out⟩
         ·skip
          have hnz : ((1 : Int) != (0 : Int)) = true := by decide
          have Hln : Hid (Qm.litsTo v2 (j + 1) = Qm.litsTo v2 j ++ [(j : Int) + 1]) := by
           exact Qm.litsTo_one Hu.out
          go_wp2_with (at_builtin; refine wpList_append_own _ rfl _ _ 27 rfl w5.heap.size 3 i0 (.int .i64 0) 1 8 Tryz.underlying27 hi hz0 hz1 hz2 rfl (by decide) _ _ _ rfl (hown.alloc _) ⟨wr.heap.size, 0, none⟩ 1 1 [.int .i64 ((j : Int) + 1)] rfl rfl ?c1 ?c2 ?c3 ?c4 ?c5 ?_)
          case c1 => exact cell_one_new _ _ _
          case c2 => simp [Value.oneCell']
          case c3 => unfold maxLen; omega
          case c4 => omega
          case c5 => have := hbel.size; simp; omega
          intro lv' w6 hown6 hg6 _
          have hbel6 : Below w5.heap.size w5 w6 := (hbel.alloc hbel.size _).trans (below_of_grown hg6 (by have := hbel.size; simp; omega) (fun k e => (hown.lt k e).1))
          have hown7 : w6.ownsRow w5.heap.size 3 1 lv' (Qm.litsTo v2 (j + 1)).length ((Qm.litsTo v2 (j + 1)).map (Value.int .i64)) := by
           rw [Hln.out, List.length_append, List.map_append]; exact hown6
          have Hown7 := qh hown7; have Hbel6 := qh hbel6
          clear hown6 hg6 hown7 hbel6 hown hbel
          go_wp2_with fail
          go_roundg (gk - 1)
          case measure => have := Hj.out; omega
          case rel => exact ⟨j + 1, by have := Hj.out; show _ = _; omega, by go_num, Hown7.out, Hbel6.out⟩
         ·skip
          have hnz : ((-1 : Int) != (0 : Int)) = true := by decide
          have Hln : Hid (Qm.litsTo v2 (j + 1) = Qm.litsTo v2 j ++ [-((j : Int) + 1)]) := by
           exact Qm.litsTo_neg Hu.out
          go_wp2_with (at_builtin; refine wpList_append_own _ rfl _ _ 27 rfl w5.heap.size 3 i0 (.int .i64 0) 1 8 Tryz.underlying27 hi hz0 hz1 hz2 rfl (by decide) _ _ _ rfl (hown.alloc _) ⟨wr.heap.size, 0, none⟩ 1 1 [.int .i64 (-((j : Int) + 1))] rfl rfl ?c1 ?c2 ?c3 ?c4 ?c5 ?_)
          case c1 => exact cell_one_new _ _ _
          case c2 => simp [Value.oneCell']
          case c3 => unfold maxLen; omega
          case c4 => omega
          case c5 => have := hbel.size; simp; omega
          intro lv' w6 hown6 hg6 _
          have hbel6 : Below w5.heap.size w5 w6 := (hbel.alloc hbel.size _).trans (below_of_grown hg6 (by have := hbel.size; simp; omega) (fun k e => (hown.lt k e).1))
          have hown7 : w6.ownsRow w5.heap.size 3 1 lv' (Qm.litsTo v2 (j + 1)).length ((Qm.litsTo v2 (j + 1)).map (Value.int .i64)) := by
           rw [Hln.out, List.length_append, List.map_append]; exact hown6
          have Hown7 := qh hown7; have Hbel6 := qh hbel6
          clear hown6 hg6 hown7 hbel6 hown hbel
          go_wp2_with fail
          go_roundg (gk - 1)
          case measure => have := Hj.out; omega
          case rel => exact ⟨j + 1, by have := Hj.out; show _ = _; omega, by go_num, Hown7.out, Hbel6.out⟩
        ·go_wp2_with fail
         go_ret3
         obtain rfl : j = N := by have := Hj.out; omega
         obtain ⟨A9, c9, rfl, hc1, hc2, hrow⟩ := own_form hown
         refine ⟨A9, _, c9, ?_, ?_, hc1, hc2, Hb5.out.trans (hbel.mono Hb5.out.size)⟩
         ·unfold folOk; rw [HV.out, Hres.out, Hsp.out, HE.out]; rfl
         ·unfold folL; rw [HV.out, Hres.out, Hsp.out]
          exact hrow.more (fun k hk => ⟨Nat.le_trans Hb5.out.size hk.1, hk.2⟩)
   ·have hE2' : (E2 != 0) = true := by simpa using hE2
    have HV : Hid (folV vars cs asm = none) := folV_err (by rw [HE.out]; exact hE2)
    clear hE2
    go_wp2_with fail
    refine Hck2.out.mono ?_
    rintro e w' ⟨rfl, rfl⟩
    go_wp2_with fail
    go_ret3
    exact FolPost.no HV.out HE.out Hb1.out
 ·have hE' : (E != 0) = true := by simpa using hE
  have HE : Hid (folErr vars cs asm = E) := by show _ = _; unfold folErr; rw [if_pos (by rw [He.out]; exact hE), He.out]
  have HV : Hid (folV vars cs asm = none) := folV_err (by rw [HE.out]; exact hE)
  clear hE
  go_wp2_with fail
  go_ret3
  exact FolPost.no HV.out HE.out Hb1.out
end Go.Proofs.YtedbhlgjcnnknaaGreatDoor

/- Walk: the document's FollowsFrom. -/
namespace Go.Proofs.YtedbhlgjcnnknaaGreatDoor
open Go.RowKit
end Go.Proofs.YtedbhlgjcnnknaaGreatDoor

namespace Qm
open Go

/-! Atoms, in plain words: no program in sight. -/

structure At where
 nm : List UInt8
 op : Int
 ver : Int
 slot : Int
 fl : List UInt8
 on : Bool
deriving DecidableEq

def At.zero : At := ⟨[], 0, 0, 0, [], false⟩

def lowB (c : UInt8) : Bool := decide (97 ≤ c.toNat ∧ c.toNat ≤ 122)
def digB (c : UInt8) : Bool := decide (48 ≤ c.toNat ∧ c.toNat ≤ 57)
def okAt (i : Nat) (c : UInt8) : Bool := lowB c || (decide (0 < i) && digB c)
def okFrom : Nat → List UInt8 → Bool
 | _, [] => true
 | i, c :: r => okAt i c && okFrom (i + 1) r
def isName (l : List UInt8) : Bool := decide (1 ≤ l.length ∧ l.length ≤ 8) && okFrom 0 l

def ckAtom (a : At) : Int :=
 if isName a.nm = false ∨ a.fl ≠ [] ∧ isName a.fl = false then 1
 else if a.op < 0 ∨ 3 < a.op ∨ a.slot < 0 ∨ 9 < a.slot then 3
 else if a.op = 0 ∧ a.ver ≠ 0 ∨ a.op ≠ 0 ∧ (a.ver < 1 ∨ 99 < a.ver) then 3
 else if a.fl = [] ∧ a.on = true then 4 else 0

def opText (o : Int) : List UInt8 := if o = 1 then [61] else if o = 2 then [62, 61] else if o = 3 then [60] else []
def textOf (a : At) : List UInt8 :=
 a.nm ++ (if a.op ≠ 0 then opText a.op ++ Lib.itoa a.ver else []) ++ (if 0 < a.slot then 58 :: Lib.itoa a.slot else []) ++
  (if a.fl ≠ [] then (if a.on then 43 else 45) :: a.fl else [])

def number (l : List UInt8) : Option Int :=
 match Lib.atoiAll l with
 | .ok v => if Lib.itoa v = l then some v else none
 | _ => none

def cutAt (p : UInt8 → Bool) : List UInt8 → Option (List UInt8 × UInt8 × List UInt8)
 | [] => none
 | c :: r => if p c then some ([], c, r) else match cutAt p r with
  | some (a, b, d) => some (c :: a, b, d)
  | none => none

def signB (c : UInt8) : Bool := c == 43 || c == 45
def opB (c : UInt8) : Bool := c == 61 || c == 60 || c == 62

def fin (a : At) : At × Int := if ckAtom a = 0 then (a, 0) else (At.zero, ckAtom a)
def badAt : At × Int := (At.zero, 1)
def opNum (c : UInt8) (d : List UInt8) : Option (Int × Int) :=
 if c = 61 then (number d).map fun v => (1, v)
 else if c = 60 then (number d).map fun v => (3, v)
 else match d with
  | [] => none
  | e :: r => if e = 61 then (number r).map fun v => (2, v) else none
def parseOp (l fl : List UInt8) (on : Bool) (slot : Int) : At × Int :=
 match cutAt opB l with
 | none => fin ⟨l, 0, 0, slot, fl, on⟩
 | some (a, c, d) => match opNum c d with
  | some (o, v) => fin ⟨a, o, v, slot, fl, on⟩
  | none => badAt
def parseSlot (l fl : List UInt8) (on : Bool) : At × Int :=
 match cutAt (· == 58) l with
 | none => parseOp l fl on 0
 | some (a, _, d) => match number d with
  | some n => if n = 0 then badAt else parseOp a fl on n
  | none => badAt
def parseFew (l : List UInt8) : At × Int :=
 match cutAt signB l with
 | none => parseSlot l [] false
 | some (a, c, d) => if d = [] then badAt else parseSlot a d (c == 43)
def parseAt (l : List UInt8) : At × Int := if 20000 < l.length then (At.zero, 2) else parseFew l

/-! ### Cutting -/

theorem of_cutAt_some {p : UInt8 → Bool} : ∀ {l a : List UInt8} {c : UInt8} {d : List UInt8}, cutAt p l = some (a, c, d) → l = a ++ c :: d ∧ p c = true ∧ ∀ x ∈ a, p x = false
 | [], _, _, _, h => by simp [cutAt] at h
 | x :: r, a, c, d, h => by
  unfold cutAt at h
  by_cases hx : p x = true
  ·simp only [hx, if_true, Option.some.injEq, Prod.mk.injEq] at h
   obtain ⟨rfl, rfl, rfl⟩ := h
   exact ⟨rfl, hx, by simp⟩
  ·simp only [hx, Bool.false_eq_true, if_false] at h
   cases hr : cutAt p r with
   | none => rw [hr] at h; cases h
   | some t =>
    obtain ⟨a', c', d'⟩ := t
    rw [hr] at h
    simp only [Option.some.injEq, Prod.mk.injEq] at h
    obtain ⟨rfl, rfl, rfl⟩ := h
    obtain ⟨h1, h2, h3⟩ := of_cutAt_some hr
    refine ⟨by rw [h1]; rfl, h2, ?_⟩
    intro y hy
    rcases List.mem_cons.1 hy with rfl | hy
    ·simpa using hx
    ·exact h3 y hy

theorem of_cutAt_none {p : UInt8 → Bool} : ∀ {l : List UInt8}, cutAt p l = none → ∀ x ∈ l, p x = false
 | [], _, x, hx => by cases hx
 | y :: r, h, x, hx => by
  unfold cutAt at h
  by_cases hy : p y = true
  ·simp [hy] at h
  ·simp only [hy, Bool.false_eq_true, if_false] at h
   have hr : cutAt p r = none := by
    cases hr : cutAt p r with
    | none => rfl
    | some t => rw [hr] at h; cases h
   rcases List.mem_cons.1 hx with rfl | hx
   ·simpa using hy
   ·exact of_cutAt_none hr x hx

theorem cutAt_indexAny (cs : List UInt8) : ∀ (l : List UInt8), Lib.indexAny l cs = match cutAt (fun c => cs.contains c) l with | none => -1 | some (a, _, _) => (a.length : Int)
 | [] => rfl
 | c :: r => by
  have ih := cutAt_indexAny cs r
  by_cases hc : cs.contains c = true
  ·simp only [Lib.indexAny, cutAt, hc, if_true]
   rfl
  ·simp only [Lib.indexAny, cutAt, hc, Bool.false_eq_true, if_false]
   cases hr : cutAt (fun c => cs.contains c) r with
   | none => rw [hr] at ih; simp [ih]
   | some t =>
    obtain ⟨a, b, d⟩ := t
    rw [hr] at ih
    simp only [] at ih
    simp only [List.length_cons]
    rw [ih]
    have : ((a.length : Int) == -1) = false := by simp
    rw [this]
    simp

/-! ### What stands in a name, and in a numeral -/

theorem okFrom_mem : ∀ {i : Nat} {l : List UInt8}, okFrom i l = true → ∀ c ∈ l, lowB c = true ∨ digB c = true
 | _, [], _, c, hc => by cases hc
 | i, x :: r, h, c, hc => by
  simp only [okFrom, Bool.and_eq_true] at h
  rcases List.mem_cons.1 hc with rfl | hc
  ·have := h.1
   simp only [okAt, Bool.or_eq_true, Bool.and_eq_true] at this
   rcases this with h1 | h1
   ·exact .inl h1
   ·exact .inr h1.2
  ·exact okFrom_mem h.2 c hc

theorem isName_mem {l : List UInt8} (h : isName l = true) : ∀ c ∈ l, lowB c = true ∨ digB c = true := by
 simp only [isName, Bool.and_eq_true] at h
 exact okFrom_mem h.2

theorem isName_len {l : List UInt8} (h : isName l = true) : 1 ≤ l.length ∧ l.length ≤ 8 := by
 simp only [isName, Bool.and_eq_true, decide_eq_true_eq] at h
 exact h.1

theorem decDigits_mem (u : Nat) : ∀ c ∈ Lib.decDigits u, digB c = true := by
 induction u using Nat.strongRecOn with
 | _ u ih =>
  intro c hc
  rw [Lib.decDigits] at hc
  split at hc
  ·rename_i h
   simp only [List.mem_singleton] at hc
   subst hc
   simp only [digB, decide_eq_true_eq, UInt8.toNat_ofNat']
   omega
  ·rename_i h
   rcases List.mem_append.1 hc with hc | hc
   ·exact ih (u / 10) (by omega) c hc
   ·simp only [List.mem_singleton] at hc
    subst hc
    simp only [digB, decide_eq_true_eq, UInt8.toNat_ofNat']
    omega

theorem itoa_mem {n : Int} (h : 0 ≤ n) : ∀ c ∈ Lib.itoa n, digB c = true := by
 unfold Lib.itoa
 rw [if_neg (by omega)]
 exact decDigits_mem _

theorem of_number {l : List UInt8} {v : Int} (h : number l = some v) : Lib.itoa v = l := by
 unfold number at h
 split at h
 ·split at h
  ·cases h; assumption
  ·cases h
 ·cases h

end Qm

namespace Qm
open Go

/-! What is printed is read, and what is read is printed as it was. -/

structure AtOk (a : At) : Prop where
 nm : isName a.nm = true
 fl : a.fl ≠ [] → isName a.fl = true
 op : 0 ≤ a.op ∧ a.op ≤ 3
 slot : 0 ≤ a.slot ∧ a.slot ≤ 9
 none : a.op = 0 → a.ver = 0
 some : a.op ≠ 0 → 1 ≤ a.ver ∧ a.ver ≤ 99
 on : a.fl = [] → a.on = false

theorem atOk {a : At} (h : ckAtom a = 0) : AtOk a := by
 unfold ckAtom at h
 split at h
 ·simp at h
 rename_i h1
 split at h
 ·simp at h
 rename_i h2
 split at h
 ·simp at h
 rename_i h3
 split at h
 ·simp at h
 rename_i h4
 refine ⟨?_, ?_, by omega, by omega, by omega, by omega, ?_⟩
 ·cases e : isName a.nm
  ·exact absurd (.inl e) h1
  ·rfl
 ·intro e
  cases e' : isName a.fl
  ·exact absurd (.inr ⟨e, e'⟩) h1
  ·rfl
 ·intro e
  cases e' : a.on
  ·rfl
  ·exact absurd ⟨e, e'⟩ h4

def opPart (a : At) : List UInt8 := if a.op ≠ 0 then opText a.op ++ Lib.itoa a.ver else []
def slotPart (a : At) : List UInt8 := if 0 < a.slot then 58 :: Lib.itoa a.slot else []

/-! And back. -/

theorem of_fin {a x : At} (h : fin a = (x, 0)) : x = a ∧ ckAtom a = 0 := by
 unfold fin at h
 split at h
 ·rename_i hk
  exact ⟨(Prod.mk.inj h).1.symm, hk⟩
 ·rename_i hk
  exact absurd (Prod.mk.inj h).2 hk

theorem not_bad {x : At} : ¬ badAt = (x, 0) := by
 intro h
 have := (Prod.mk.inj h).2
 simp at this

theorem of_parseOp {l fl : List UInt8} {on : Bool} {slot : Int} {x : At} (h : parseOp l fl on slot = (x, 0)) :
  ckAtom x = 0 ∧ x.slot = slot ∧ x.fl = fl ∧ x.on = on ∧ x.nm ++ opPart x = l := by
 unfold parseOp at h
 split at h
 ·obtain ⟨rfl, hk⟩ := of_fin h
  exact ⟨hk, rfl, rfl, rfl, by simp [opPart]⟩
 ·rename_i a c d hc
  obtain ⟨e, hp, _⟩ := of_cutAt_some hc
  split at h
  ·rename_i o v ho
   obtain ⟨rfl, hk⟩ := of_fin h
   refine ⟨hk, rfl, rfl, rfl, ?_⟩
   rw [e]
   congr 1
   unfold opNum at ho
   split at ho
   ·rename_i hc1
    cases hn : number d with
    | none => rw [hn] at ho; cases ho
    | some w =>
     rw [hn] at ho
     simp only [Option.map_some, Option.some.injEq, Prod.mk.injEq] at ho
     obtain ⟨rfl, rfl⟩ := ho
     have := of_number hn
     simp [opPart, opText, this, hc1]
   ·split at ho
    ·rename_i hc1
     cases hn : number d with
     | none => rw [hn] at ho; cases ho
     | some w =>
      rw [hn] at ho
      simp only [Option.map_some, Option.some.injEq, Prod.mk.injEq] at ho
      obtain ⟨rfl, rfl⟩ := ho
      have := of_number hn
      simp [opPart, opText, this, hc1]
    ·rename_i hc1 hc2
     have hc3 : c = 62 := by
      have : (c == 61) = false := by simpa using hc1
      have : (c == 60) = false := by simpa using hc2
      simpa [opB, *] using hp
     cases d with
     | nil => cases ho
     | cons y r =>
      simp only [] at ho
      split at ho
      ·rename_i hy
       cases hn : number r with
       | none => rw [hn] at ho; cases ho
       | some w =>
        rw [hn] at ho
        simp only [Option.map_some, Option.some.injEq, Prod.mk.injEq] at ho
        obtain ⟨rfl, rfl⟩ := ho
        have := of_number hn
        simp [opPart, opText, this, hc3, hy]
      ·cases ho
  ·exact absurd h not_bad

theorem of_parseSlot {l fl : List UInt8} {on : Bool} {x : At} (h : parseSlot l fl on = (x, 0)) :
  ckAtom x = 0 ∧ x.fl = fl ∧ x.on = on ∧ x.nm ++ opPart x ++ slotPart x = l := by
 unfold parseSlot at h
 split at h
 ·obtain ⟨h1, h2, h3, h4, h5⟩ := of_parseOp h
  refine ⟨h1, h3, h4, ?_⟩
  rw [h5]
  simp [slotPart, h2]
 ·rename_i a c d hc
  obtain ⟨e, hp, _⟩ := of_cutAt_some hc
  split at h
  ·rename_i n hn
   split at h
   ·exact absurd h not_bad
   ·rename_i hn0
    obtain ⟨h1, h2, h3, h4, h5⟩ := of_parseOp h
    refine ⟨h1, h3, h4, ?_⟩
    have hs := (atOk h1).slot
    have hp' : c = 58 := by simpa using hp
    rw [h5, e]
    unfold slotPart
    rw [if_pos (by omega), h2, of_number hn, hp']
  ·exact absurd h not_bad

theorem parse_back {l : List UInt8} {x : At} (h : parseAt l = (x, 0)) : ckAtom x = 0 ∧ textOf x = l := by
 unfold parseAt at h
 split at h
 ·have := (Prod.mk.inj h).2
  simp at this
 ·unfold parseFew at h
  split at h
  ·obtain ⟨h1, h2, h3, h4⟩ := of_parseSlot h
   refine ⟨h1, ?_⟩
   show x.nm ++ opPart x ++ slotPart x ++ _ = l
   rw [h4, h2]
   simp
  ·rename_i a c d hc
   obtain ⟨e, hp, _⟩ := of_cutAt_some hc
   split at h
   ·exact absurd h not_bad
   ·rename_i hd
    obtain ⟨h1, h2, h3, h4⟩ := of_parseSlot h
    refine ⟨h1, ?_⟩
    show x.nm ++ opPart x ++ slotPart x ++ _ = l
    rw [h4, h2, h3, e, if_pos hd]
    congr 2
    have hp' : c = 43 ∨ c = 45 := by simpa [signB] using hp
    rcases hp' with rfl | rfl <;> rfl

end Qm

namespace Qm
open Go

/-! Needs, in plain words: no program in sight. -/

abbrev W := List UInt8

inductive Nd where
 | mk (kind : Int) (a : At) (fl : W) (no : Bool) (kids : List Nd)

def Nd.kind : Nd → Int | .mk k _ _ _ _ => k
def Nd.fl : Nd → W | .mk _ _ f _ _ => f
def Nd.zero : Nd := .mk 0 At.zero [] false []

theorem Nd.ind {P : Nd → Prop} (h : ∀ k a f no ks, (∀ x ∈ ks, P x) → P (.mk k a f no ks)) : ∀ n, P n
 | .mk k a f no ks => h k a f no ks fun x _ => Nd.ind h x

mutual
def Nd.nodes : Nd → Nat
 | .mk _ _ _ _ ks => 1 + nodesL ks
def nodesL : List Nd → Nat
 | [] => 0
 | k :: r => k.nodes + nodesL r
end
mutual
def Nd.deep : Nd → Nat
 | .mk _ _ _ _ ks => 1 + deepL ks
def deepL : List Nd → Nat
 | [] => 0
 | k :: r => max k.deep (deepL r)
end

/-! ### the program's count -/
mutual
def cnt : Nd → Nat → Int → Option Int
 | .mk _ _ _ _ ks, d, m => if 4 < d then none else cntL ks d m 1
def cntL : List Nd → Nat → Int → Int → Option Int
 | [], _, _, all => some all
 | k :: r, d, m, all => if m < all then some all else match cnt k (d + 1) (m - all) with
  | none => none
  | some c => cntL r d m (all + c)
end

theorem cntL_spec {ks : List Nd} (ih : ∀ x ∈ ks, ∀ (d : Nat) (m : Int), 1 ≤ d → (∀ c, cnt x d m = some c → 1 ≤ c ∧ (c ≤ m → c = x.nodes ∧ d + x.deep ≤ 5)) ∧ ((x.nodes : Int) ≤ m → d + x.deep ≤ 5 → cnt x d m = some (x.nodes : Int)) ∧ (cnt x d m = none → 5 < d + x.deep)) :
  ∀ (d : Nat) (m all : Int), 1 ≤ d → 1 ≤ all → d ≤ 4 → (∀ c, cntL ks d m all = some c → all ≤ c ∧ (c ≤ m → c = all + nodesL ks ∧ d + deepL ks ≤ 4)) ∧ (all + nodesL ks ≤ m → d + deepL ks ≤ 4 → cntL ks d m all = some (all + (nodesL ks : Int))) ∧ (cntL ks d m all = none → 4 < d + deepL ks) := by
 induction ks with
 | nil =>
  intro d m all hd ha hd4
  refine ⟨?_, ?_, ?_⟩
  ·intro c hc
   simp only [cntL, Option.some.injEq] at hc
   simp only [nodesL, deepL]
   omega
  ·intro _ _; simp [cntL, nodesL]
  ·intro h; simp [cntL] at h
 | cons k r ihr =>
  intro d m all hd ha hd4
  have ik := ih k (List.mem_cons_self ..) (d + 1) (m - all) (by omega)
  have ir := ihr fun x hx => ih x (List.mem_cons_of_mem _ hx)
  simp only [cntL, nodesL, deepL]
  by_cases hm : m < all
  ·rw [if_pos hm]
   refine ⟨?_, ?_, ?_⟩
   ·intro c hc
    simp only [Option.some.injEq] at hc
    omega
   ·intro h; omega
   ·intro h; cases h
  ·rw [if_neg hm]
   obtain ⟨i1, i2, i3⟩ := ik
   cases hk : cnt k (d + 1) (m - all) with
   | none =>
    have := i3 hk
    refine ⟨fun c hc => (by cases hc), fun h1 h2 => ?_, fun _ => by omega⟩
    have := i2 (by omega) (by omega)
    rw [hk] at this; cases this
   | some c =>
    obtain ⟨h1, h2⟩ := i1 c hk
    obtain ⟨r1, r2, r3⟩ := ir d m (all + c) hd (by omega) hd4
    simp only []
    refine ⟨?_, ?_, ?_⟩
    ·intro e he
     obtain ⟨q1, q2⟩ := r1 e he
     refine ⟨by omega, fun hem => ?_⟩
     obtain ⟨p1, p2⟩ := q2 hem
     obtain ⟨s1, s2⟩ := h2 (by omega)
     omega
    ·intro q1 q2
     have hc' := i2 (by omega) (by omega)
     rw [hk] at hc'
     simp only [Option.some.injEq] at hc'
     rw [r2 (by omega) (by omega)]
     congr 1; omega
    ·intro e
     have := r3 e
     omega

theorem cnt_spec : ∀ (n : Nd) (d : Nat) (m : Int), 1 ≤ d → (∀ c, cnt n d m = some c → 1 ≤ c ∧ (c ≤ m → c = n.nodes ∧ d + n.deep ≤ 5)) ∧ ((n.nodes : Int) ≤ m → d + n.deep ≤ 5 → cnt n d m = some (n.nodes : Int)) ∧ (cnt n d m = none → 5 < d + n.deep) := by
 refine Nd.ind fun k a f no ks ih => ?_
 intro d m hd
 simp only [cnt, Nd.nodes, Nd.deep]
 by_cases h : 4 < d
 ·rw [if_pos h]
  exact ⟨fun c hc => (by cases hc), fun _ h2 => by omega, fun _ => by omega⟩
 ·rw [if_neg h]
  obtain ⟨r1, r2, r3⟩ := cntL_spec ih d m 1 hd (by omega) (by omega)
  refine ⟨?_, ?_, ?_⟩
  ·intro c hc
   obtain ⟨q1, q2⟩ := r1 c hc
   refine ⟨q1, fun h => ?_⟩
   obtain ⟨p1, p2⟩ := q2 h
   omega
  ·intro h1 h2
   rw [r2 (by omega) (by omega)]
   congr 1
  ·intro h
   have := r3 h
   omega

theorem cntL_le {ks : List Nd} (ih : ∀ x ∈ ks, ∀ (d : Nat) (m c : Int), 0 ≤ m → cnt x d m = some c → c ≤ m + 1) :
  ∀ (d : Nat) (m all c : Int), all ≤ m + 1 → cntL ks d m all = some c → c ≤ m + 1 := by
 induction ks with
 | nil => intro d m all c h1 h; simp only [cntL, Option.some.injEq] at h; omega
 | cons k r ihr =>
  intro d m all c h1 h
  simp only [cntL] at h
  split at h
  ·simp only [Option.some.injEq] at h; omega
  ·split at h
   ·cases h
   ·rename_i c' hc'
    have := ih k (List.mem_cons_self ..) _ _ _ (by omega) hc'
    exact ihr (fun x hx => ih x (List.mem_cons_of_mem _ hx)) d m _ c (by omega) h
theorem cnt_le : ∀ (n : Nd) (d : Nat) (m c : Int), 0 ≤ m → cnt n d m = some c → c ≤ m + 1 := by
 refine Nd.ind fun k a f no ks ih => ?_
 intro d m c hm h
 simp only [cnt] at h
 split at h
 ·cases h
 ·exact cntL_le ih d m 1 c (by omega) h

def tooMany (n : Nd) : Prop := 4 < n.deep ∨ 20 < n.nodes
instance (n : Nd) : Decidable (tooMany n) := by unfold tooMany; exact inferInstance
theorem cnt_many (n : Nd) : (∀ c, cnt n 1 20 = some c → (20 < c ↔ tooMany n)) ∧ (cnt n 1 20 = none → tooMany n) := by
 obtain ⟨r1, r2, r3⟩ := cnt_spec n 1 20 (by omega)
 unfold tooMany
 refine ⟨?_, ?_⟩
 ·intro c hc
  obtain ⟨q1, q2⟩ := r1 c hc
  constructor
  ·intro h
   by_cases h1 : (n.nodes : Int) ≤ 20 ∧ 1 + n.deep ≤ 5
   ·have := r2 h1.1 h1.2
    rw [hc] at this
    simp only [Option.some.injEq] at this
    omega
   ·omega
  ·intro h
   by_cases h1 : c ≤ 20
   ·obtain ⟨p1, p2⟩ := q2 h1
    omega
   ·omega
 ·intro h
  have := r3 h
  omega

/-! ### what a need must be -/
def leafK (k : Int) : Bool := decide (k = 1 ∨ k = 2)
mutual
def ckNd : Nd → Int
 | .mk k a f no ks =>
  if k < 1 ∨ 5 < k then 4
  else if leafK k = true ∧ ks.length ≠ 0 then 4
  else if leafK k = false ∧ a ≠ At.zero then 4
  else if k ≠ 5 ∧ (f ≠ [] ∨ no = true) then 4
  else if k = 5 ∧ isName f = false then 1
  else if leafK k = true then ckAtom a
  else ckKids ks
def ckKids : List Nd → Int
 | [] => 0
 | k :: r => if ckNd k = 0 then ckKids r else ckNd k
end
def ckNeed (n : Nd) : Int := if tooMany n then 2 else ckNd n

/-! ### words -/
def prAtom (a : At) : W := if ckAtom a = 0 then textOf a else []
def headW (k : Int) (f : W) (no : Bool) : List W := if k = 4 then [[124, 124]] else if k = 5 then [(if no then [33] else []) ++ (f ++ [63])] else []
mutual
def wordsN : Nd → List W
 | .mk k a f no ks => if k = 1 then [prAtom a] else if k = 2 then [33 :: prAtom a] else headW k f no ++ [40] :: (wordsL ks ++ [[41]])
def wordsL : List Nd → List W
 | [] => []
 | k :: r => wordsN k ++ wordsL r
end

def joinB (c : UInt8) : List W → W
 | [] => []
 | w :: r => match r with
  | [] => w
  | _ => w ++ c :: joinB c r
def splitGo (c : UInt8) : W → W → List W
 | acc, [] => [acc]
 | acc, x :: r => if x = c then acc :: splitGo c [] r else splitGo c (acc ++ [x]) r
def splitB (c : UInt8) (l : W) : List W := splitGo c [] l

/-! ### reading -/
def readKids (rd : List W → Option (Nd × List W)) : Nat → List W → Option (List Nd × List W)
 | 0, _ => none
 | f + 1, ws => match ws with
  | [] => some ([], [])
  | w :: r => if w = [41] then some ([], w :: r) else match rd (w :: r) with
   | none => none
   | some (k, ws') => match readKids rd f ws' with
    | none => none
    | some (ks, ws'') => some (k :: ks, ws'')
def closeB (k : Int) (fl : W) (no : Bool) : Option (List Nd × List W) → Option (Nd × List W)
 | none => none
 | some (ks, ws') => match ws' with
  | [] => none
  | w :: r => if w = [41] then some (.mk k At.zero fl no ks, r) else none
def readBody (rd : List W → Option (Nd × List W)) (k : Int) (fl : W) (no : Bool) (ws : List W) : Option (Nd × List W) :=
 closeB k fl no (readKids rd (ws.length + 1) ws)
def openB (rd : List W → Option (Nd × List W)) (k : Int) (fl : W) (no : Bool) : List W → Option (Nd × List W)
 | [] => none
 | w :: r => if w = [40] then readBody rd k fl no r else none
def cutBang : W → W × Bool
 | [] => ([], false)
 | c :: r => if c = 33 then (r, true) else (c :: r, false)
def leafB (t : W) (b : Bool) (r : List W) : Option (Nd × List W) :=
 if (parseAt t).2 = 0 then some (.mk (if b then 2 else 1) (parseAt t).1 [] false [], r) else none
def readS (rd : List W → Option (Nd × List W)) (s : W) (r : List W) : Option (Nd × List W) :=
 if s = [40] then readBody rd 3 [] false r
 else if s = [124, 124] then openB rd 4 [] false r
 else if s.getLast? = some 63 then
  (if isName (cutBang s.dropLast).1 then openB rd 5 (cutBang s.dropLast).1 (cutBang s.dropLast).2 r else none)
 else leafB (cutBang s).1 (cutBang s).2 r
def readN : Nat → List W → Option (Nd × List W)
 | 0, _ => none
 | d + 1, ws => readS (readN d) (ws.headD []) ws.tail
theorem readN_cons (d : Nat) (s : W) (r : List W) : readN (d + 1) (s :: r) = readS (readN d) s r := rfl

def finNd (n : Nd) : Nd × Int := if ckNeed n = 0 then (n, 0) else (Nd.zero, ckNeed n)
def toldNd : Option (Nd × List W) → Nd × Int
 | some (n, []) => finNd n
 | _ => (Nd.zero, 1)
def parseNd (l : W) : Nd × Int := if 20000 < l.length then (Nd.zero, 2) else toldNd (readN 4 (splitB 32 l))
end Qm
