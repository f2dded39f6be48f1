/- Parts of the proof: walks and plain laws, side by side. -/
import Derived.Test.YtedbhlgjcnnknaaGreatDoorM18
import Derived.Test.YtedbhlgjcnnknaaGreatDoorM27
import Derived.Test.YtedbhlgjcnnknaaGreatDoorM26
import Derived.Test.YtedbhlgjcnnknaaGreatDoorM9
import Derived.Test.YtedbhlgjcnnknaaGreatDoorM17
import Derived.Test.YtedbhlgjcnnknaaGreatDoorM23
import Derived.Test.YtedbhlgjcnnknaaGreatDoorM6
import Derived.Test.YtedbhlgjcnnknaaGreatDoorM11
import Derived.Test.YtedbhlgjcnnknaaGreatDoorM7
import Derived.Maps.AppendAt
set_option linter.unusedVariables false
set_option linter.unusedSimpArgs false
set_option linter.unusedSectionVars false
namespace Go.Proofs.YtedbhlgjcnnknaaGreatDoor
/- Sets of members held against each other: tree.SameSet, quartermasterref.SameSet, walked. -/
section
open Go.RowKit Qm

def sameMem (x y : Mem) : Bool := decide (x.pl = y.pl) && (x.on == y.on)
set_option maxHeartbeats 3200000 in
theorem sameMemt_any (x y : Mem) (S : Nat → Prop) (cx cy : List Value) (w : World) (hx : RMem w S cx x) (hy : RMem w S cy y) (hS : ∀ k, S k → k < w.heap.size) :
  Calls Tryz.prog 54 #[.agg cx.toArray, .agg cy.toArray] w fun e w' => e = .returned (.bool (sameMem x y)) ∧ Below w.heap.size w w' := by
 obtain ⟨A, n, c, rfl, hn, hc, hon⟩ := hx
 obtain ⟨B, m, d, rfl, hm, hd, hon'⟩ := hy
 have hbx : Below w.heap.size w ((w.alloc (.cells #[.int .i64 x.pl, .slice A n c] 85)).alloc (.cells #[.int .i64 y.pl, .slice B m d] 85)) := ((Below.refl _ w).alloc (qr _) _).alloc (by simp) _
 have heq := equalB_any A B n m c d x.on y.on _ S (Row.keep hon fun p hp => hbx.cell (hS _ hp)) (Row.keep hon' fun p hp => hbx.cell (hS _ hp)) (Nat.le_trans hn hc) (Nat.le_trans hm hd)
 have HC : Hid (sameMem x y = (decide (x.pl = y.pl) && (x.on == y.on))) := qh rfl
 obtain ⟨pl, on⟩ := x
 obtain ⟨pl', on'⟩ := y
 dsimp only at heq HC hbx
 generalize sameMem ⟨pl, on⟩ ⟨pl', on'⟩ = R at HC ⊢
 generalize (on == on') = q at heq HC
 have Heq := qh heq
 have HB := qh hbx
 clear heq hbx hon hon' hS
 by_cases hp : pl = pl'
 ·subst hp
  have hpp : (pl == pl) = true := by simp
  have HR : Hid (R = q) := qh (by rw [HC.out, decide_eq_true rfl, Bool.true_and])
  clear HC
  go_enter Tryz.func54, Tryz.ntmps54
  go_wp2_with (first | (go_at_call 55; refine Heq.out.mono ?_; rintro e w3 ⟨rfl, nq, rfl⟩; refine Hid.out ?_))
  refine qh ?_
  go_wp2
  go_ret
  exact ⟨ret_bool (by rw [HR.out]), below_drewN HB.out _⟩
 ·have hpp : (pl == pl') = false := by simpa using hp
  have HR : Hid (R = false) := qh (by rw [HC.out, decide_eq_false hp, Bool.false_and])
  clear HC hp
  go_enter Tryz.func54, Tryz.ntmps54
  go_wp2
  go_ret
  exact ⟨ret_bool (by rw [HR.out]), HB.out⟩
set_option maxHeartbeats 3200000 in
theorem sameMemr_any (x y : Mem) (S : Nat → Prop) (cx cy : List Value) (w : World) (hx : RMem w S cx x) (hy : RMem w S cy y) (hS : ∀ k, S k → k < w.heap.size) :
  Calls Tryz.prog 70 #[.agg cx.toArray, .agg cy.toArray] w fun e w' => e = .returned (.bool (sameMem x y)) ∧ Below w.heap.size w w' := by
 obtain ⟨A, n, c, rfl, hn, hc, hon⟩ := hx
 obtain ⟨B, m, d, rfl, hm, hd, hon'⟩ := hy
 have hbx : Below w.heap.size w ((w.alloc (.cells #[.int .i64 x.pl, .slice A n c] 85)).alloc (.cells #[.int .i64 y.pl, .slice B m d] 85)) := ((Below.refl _ w).alloc (qr _) _).alloc (by simp) _
 have heq := equalB_any A B n m c d x.on y.on _ S (Row.keep hon fun p hp => hbx.cell (hS _ hp)) (Row.keep hon' fun p hp => hbx.cell (hS _ hp)) (Nat.le_trans hn hc) (Nat.le_trans hm hd)
 have HC : Hid (sameMem x y = (decide (x.pl = y.pl) && (x.on == y.on))) := qh rfl
 obtain ⟨pl, on⟩ := x
 obtain ⟨pl', on'⟩ := y
 dsimp only at heq HC hbx
 generalize sameMem ⟨pl, on⟩ ⟨pl', on'⟩ = R at HC ⊢
 generalize (on == on') = q at heq HC
 have Heq := qh heq
 have HB := qh hbx
 clear heq hbx hon hon' hS
 by_cases hp : pl = pl'
 ·subst hp
  have hpp : (pl == pl) = true := by simp
  have HR : Hid (R = q) := qh (by rw [HC.out, decide_eq_true rfl, Bool.true_and])
  clear HC
  go_enter Tryz.func70, Tryz.ntmps70
  go_wp2_with (first | (go_at_call 55; refine Heq.out.mono ?_; rintro e w3 ⟨rfl, nq, rfl⟩; refine Hid.out ?_))
  refine qh ?_
  go_wp2
  go_ret
  exact ⟨ret_bool (by rw [HR.out]), below_drewN HB.out _⟩
 ·have hpp : (pl == pl') = false := by simpa using hp
  have HR : Hid (R = false) := qh (by rw [HC.out, decide_eq_false hp, Bool.false_and])
  clear HC hp
  go_enter Tryz.func70, Tryz.ntmps70
  go_wp2
  go_ret
  exact ⟨ret_bool (by rw [HR.out]), HB.out⟩
set_option maxHeartbeats 3200000 in
theorem sameSett_any (xs ys : List Mem) (S : Nat → Prop) (A B : Option Addr) (n c m d : Nat) (w : World) (hT : RSet w S A n xs) (hU : RSet w S B m ys) (hS : ∀ k, S k → k < w.heap.size) (hn : n ≤ maxLen) (hm : m ≤ maxLen) :
  Calls Tryz.prog 16 #[.slice A n c, .slice B m d] w fun e w' => e = .returned (.bool (eqL sameMem xs ys)) ∧ Below w.heap.size w w' := by
 have hq := equalF_M (RMem w S) sameMem A B n c m d xs ys 54 w S hT hU hS hn hm
  ⟨fun args W => by kernel_rfl, fun x y cx cy W hb hx hy => sameMemt_any x y S cx cy W (hx.under hb hS) (hy.under hb hS) (fun k hk => ql (hS k hk) hb.size)⟩
  (fun x y h => by obtain ⟨A, n, c, rfl, _⟩ := h; exact ⟨_, _, _, _, rfl⟩)
 generalize eqL sameMem xs ys = q at hq ⊢
 have Hq := qh hq
 clear hq hT hU hS
 go_enter Tryz.func16, Tryz.ntmps16
 go_wp2_with (first | (go_at_call 53; refine Hq.out.mono ?_; rintro e w3 ⟨rfl, hb3⟩; refine Hid.out ?_))
 refine qh ?_
 have HB3 := qh hb3
 clear hb3
 go_wp2
 go_ret
 exact ⟨rfl, HB3.out⟩
set_option maxHeartbeats 3200000 in
theorem sameSetr_any (xs ys : List Mem) (S : Nat → Prop) (A B : Option Addr) (n c m d : Nat) (w : World) (hT : RSet w S A n xs) (hU : RSet w S B m ys) (hS : ∀ k, S k → k < w.heap.size) (hn : n ≤ maxLen) (hm : m ≤ maxLen) :
  Calls Tryz.prog 24 #[.slice A n c, .slice B m d] w fun e w' => e = .returned (.bool (eqL sameMem xs ys)) ∧ Below w.heap.size w w' := by
 have hq := equalF_M (RMem w S) sameMem A B n c m d xs ys 70 w S hT hU hS hn hm
  ⟨fun args W => by kernel_rfl, fun x y cx cy W hb hx hy => sameMemr_any x y S cx cy W (hx.under hb hS) (hy.under hb hS) (fun k hk => ql (hS k hk) hb.size)⟩
  (fun x y h => by obtain ⟨A, n, c, rfl, _⟩ := h; exact ⟨_, _, _, _, rfl⟩)
 generalize eqL sameMem xs ys = q at hq ⊢
 have Hq := qh hq
 clear hq hT hU hS
 go_enter Tryz.func24, Tryz.ntmps24
 go_wp2_with (first | (go_at_call 53; refine Hq.out.mono ?_; rintro e w3 ⟨rfl, hb3⟩; refine Hid.out ?_))
 refine qh ?_
 have HB3 := qh hb3
 clear hb3
 go_wp2
 go_ret
 exact ⟨rfl, HB3.out⟩
end
/- The closed facts on Resolve and Unmask: a small tree, three wishes. No program in sight. -/
section
open Go.RowKit Qm

def atR1 : At := ⟨[97], 0, 0, 0, [], false⟩
def atR2 : At := ⟨[97], 0, 0, 0, [120], true⟩
def wsR1 : Ws := ⟨[atR1], [⟨3, []⟩], [], []⟩
def wsR2 : Ws := ⟨[atR2], [⟨3, []⟩], [], []⟩
def wsR3 : Ws := ⟨[atR2], [⟨3, []⟩], [0, 2], []⟩
def memR1 : List Mem := [⟨1, [false]⟩, ⟨3, []⟩]
def memR2 : List Mem := [⟨1, [true]⟩, ⟨2, []⟩]
theorem ck_R3 : ckWish smallT wsR3 = 0 := by decide +kernel
theorem res_R1 : resE smallT wsR1 40000 = 0 ∧ resM smallT wsR1 40000 = memR1 := by decide +kernel
theorem res_R2 : resE smallT wsR2 40000 = 0 ∧ resM smallT wsR2 40000 = memR2 := by decide +kernel
theorem res_R3 : resE smallT wsR3 40000 = 7 := by decide +kernel
theorem unm_R3 : unmE smallT wsR3 = 0 ∧ unmL smallT wsR3 = [2] := by decide +kernel
theorem prf_R3 : 0 < (resP smallT wsR3 40000).length := by
 rcases res_max ck_R3 with ⟨h, _⟩ | ⟨_, _, _, h, _⟩
 ·rw [res_R3] at h; cases h
 ·exact h
theorem eq_R1 : eqL sameMem memR1 memR1 = true := by decide +kernel
theorem eq_R2 : eqL sameMem memR2 memR2 = true := by decide +kernel
end
/- resolve.Resolve, walked. -/
section
open Go.RowKit Qm

def ResolveP (ps : List Pk) (v : Ws) (s : Int) (w : World) (e : Ending) (w' : World) : Prop :=
 ∃ A n c B k d, e = .returned (.tuple #[.slice A n c, .slice B k d, .int .i64 (resE ps v s)]) ∧ RSet w' (fun k => w.heap.size ≤ k ∧ k < w'.heap.size) A n (resM ps v s) ∧ n ≤ c ∧ c ≤ maxLen ∧ RClauses w' (fun k => w.heap.size ≤ k ∧ k < w'.heap.size) B k (resP ps v s) ∧ k ≤ d ∧ d ≤ maxLen ∧ Below w.heap.size w w'
theorem ResolveP.err {ps : List Pk} {v : Ws} {s z : Int} {w w' : World} (he : resE ps v s = z) (hz : z ≠ 0) (hp : resP ps v s = []) (hb : Below w.heap.size w w') : ResolveP ps v s w (.returned (.tuple #[.slice none 0 0, .slice none 0 0, .int .i64 z])) w' := by
 have hm : resM ps v s = [] := by unfold resM; rw [if_neg (by rw [he]; exact hz)]
 exact ⟨none, 0, 0, none, 0, 0, by rw [he], by rw [hm]; exact RSet.nil_, qr _, Nat.zero_le _, by rw [hp]; exact RClauses.nil_, qr _, Nat.zero_le _, hb⟩
set_option maxRecDepth 100000 in
set_option maxHeartbeats 3200000 in
theorem resolve_any (ps : List Pk) (v : Ws) (s : Int) (S : Nat → Prop) (A : Option Addr) (n c : Nat) (A1 A2 A3 A4 : Option Addr) (n1 c1 n2 c2 n3 c3 n4 c4 : Nat) (w : World) (hT : RTree w S A n ps) (hnc : n ≤ c) (hc : c ≤ maxLen) (hV : WsAt w S A1 n1 c1 A2 n2 c2 A3 n3 c3 A4 n4 c4 v) (hS : ∀ k, S k → k < w.heap.size) (hs : -9223372036854775808 ≤ s) (hs' : s ≤ 9223372036854775807) :
  Calls Tryz.prog 27 #[.agg #[.slice A n c], .agg #[.slice A1 n1 c1, .slice A2 n2 c2, .slice A3 n3 c3, .slice A4 n4 c4], .int .i64 s] w (ResolveP ps v s w) := by
 have hb0 : Below w.heap.size w ((w.alloc (.cells #[.slice A n c] 24)).alloc (.cells #[.slice A1 n1 c1, .slice A2 n2 c2, .slice A3 n3 c3, .slice A4 n4 c4] 30)) := ((Below.refl _ w).alloc (qr _) _).alloc (by simp) _
 have T0 := qh ((Whole.new w w.heap.size 24 [.slice A n c] rfl).alloc (.cells #[.slice A1 n1 c1, .slice A2 n2 c2, .slice A3 n3 c3, .slice A4 n4 c4] 30))
 have W0 := qh (Whole.new (w.alloc (.cells #[.slice A n c] 24)) (w.heap.size + 1) 30 [.slice A1 n1 c1, .slice A2 n2 c2, .slice A3 n3 c3, .slice A4 n4 c4] (by simp))
 have HT := qh hT; have HV := qh hV; have HS := qh hS; clear hT hV hS
 have B0 := qh hb0
 have Hlt := qh (fun (wx : World) (hb : Below w.heap.size w wx) k hk => ql (HS.out k hk) hb.size)
 have HE := qh (encode_any ps v S A n c A1 A2 A3 A4 n1 c1 n2 c2 n3 c3 n4 c4 _ (HT.out.under hb0 HS.out) hnc hc (HV.out.under hb0 HS.out) (Hlt.out _ hb0))
 have HSt := qh (fun (AM : Option Addr) (nM cM : Nat) (m : List Bool) wx (hb : Below w.heap.size w wx) (hm : RBools wx (fun k => k < wx.heap.size) AM nM m) (hn : nM ≤ cM ∧ cM ≤ maxLen) => eset_any ps v m (fun k => k < wx.heap.size) A AM n c nM cM A1 A2 A3 A4 n1 c1 n2 c2 n3 c3 n4 c4 wx ((HT.out.under hb HS.out).more fun k hk => Hlt.out _ hb k hk) hnc hc ((HV.out.under hb HS.out).more fun k hk => Hlt.out _ hb k hk) hm hn.1 hn.2 (fun k hk => hk))
 have HSo := qh (fun (F : Option Addr) (cF : Nat) wx (hr : RClauses wx (fun k => k < wx.heap.size) F (encC ps v).length (encC ps v)) (hn : (encC ps v).length ≤ cF ∧ cF ≤ maxLen) (h4 : encN ps v ≤ 400) => solve_any F (encC ps v).length cF (encN ps v : Int) s (encC ps v) wx (fun k => k < wx.heap.size) (fun k hk => hk) hr hn (by omega) (by omega) hs hs')
 obtain ⟨z, hz⟩ : ∃ z, ckWish ps v = z := ⟨_, rfl⟩
 have HZ := qh hz; clear hz
 have HFL : Hid (ckWish ps v = 0 → encN ps v ≤ 400) := qh fun h => by rw [(encN_of h).1]; exact (encW_ok h).n400
 obtain ⟨L, hL⟩ : ∃ L, (encC ps v).length = L := ⟨_, rfl⟩
 have HL := qh hL; clear hL
 clear hb0
 go_enter Tryz.func27, Tryz.ntmps27
 go_upto_region 2 with (first | (go_at_call 12; refine HE.out.mono ?_; rintro e w2 ⟨F, cF, rfl, hcl, hcc, hcm, hb2⟩; rw [HZ.out, HL.out]; refine Hid.out ?_))
 refine qh ?_
 rw [HL.out] at hcl hcc
 have T2 := qh (T0.out.below hb2 T0.out.lt)
 have W2 := qh (W0.out.below hb2 W0.out.lt)
 have B2 := qh (B0.out.trans (hb2.mono B0.out.size))
 have HCL := qh (hcl.more (S' := fun k => k < w2.heap.size) fun k hk => hk.2)
 clear hb2 hcl T0 W0 B0 HE
 by_cases hz0 : z = 0
 ·subst hz0
  have hN4 := HFL.out HZ.out
  have hb3 : Below w2.heap.size w2 (w2.alloc (.cells #[.int .i64 (encN ps v : Int), .slice F L cF] 33)) := (Below.refl _ w2).alloc (qr _) _
  have T3 := qh (T2.out.below hb3 T2.out.lt)
  have W3 := qh (W2.out.below hb3 W2.out.lt)
  have B3 := qh (B2.out.trans (hb3.mono B2.out.size))
  have F3 := qh (Whole.new w2 w2.heap.size 33 [.int .i64 (encN ps v : Int), .slice F L cF] rfl)
  have HSV := qh (by
   have h := HSo.out F cF (w2.alloc (.cells #[.int .i64 (encN ps v : Int), .slice F L cF] 33)) (by rw [HL.out]; exact (HCL.out.below hb3 fun k hk => hk).more fun k hk => ql hk hb3.size) (by rw [HL.out]; exact ⟨hcc, hcm⟩) hN4
   rw [HL.out] at h
   exact h)
  obtain ⟨y, hy⟩ : ∃ y, slvE ps v s = y := ⟨_, rfl⟩
  have HY := qh hy; clear hy
  have f0 := F3.out.cell 0; have f1 := F3.out.cell 1
  simp only [qgz, qgs] at f0 f1
  unfold maxLen at hcm
  clear hb3 T2 W2 B2 HCL HSo
  go_upto_region 5 with (first | (go_at_call 26; refine HSV.out.mono ?_; rintro e w4 ⟨AM, nM, cM, AP, nP, cP, rfl, hM, hMc, hP, hPc, hb4⟩; refine Hid.out ?_))
  refine qh ?_
  have hyy : solveErr (encN ps v : Int) (encC ps v) s = y := HY.out
  rw [hyy]
  have T4 := qh (T3.out.below hb4 T3.out.lt)
  have W4 := qh (W3.out.below hb4 W3.out.lt)
  have B4 := qh (B3.out.trans (hb4.mono B3.out.size))
  have hPL := hP.len
  have HM := qh ((show RBools w4 _ AM nM (slvM ps v s) from hM).more (S' := fun k => k < w4.heap.size) fun k hk => hk.2)
  have HP := qh ((show RClauses w4 _ AP nP (slvP ps v s) from hP).more (S' := fun k => w.heap.size ≤ k ∧ k < w4.heap.size) fun k hk => ⟨Nat.le_trans B3.out.size hk.1, hk.2⟩)
  have HPL : Hid ((slvP ps v s).length = nP) := qh hPL
  obtain ⟨hMc1, hMc2⟩ := hMc
  obtain ⟨hPc1, hPc2⟩ := hPc
  clear hb4 hM hP hPL hyy f0 f1 F3 T3 W3 B3 HSV
  by_cases hy0 : y = 0
  ·subst hy0
   have hb5 : Below w4.heap.size w4 (w4.alloc (.cells #[.slice AM nM cM, .slice AP nP cP] 59)) := (Below.refl _ w4).alloc (qr _) _
   have T5 := qh (T4.out.below hb5 T4.out.lt)
   have W5 := qh (W4.out.below hb5 W4.out.lt)
   have B5 := qh (B4.out.trans (hb5.mono B4.out.size))
   have A5 := qh (Whole.new w4 w4.heap.size 59 [.slice AM nM cM, .slice AP nP cP] rfl)
   have a0 := A5.out.cell 0; have a1 := A5.out.cell 1
   simp only [qgz, qgs] at a0 a1
   by_cases hp0 : nP = 0
   ·subst hp0
    have hpn : slvP ps v s = [] := List.length_eq_zero_iff.1 HPL.out
    obtain ⟨hE0, hV0, hR0⟩ := res_setE HZ.out HY.out hpn
    have HSE := qh (by
     have h := HSt.out AM nM cM (slvM ps v s) (w4.alloc (.cells #[.slice AM nM cM, .slice AP 0 cP] 59)) B5.out (RBools.more (RBools.below HM.out hb5 fun k hk => hk) fun k hk => ql hk hb5.size) ⟨hMc1, hMc2⟩
     unfold SetP at h
     rw [hE0, hV0] at h
     exact h)
    have t0 := T5.out.cell 0; have u0 := W5.out.cell 0; have u1 := W5.out.cell 1; have u2 := W5.out.cell 2; have u3 := W5.out.cell 3
    simp only [qgz, qgs] at t0 u0 u1 u2 u3
    have HRP : Hid (resP ps v s = []) := qh (by unfold resP; rw [if_neg (by rw [HZ.out, HY.out]; simp)]; exact hpn)
    have HR0 := qh hR0
    unfold maxLen at hMc2
    clear hb5 hE0 hV0 hR0 hpn
    go_wp2_with (first | (go_at_call 15; refine HSE.out.mono ?_; rintro e w6 ⟨Aq, cq, rfl, hq, hq1, hq2, hb6⟩; refine Hid.out ?_))
    refine qh ?_
    have B6 := qh (B5.out.trans (hb6.mono B5.out.size))
    have HQ := qh (hq.more (S' := fun k => w.heap.size ≤ k ∧ k < w6.heap.size) fun k hk => ⟨Nat.le_trans B5.out.size hk.1, hk.2⟩)
    clear hb6 hq
    go_wp2
    go_ret3
    exact ⟨Aq, _, cq, none, 0, 0, by rw [HR0.out]; rfl, HQ.out, hq1, hq2, by rw [HRP.out]; exact RClauses.nil_, qr _, Nat.zero_le _, B6.out⟩
   ·have hp1 : (0 : Int) < nP := by omega
    have HRP : Hid (resP ps v s = slvP ps v s) := qh (by unfold resP; rw [if_neg (by rw [HZ.out, HY.out]; simp)])
    have HR7 : Hid (resE ps v s = 7) := qh (by unfold resE; rw [if_neg (by rw [HZ.out]; simp), if_neg (by rw [HY.out]; simp), if_pos (by rw [HPL.out]; omega)])
    have HP5 := qh ((HP.out.below hb5 fun k hk => hk.2).more (S' := fun k => w.heap.size ≤ k ∧ k < (w4.alloc (.cells #[.slice AM nM cM, .slice AP nP cP] 59)).heap.size) fun k hk => ⟨hk.1, ql hk.2 hb5.size⟩)
    unfold maxLen at hPc2
    clear hb5
    go_upto_region 8 with fail
    go_region
    go_wp2
    go_ret3
    exact ⟨none, 0, 0, AP, nP, cP, by rw [HR7.out]; rfl, by unfold resM; rw [if_neg (by rw [HR7.out]; decide)]; exact RSet.nil_, qr _, Nat.zero_le _, by rw [HRP.out]; exact HP5.out.keep fun _ _ => rfl, hPc1, hPc2, below_drewN B5.out 1⟩
  ·have hyb : (y == 0) = false := by simpa using hy0
   have HRY : Hid (resE ps v s = y) := qh (by unfold resE; rw [if_neg (by rw [HZ.out]; simp), if_pos (by rw [HY.out]; exact hy0)]; exact HY.out)
   have HRP : Hid (resP ps v s = []) := qh (by unfold resP; rw [if_pos (.inr (by rw [HY.out]; exact hy0))])
   have B5 : Hid (Below w.heap.size w (w4.alloc (.cells #[.slice AM nM cM, .slice AP nP cP] 59))) := qh (B4.out.alloc B4.out.size _)
   go_wp2
   go_ret3
   exact ResolveP.err HRY.out hy0 HRP.out B5.out
 ·have hzb : (z == 0) = false := by simpa using hz0
  have HRZ := qh (res_bad (s := s) (by rw [HZ.out]; exact hz0))
  have B3 : Hid (Below w.heap.size w (w2.alloc (.cells #[.int .i64 (encN ps v : Int), .slice F L cF] 33))) := qh (B2.out.alloc B2.out.size _)
  go_wp2
  go_ret3
  exact ResolveP.err (HRZ.out.1.trans HZ.out) hz0 HRZ.out.2.2 B3.out
end
/- resolve.Unmask, walked (in all steps that there may be). -/
section
open Go.RowKit Qm

theorem WsAt.mask {w : World} {S : Nat → Prop} {A1 A2 A3 A4 : Option Addr} {n1 c1 n2 c2 n3 c3 n4 c4 : Nat} {v : Ws} (h : WsAt w S A1 n1 c1 A2 n2 c2 A3 n3 c3 A4 n4 c4 v) {A : Option Addr} {n c : Nat} {ms : List Int} (hr : RInts w S A n ms) (hn : n ≤ c) (hc : c ≤ maxLen) :
  WsAt w S A1 n1 c1 A2 n2 c2 A n c A4 n4 c4 { v with ms := ms } := ⟨h.h1, h.h2, ⟨hn, hc⟩, h.h4, h.ts, h.ins, hr, h.on⟩
def UnmaskP (ps : List Pk) (v : Ws) (w : World) (e : Ending) (w' : World) : Prop :=
 ∃ A n c, e = .returned (.tuple #[.slice A n c, .int .i64 (unmE ps v)]) ∧ RInts w' (fun k => w.heap.size ≤ k ∧ k < w'.heap.size) A n (unmL ps v) ∧ n ≤ c ∧ c ≤ maxLen ∧ Below w.heap.size w w'
theorem UnmaskP.err {ps : List Pk} {v : Ws} {z : Int} {w w' : World} (he : unmE ps v = z) (hz : z ≠ 0) (hb : Below w.heap.size w w') : UnmaskP ps v w (.returned (.tuple #[.slice none 0 0, .int .i64 z])) w' := by
 have hm : unmL ps v = [] := by unfold unmL; rw [if_neg (by rw [he]; exact hz)]
 exact ⟨none, 0, 0, by rw [he], by rw [hm]; exact RInts.nil_, qr _, Nat.zero_le _, hb⟩
structure Um (w : World) (A : Option Addr) (n c : Nat) (A1 : Option Addr) (n1 c1 : Nat) (A2 : Option Addr) (n2 c2 : Nat) (A4 : Option Addr) (n4 c4 : Nat) (AM : Option Addr) (nM cM : Nat) (acc out : List Int) (cv : Value) (wr : World) : Prop where
 b : Below w.heap.size w wr
 t : Whole wr w.heap.size 24 [.slice A n c]
 wi : Whole wr (w.heap.size + 1) 30 [.slice A1 n1 c1, .slice A2 n2 c2, .slice AM nM cM, .slice A4 n4 c4]
 ms : RInts wr (fun k => w.heap.size + 1 < k ∧ k < wr.heap.size ∧ cv.ownBlock ≠ some k) AM nM acc
 hn : nM ≤ cM ∧ cM ≤ maxLen
 o : wr.ownsRow (w.heap.size + 1 + 1) 3 1 cv out.length (out.map (Value.int .i64))
section
variable {w : World} {A : Option Addr} {n c : Nat} {A1 A2 A4 AM : Option Addr} {n1 c1 n2 c2 n4 c4 nM cM : Nat} {acc out : List Int} {cv : Value} {wr wy : World}
theorem Um.move (h : Um w A n c A1 n1 c1 A2 n2 c2 A4 n4 c4 AM nM cM acc out cv wr) (hb : Below wr.heap.size wr wy) : Um w A n c A1 n1 c1 A2 n2 c2 A4 n4 c4 AM nM cM acc out cv wy :=
 ⟨h.b.trans (hb.mono h.b.size), h.t.below hb h.t.lt, h.wi.below hb h.wi.lt, (h.ms.below hb fun k hk => hk.2.1).more fun k hk => ⟨hk.1, ql hk.2.1 hb.size, hk.2.2⟩, h.hn, (Far.of_below (fun _ => False) hb).own h.o fun _ _ h => h⟩
theorem Um.retake (h : Um w A n c A1 n1 c1 A2 n2 c2 A4 n4 c4 AM nM cM acc out cv wr) {A6 : Option Addr} {n6 c6 : Nat} {acc' : List Int} (hr : RInts wr (fun k => w.heap.size + 1 < k ∧ k < wr.heap.size ∧ cv.ownBlock ≠ some k) A6 n6 acc') (hn : n6 ≤ c6 ∧ c6 ≤ maxLen) :
  Um w A n c A1 n1 c1 A2 n2 c2 A4 n4 c4 A6 n6 c6 acc' out cv ((((wr.setCell ⟨w.heap.size + 1, 0, none⟩ (.slice A1 n1 c1)).setCell ⟨w.heap.size + 1, 1, none⟩ (.slice A2 n2 c2)).setCell ⟨w.heap.size + 1, 2, none⟩ (.slice A6 n6 c6)).setCell ⟨w.heap.size + 1, 3, none⟩ (.slice A4 n4 c4)) := by
 have far : Far (fun i => i = w.heap.size + 1) wr ((((wr.setCell ⟨w.heap.size + 1, 0, none⟩ (.slice A1 n1 c1)).setCell ⟨w.heap.size + 1, 1, none⟩ (.slice A2 n2 c2)).setCell ⟨w.heap.size + 1, 2, none⟩ (.slice A6 n6 c6)).setCell ⟨w.heap.size + 1, 3, none⟩ (.slice A4 n4 c4)) :=
  (((Far.set_ (D := fun i => i = w.heap.size + 1) rfl 0 (.slice A1 n1 c1)).trans (Far.set_ (D := fun i => i = w.heap.size + 1) rfl 1 (.slice A2 n2 c2)) fun _ _ h => h).trans (Far.set_ (D := fun i => i = w.heap.size + 1) rfl 2 (.slice A6 n6 c6)) fun _ _ h => h).trans (Far.set_ (D := fun i => i = w.heap.size + 1) rfl 3 (.slice A4 n4 c4)) fun _ _ h => h
 refine ⟨(((h.b.setCell (p := ⟨w.heap.size + 1, 0, none⟩) (Nat.le_succ _) _).setCell (p := ⟨w.heap.size + 1, 1, none⟩) (Nat.le_succ _) _).setCell (p := ⟨w.heap.size + 1, 2, none⟩) (Nat.le_succ _) _).setCell (p := ⟨w.heap.size + 1, 3, none⟩) (Nat.le_succ _) _, far.whole h.t (by show ¬ (w.heap.size = w.heap.size + 1); omega), ?_,
  (far.ints hr fun i hi => ⟨hi.2.1, by show ¬ (i = w.heap.size + 1); omega⟩).more fun i hi => ⟨hi.1, ql hi.2.1 far.size, hi.2.2⟩, hn, far.own h.o fun g hg => by have := (h.o.lt g hg).1; show ¬ (g = w.heap.size + 1); omega⟩
 exact (((h.wi.set_ 0 (.slice A1 n1 c1)).set_ 1 (.slice A2 n2 c2)).set_ 2 (.slice A6 n6 c6)).set_ 3 (.slice A4 n4 c4)
theorem Um.lt (h : Um w A n c A1 n1 c1 A2 n2 c2 A4 n4 c4 AM nM cM acc out cv wr) : w.heap.size + 1 < wr.heap.size := h.wi.lt
theorem Um.push (h : Um w A n c A1 n1 c1 A2 n2 c2 A4 n4 c4 AM nM cM acc out cv wr) {k : Int} {o : Obj} {cv' : Value} (hown : wy.ownsRow (w.heap.size + 1 + 1) 3 1 cv' (out.length + 1) (out.map (Value.int .i64) ++ [.int .i64 k])) (hg : (wr.alloc o).grownBy wy cv.ownBlock)
  (hv : cv'.ownBlock = cv.ownBlock ∨ cv'.ownBlock = some (wr.alloc o).heap.size) : Um w A n c A1 n1 c1 A2 n2 c2 A4 n4 c4 AM nM cM acc (out ++ [k]) cv' wy := by
 have hal : Below wr.heap.size wr (wr.alloc o) := (Below.refl _ wr).alloc (qr _) _
 have far : Far (fun i => cv.ownBlock = some i) wr wy := (Far.of_below _ hal).trans (Far.of_grown hg fun i h => h.symm) fun _ _ h => h
 have hge : ∀ i, cv.ownBlock = some i → w.heap.size + 1 + 1 ≤ i := fun i e => (h.o.lt i e).1
 have hs := far.size
 refine ⟨h.b.trans ((hal.mono h.b.size).grown hg (by have := h.b.size; simp; omega) fun i e => by have := hge i e; omega), far.whole h.t fun e => by have := hge _ e; omega, far.whole h.wi fun e => by have := hge _ e; omega,
  (far.ints h.ms fun i hi => ⟨hi.2.1, hi.2.2⟩).more fun i hi => ⟨hi.1, ql hi.2.1 hs, ?_⟩, h.hn, by rw [List.length_append, List.map_append]; exact hown⟩
 rcases hv with e | e
 ·rw [e]; exact hi.2.2
 ·rw [e]; intro e2; injection e2 with e2; have := hi.2.1; simp at e2; omega
end
set_option maxRecDepth 100000 in
set_option maxHeartbeats 3200000 in
theorem unmask_any (ps : List Pk) (v : Ws) (S : Nat → Prop) (A : Option Addr) (n c : Nat) (A1 A2 A3 A4 : Option Addr) (n1 c1 n2 c2 n3 c3 n4 c4 : Nat) (w : World) (hT : RTree w S A n ps) (hnc : n ≤ c) (hc : c ≤ maxLen) (hV : WsAt w S A1 n1 c1 A2 n2 c2 A3 n3 c3 A4 n4 c4 v) (hS : ∀ k, S k → k < w.heap.size) :
  Calls Tryz.prog 28 #[.agg #[.slice A n c], .agg #[.slice A1 n1 c1, .slice A2 n2 c2, .slice A3 n3 c3, .slice A4 n4 c4], .int .i64 40000] w (UnmaskP ps v w) := by
 have hb0 : Below w.heap.size w ((w.alloc (.cells #[.slice A n c] 24)).alloc (.cells #[.slice A1 n1 c1, .slice A2 n2 c2, .slice A3 n3 c3, .slice A4 n4 c4] 30)) := ((Below.refl _ w).alloc (qr _) _).alloc (by simp) _
 have T0 := qh ((Whole.new w w.heap.size 24 [.slice A n c] rfl).alloc (.cells #[.slice A1 n1 c1, .slice A2 n2 c2, .slice A3 n3 c3, .slice A4 n4 c4] 30))
 have W0 := qh (Whole.new (w.alloc (.cells #[.slice A n c] 24)) (w.heap.size + 1) 30 [.slice A1 n1 c1, .slice A2 n2 c2, .slice A3 n3 c3, .slice A4 n4 c4] (by simp))
 obtain ⟨hn3, hc3⟩ := hV.h3
 have HT := qh hT; have HV := qh hV; have HS := qh hS; clear hT hV hS
 have B0 := qh hb0
 have Hlt := qh (fun (wx : World) (hb : Below w.heap.size w wx) k hk => ql (HS.out k hk) hb.size)
 have HCK := qh (cwish_any ps v S A n c A1 A2 A3 A4 n1 c1 n2 c2 n3 c3 n4 c4 _ (HT.out.under hb0 HS.out) hnc hc (HV.out.under hb0 HS.out) (Hlt.out _ hb0))
 have HRS := qh (fun (AM : Option Addr) (nM cM : Nat) (ms : List Int) wx (hb : Below w.heap.size w wx) (hm : RInts wx (fun k => k < wx.heap.size) AM nM ms) (hn : nM ≤ cM) (hcM : cM ≤ maxLen) => resolve_any ps { v with ms := ms } 40000 (fun k => k < wx.heap.size) A n c A1 A2 AM A4 n1 c1 n2 c2 nM cM n4 c4 wx ((HT.out.under hb HS.out).more fun k hk => Hlt.out _ hb k hk) hnc hc (((HV.out.under hb HS.out).more fun k hk => Hlt.out _ hb k hk).mask hm hn hcM) (fun k hk => hk) (by decide) (by decide))
 obtain ⟨z, hz⟩ : ∃ z, ckWish ps v = z := ⟨_, rfl⟩
 have HZ := qh hz; clear hz
 clear hb0
 go_enter Tryz.func28, Tryz.ntmps28
 go_upto_region 2 with (first | (go_at_call 34; refine HCK.out.mono ?_; rintro e w2 ⟨rfl, hb2⟩; rw [HZ.out]; refine Hid.out ?_))
 refine qh ?_
 have T2 := qh (T0.out.below hb2 T0.out.lt)
 have W2 := qh (W0.out.below hb2 W0.out.lt)
 have B2 := qh (B0.out.trans (hb2.mono B0.out.size))
 clear hb2 T0 W0 B0 HCK
 by_cases hz0 : z = 0
 ·subst hz0
  have u0 := W2.out.cell 0; have u1 := W2.out.cell 1; have u2 := W2.out.cell 2; have u3 := W2.out.cell 3; have y2 := W2.out.free 2
  have t0 := T2.out.cell 0
  simp only [qgz, qgs] at t0 u0 u1 u2 u3
  go_upto_region 6 with fail
  have T3 := qh (T2.out.far (p := ⟨w.heap.size + 1, 2, none⟩) (by show w.heap.size ≠ w.heap.size + 1; omega) (.slice none 0 0))
  have W3 := qh (W2.out.set_ 2 (.slice none 0 0))
  have B3 := qh (B2.out.setCell (p := ⟨w.heap.size + 1, 2, none⟩) (Nat.le_succ _) (.slice none 0 0))
  clear u0 u1 u2 u3 y2 t0 T2 W2 B2
  generalize w2.setCell ⟨w.heap.size + 1, 2, none⟩ (.slice none 0 0) = w3 at *
  have u0 := W3.out.cell 0; have u1 := W3.out.cell 1; have u2 := W3.out.cell 2; have u3 := W3.out.cell 3
  have t0 := T3.out.cell 0
  simp only [List.getElem?_cons_zero, List.getElem?_cons_succ, List.set_cons_succ, List.set_cons_zero] at t0 u0 u1 u2 u3
  have HR3 := qh (HRS.out none 0 0 [] w3 B3.out RInts.nil_ (qr _) (Nat.zero_le _))
  obtain ⟨y, hy⟩ : ∃ y, resE ps { v with ms := [] } 40000 = y := ⟨_, rfl⟩
  have HY := qh hy; clear hy
  have HUY : Hid (unmE ps v = y) := qh (by unfold unmE; rw [if_neg (by rw [HZ.out]; simp)]; exact HY.out)
  go_upto_region 7 with (first | (go_at_call 27; refine HR3.out.mono ?_; rintro e w4 ⟨Aa, na, ca, Ab, nb, cb, rfl, -, -, -, -, -, -, hb4⟩; rw [HY.out]; refine Hid.out ?_))
  refine qh ?_
  have T4 := qh (T3.out.below hb4 T3.out.lt)
  have W4 := qh (W3.out.below hb4 W3.out.lt)
  have B4 := qh (B3.out.trans (hb4.mono B3.out.size))
  clear hb4 u0 u1 u2 u3 t0 T3 W3 B3 HR3
  by_cases hy0 : y = 0
  ·subst hy0
   have U4 : Hid (Um w A n c A1 n1 c1 A2 n2 c2 A4 n4 c4 none 0 0 [] [] (.slice none 0 0) w4) := qh ⟨B4.out, T4.out, W4.out, RInts.nil_, ⟨qr _, Nat.zero_le _⟩, World.ownsRow_nil _ _ _ _⟩
   obtain ⟨i0, hi0, hz1, hz2, hz3⟩ := info_parts int_infoE
   have Hi := qh hi0; have Hz0 := qh hz1; have Hz1 := qh hz2; have Hz2 := qh hz3
   have hms8 : v.ms.length ≤ 100000 := by
    have W := wish_parts HZ.out
    have h1 := ckMask_short W.ms
    have h2 := ckTree_len W.tree
    omega
   have hn38 : n3 ≤ 100000 := by rw [← HV.out.ms.len]; exact hms8
   clear hi0 hz1 hz2 hz3 T4 W4 B4
   unfold maxLen at hc3
   go_wp2
   go_loopg [42, 13] n3 (fun g iv ov wr => ∃ (j : Nat) (AM : Option Addr) (nM cM : Nat) (acc out : List Int), Hid (j + g = n3) ∧ iv = .int .i64 j ∧ Hid (unmAll (qMay ps v) (v.ms.take j) = (acc, out)) ∧ acc.length ≤ j ∧ out.length ≤ j ∧ Hid (Um w A n c A1 n1 c1 A2 n2 c2 A4 n4 c4 AM nM cM acc out ov wr))
   case atStart => exact ⟨0, none, 0, 0, [], [], qh (Nat.zero_add _), rfl, qh rfl, qr _, qr _, U4⟩
   case round =>
    obtain ⟨j, AM, nM, cM, acc, out, Hj, rfl, HA, hacl, houl, HU⟩ := hrel
    clear U4
    by_cases hj : j < n3
    ·obtain ⟨b, o, rfl, hbS, hcell⟩ := (HV.out.under HU.out.b HS.out).ms.at_ hj
     have hjs : v.ms[j]? = some (v.ms.getD j 0) := by
      have hl : j < v.ms.length := by rw [HV.out.ms.len]; exact hj
      rw [List.getD_eq_getElem?_getD, List.getElem?_eq_getElem hl]; rfl
     generalize v.ms.getD j 0 = k at hcell hjs
     have hst := unm_step HUY.out hjs
     rw [HA.out] at hst
     dsimp only at hst
     have HST := qh hst
     have hbl : b < wr.heap.size := ql (HS.out _ hbS) HU.out.b.size
     have hj1 : (j : Int) < n3 := by omega
     have hj0 : (0 : Int) ≤ (j : Int) := by omega
     have hnMl : nM ≤ 100000 := by have := HU.out.ms.len; omega
     have HNM : Hid (nM = acc.length) := qh HU.out.ms.len.symm
     have hb7 : Below wr.heap.size wr (wr.alloc (.cells #[.slice A1 n1 c1, .slice A2 n2 c2, .slice AM nM cM, .slice A4 n4 c4] 30)) := (Below.refl _ wr).alloc (qr _) _
     have U7 := qh (HU.out.move hb7)
     have HB7 := qh hb7
     have TB7 := qh (Whole.new wr wr.heap.size 30 [.slice A1 n1 c1, .slice A2 n2 c2, .slice AM nM cM, .slice A4 n4 c4] rfl)
     have HCl := qh (cloneInts_any AM nM cM (acc.map (Value.int .i64)) (wr.alloc (.cells #[.slice A1 n1 c1, .slice A2 n2 c2, .slice AM nM cM, .slice A4 n4 c4] 30)) (fun k => k < (wr.alloc (.cells #[.slice A1 n1 c1, .slice A2 n2 c2, .slice AM nM cM, .slice A4 n4 c4] 30)).heap.size) (U7.out.ms.more fun k hk => hk.2.1) (fun u hu => by obtain ⟨x, _, rfl⟩ := List.mem_map.1 hu; rfl) (fun k hk => hk) (by omega))
     have u0 := HU.out.wi.cell 0; have u1 := HU.out.wi.cell 1; have u2 := HU.out.wi.cell 2; have u3 := HU.out.wi.cell 3
     have v2 := U7.out.wi.cell 2
     simp only [qgz, qgs] at u0 u1 u2 u3 v2
     have hcm := HU.out.hn.2
     unfold maxLen at hcm
     have hwl := HU.out.lt
     have HHN := qh HU.out.hn
     clear hst hjs hb7
     go_upto_region 14 with fail
     clear u0 u1 u2 u3 hcell
     have htb : wr.heap.size < (wr.alloc (.cells #[.slice A1 n1 c1, .slice A2 n2 c2, .slice AM nM cM, .slice A4 n4 c4] 30)).heap.size := by simp
     generalize wr.alloc (.cells #[.slice A1 n1 c1, .slice A2 n2 c2, .slice AM nM cM, .slice A4 n4 c4] 30) = wt at *
     go_upto_region 15 with (first | (go_at_call 39; refine HCl.out.mono ?_; rintro e w5 ⟨A5, c5, rfl, hn5, hc5, hown5, hb5⟩; refine Hid.out ?_))
     refine qh ?_
     have hg5 := hown5.lt
     have HO5 := qh hown5
     have HB5 := qh hb5
     have TB5 := qh (TB7.out.below hb5 TB7.out.lt)
     unfold maxLen at hc5
     clear hown5 hb5 HCl v2
     go_upto_region 15 with (at_builtin; refine wpList_append_own_at _ rfl _ _ 27 rfl wt.heap.size 3 i0 (.int .i64 0) 1 8 Tryz.underlying27 Hi.out Hz0.out Hz1.out Hz2.out rfl (by decide) _ _ _ rfl (HO5.out.alloc _) ⟨w5.heap.size, 0, none⟩ 1 1 [.int .i64 k] rfl rfl ?e1 ?e2 ?e3 ?e4 ?e5 ?_)
     case e1 => exact cell_one_new _ _ _
     case e2 => simp [Value.oneCell']
     case e3 => unfold maxLen; omega
     case e4 => omega
     case e5 => have := HB5.out.size; simp; omega
     intro cv' w6 hown6 hg6 _ hat6
     obtain ⟨A6, c6, rfl, hn6, hc6, hrow6⟩ := own_form hown6
     have TB6 := qh ((TB5.out.alloc _).grown hg6 (fun e => by have := (hg5 _ e.symm).1; omega))
     have HB6 : Hid (Below wr.heap.size wr w6) := qh ((((HB7.out.trans (HB5.out.mono (Nat.le_of_lt htb))).alloc (by have := HB5.out.size; omega) _)).grown hg6 (by have := HB5.out.size; simp; omega) (fun g e => by have := (hg5 _ e).1; omega))
     have z2 := TB6.out.cell 2; have f2 := TB6.out.free 2
     simp only [qgz, qgs] at z2
     have HR6 := qh hrow6
     clear hown6 hg6 hat6 hrow6 HO5 TB5 hg5
     go_upto_region 15 with fail
     have TB7' := qh (TB6.out.set_ 2 (.slice A6 (nM + 1) c6))
     have HB7' := qh (HB6.out.setCell (p := ⟨wr.heap.size, 2, none⟩) (qr _) (.slice A6 (nM + 1) c6))
     have hr7 : RInts (w6.setCell ⟨wr.heap.size, 2, none⟩ (.slice A6 (nM + 1) c6)) (fun k => wr.heap.size < k ∧ k < (w6.setCell ⟨wr.heap.size, 2, none⟩ (.slice A6 (nM + 1) c6)).heap.size) A6 (nM + 1) (acc ++ [k]) := by
      have h1 : RInts w6 (fun k => wt.heap.size ≤ k ∧ k < w6.heap.size) A6 (nM + 1) (acc ++ [k]) := by
       have h := HR6.out
       unfold RInts
       rw [List.map_append]; exact h
      refine (h1.keep fun p hp => World.cell?_of_block (heap_setCell_other _ _ _ _ (by show p.block ≠ wr.heap.size; have := hp.1; omega))).more fun i hi => ⟨by have := hi.1; omega, by simpa [World.setCell] using hi.2⟩
     have HR7 := qh hr7
     clear hr7 z2 f2 TB6 HB6 HR6 TB7 HB7 HB5 U7
     generalize w6.setCell ⟨wr.heap.size, 2, none⟩ (.slice A6 (nM + 1) c6) = w7 at *
     have U7 := qh (HU.out.move HB7'.out)
     have hc6' := hc6
     unfold maxLen at hc6'
     have HRR := qh (HRS.out A6 (nM + 1) c6 (acc ++ [k]) w7 U7.out.b (HR7.out.more fun i hi => hi.2) hn6 hc6)
     have t0 := U7.out.t.cell 0
     have z0 := TB7'.out.cell 0; have z1 := TB7'.out.cell 1; have z2 := TB7'.out.cell 2; have z3 := TB7'.out.cell 3
     simp only [List.getElem?_cons_zero, List.getElem?_cons_succ, List.set_cons_succ, List.set_cons_zero] at t0 z0 z1 z2 z3
     obtain ⟨y, hy⟩ : ∃ y, resE ps { v with ms := acc ++ [k] } 40000 = y := ⟨_, rfl⟩
     have hst := HST.out
     rw [hy] at hst
     have HY2 := qh hy
     have HST2 := qh hst
     have HOL := qh HU.out.o.lt
     clear hy hst HST HU
     go_upto_region 16 with (first | (go_at_call 27; refine HRR.out.mono ?_; rintro e w8 ⟨Ax, nx, cx, Ay, ny, cy, rfl, -, -, -, -, -, -, hb8⟩; rw [HY2.out]; refine Hid.out ?_))
     refine qh ?_
     have U8 := qh (U7.out.move hb8)
     have TB8 := qh (TB7'.out.below hb8 TB7'.out.lt)
     have HR8 := qh ((HR7.out.below hb8 fun i hi => hi.2).more (S' := fun i => wr.heap.size < i ∧ i < w8.heap.size) fun i hi => ⟨hi.1, ql hi.2 hb8.size⟩)
     clear hb8 t0 z0 z1 z2 z3 U7 TB7' HR7 HRR HB7'
     obtain ⟨_, ⟨hy0, hnx⟩ | ⟨hy7, hnx⟩⟩ := HST2.out
     ·subst hy0
      have z0 := TB8.out.cell 0; have z1 := TB8.out.cell 1; have z2 := TB8.out.cell 2; have z3 := TB8.out.cell 3
      have u0 := U8.out.wi.cell 0; have u1 := U8.out.wi.cell 1; have u2 := U8.out.wi.cell 2; have u3 := U8.out.wi.cell 3
      have f0 := U8.out.wi.free 0; have f1 := U8.out.wi.free 1; have f2 := U8.out.wi.free 2; have f3 := U8.out.wi.free 3
      simp only [List.getElem?_cons_zero, List.getElem?_cons_succ, List.set_cons_succ, List.set_cons_zero] at z0 z1 z2 z3 u0 u1 u2 u3
      have UX := qh (U8.out.retake (HR8.out.more fun i hi => ⟨by omega, hi.2, fun e => by have := (HOL.out i e).2; omega⟩) ⟨hn6, hc6⟩)
      go_wp2
      go_roundg (gk - 1)
      case measure => have := Hj.out; omega
      case rel => exact ⟨j + 1, A6, nM + 1, c6, acc ++ [k], out, qh (by have := Hj.out; omega), by go_num, qh hnx, by simp; omega, by omega, UX⟩
     ·subst hy7
      go_wp2_with (at_builtin; refine wpList_append_own_at _ rfl _ _ 27 rfl (w.heap.size + 1 + 1) 3 i0 (.int .i64 0) 1 8 Tryz.underlying27 Hi.out Hz0.out Hz1.out Hz2.out rfl (by decide) _ _ _ rfl (U8.out.o.alloc _) ⟨w8.heap.size, 0, none⟩ 1 1 [.int .i64 k] rfl rfl ?kk1 ?kk2 ?kk3 ?kk4 ?kk5 ?_)
      case kk2 => simp [Value.oneCell']
      case kk3 => unfold maxLen; omega
      case kk4 => omega
      case kk5 => have := U8.out.b.size; have := U8.out.lt; simp; omega
      intro cv' w9 hown9 hg9 _ hat9
      have UX := qh (U8.out.push hown9 hg9 (by simpa using hat9))
      clear hown9 hg9 hat9
      go_wp2
      go_roundg (gk - 1)
      case measure => have := Hj.out; omega
      case rel => exact ⟨j + 1, _, _, _, acc, out ++ [k], qh (by have := Hj.out; omega), by go_num, qh hnx, by omega, by simp; omega, UX⟩
    ·obtain rfl : n3 = j := by have := Hj.out; omega
     have hall : v.ms.take n3 = v.ms := List.take_of_length_le (by rw [HV.out.ms.len]; exact qr _)
     have ha := HA.out
     rw [hall] at ha
     have HUL : Hid (unmL ps v = out) := qh (by unfold unmL; rw [if_pos HUY.out, ha])
     obtain ⟨Ao, co, rfl, hno, hco, hrow⟩ := own_form HU.out.o
     have HRO : Hid (RInts wr (fun k => w.heap.size ≤ k ∧ k < wr.heap.size) Ao out.length out) := qh (Row.more hrow fun k hk => ⟨by have := hk.1; omega, hk.2⟩)
     clear hall ha hrow
     go_wp2
     go_ret2
     exact ⟨Ao, _, co, by rw [HUY.out]; rfl, by rw [HUL.out]; exact HRO.out, hno, hco, HU.out.b⟩
  ·have hyb : (y == 0) = false := by simpa using hy0
   go_wp2
   go_ret2
   exact UnmaskP.err HUY.out hy0 B4.out
 ·have hzb : (z == 0) = false := by simpa using hz0
  have HRZ : Hid (unmE ps v = z) := qh (by unfold unmE; rw [if_pos (by rw [HZ.out]; exact hz0)]; exact HZ.out)
  go_wp2
  go_ret2
  exact UnmaskP.err HRZ.out hz0 B2.out
end
/- A block that is known whole, read as elements of K cells. -/
section
open Go.RowKit Qm

theorem flat_lenG {K : Nat} : ∀ {cs : List (List Value)}, (∀ x ∈ cs, x.length = K) → cs.flatten.length = cs.length * K
 | [], _ => by simp
 | c :: r, h => by
  have := flat_lenG (K := K) (cs := r) fun x hx => h x (List.mem_cons_of_mem _ hx)
  have h0 := h c (List.mem_cons_self ..)
  rw [List.flatten_cons, List.length_append, this, h0, List.length_cons, Nat.succ_mul]; omega
theorem RSeq.whole {α : Type} {K : Nat} {R : List Value → α → Prop} {w : World} {S : Nat → Prop} {b n : Nat} {t : TypeId} (cs : List (List Value)) (ys : List α) (h : Whole w b t cs.flatten) (hl : ys.length = n) (hn : cs.length = n) (hK : ∀ x ∈ cs, x.length = K)
  (hR : ∀ (j : Nat) (x : List Value) (y : α), cs[j]? = some x → ys[j]? = some y → R x y) (hb : S b) : RSeq K R w S (some ⟨b, 0, none⟩) n ys :=
 ⟨cs, hl, hn, h.row hb (by rw [flat_lenG hK, hn]), hK, hR⟩
end
end Go.Proofs.YtedbhlgjcnnknaaGreatDoor
