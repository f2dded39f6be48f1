/- Parts of the proof: walks and plain laws, side by side. -/
import Derived.Test.YtnkmonmkhmcgaaaGreatDoorM11
import Derived.Test.YtnkmonmkhmcgaaaGreatDoorM17
import Derived.Test.YtnkmonmkhmcgaaaGreatDoorM18
import Derived.Test.YtnkmonmkhmcgaaaGreatDoorM19
import Derived.Test.YtnkmonmkhmcgaaaGreatDoorM10
import Derived.Test.YtnkmonmkhmcgaaaGreatDoorM20
import Derived.Test.YtnkmonmkhmcgaaaGreatDoorRows
import Derived.Test.YtnkmonmkhmcgaaaGreatDoorM5
import Derived.ProofKit
import Derived.LaidMore
import Derived.OpenShut
import Derived.Stop.Joined
import Derived.Stop.LaidErr
import Derived.Lib.LaidTab
import Derived.Test.YtnkmonmkhmcgaaaGreatDoorM1
import Derived.ChangeOld
import Derived.Lib.SmallJoins
import Derived.Deep.Matrix
import Derived.Deep.Grids
import Derived.Test.YtnkmonmkhmcgaaaGreatDoorM2
import Derived.Test.YtnkmonmkhmcgaaaGreatDoorM3
import Derived.Test.YtnkmonmkhmcgaaaGreatDoorM4
import Derived.Test.YtnkmonmkhmcgaaaGreatDoorM6
import Derived.Test.YtnkmonmkhmcgaaaGreatDoorM7
import Derived.Test.YtnkmonmkhmcgaaaGreatDoorM8
import Derived.Test.YtnkmonmkhmcgaaaGreatDoorM9
import Derived.Test.YtnkmonmkhmcgaaaGreatDoorM12
import Derived.Test.YtnkmonmkhmcgaaaGreatDoorM13
import Derived.Test.YtnkmonmkhmcgaaaGreatDoorM14
import Derived.Test.YtnkmonmkhmcgaaaGreatDoorM15
import Derived.Test.YtnkmonmkhmcgaaaGreatDoorM16
set_option linter.unusedVariables false
set_option linter.unusedSimpArgs false
set_option linter.unusedSectionVars false
/- NeedSays, walked: it returns true. -/
namespace Go.Proofs.YtnkmonmkhmcgaaaGreatDoor
open Go.RowKit Qm

/-- Two needs in their boxes, and what was read in its own. -/
structure Ns (w : World) (S : Nat → Prop) (x1 x2 : List Value) (y z : Nd) (b9 : Nat) (x9 : List Value) (p : Nd) (wx : World) : Prop where
  t : Tb w S x1 x2 y z wx
  n : Whole wx b9 26 x9
  r : RNd wx (fun i => w.heap.size ≤ i ∧ i < wx.heap.size) x9 p
theorem Ns.below {w wx wy : World} {S : Nat → Prop} {x1 x2 : List Value} {y z : Nd} {b9 : Nat} {x9 : List Value} {p : Nd} (h : Ns w S x1 x2 y z b9 x9 p wx) (hb : Below wx.heap.size wx wy) : Ns w S x1 x2 y z b9 x9 p wy :=
  ⟨h.t.below hb, h.n.below hb h.n.lt, (h.r.under hb fun i hi => hi.2).more fun i hi => ⟨hi.1, Nat.lt_of_lt_of_le hi.2 hb.size⟩⟩
theorem row_up {w wx wy : World} {A : Option Addr} {n : Nat} {vs : List Value} (h : Row wx (fun i => w.heap.size ≤ i ∧ i < wx.heap.size) A n vs) (hb : Below wx.heap.size wx wy) : Row wy (fun i => w.heap.size ≤ i ∧ i < wy.heap.size) A n vs :=
  (h.keep fun p hp => hb.cell hp.2).more fun i hi => ⟨hi.1, Nat.lt_of_lt_of_le hi.2 hb.size⟩

set_option maxRecDepth 100000 in
set_option maxHeartbeats 6400000 in
theorem needSays_any (y z : Nd) (S : Nat → Prop) (x1 x2 : List Value) (t : ByteArray) (w : World) (h1 : RNd w S x1 y) (h2 : RNd w S x2 z) (hS : ∀ k, S k → k < w.heap.size) (ht : t.size ≤ maxLen) (hL : LaidV w) (hM : MaxW w) (hX : MaxV w) :
    Calls Tryz.prog 4 #[.agg x1.toArray, .agg x2.toArray, .string t] w fun e w' => e = .returned (.bool true) ∧ Below w.heap.size w w' := by
  have HLV := Lib.hid hL; have HMV := Lib.hid hM; have HMX := Lib.hid hX; clear hL hM hX
  have T0 := Lib.hid (Tb.mk0 w S h1 h2 hS)
  have hp1 := fun wx h1 h2 => nprint_any y S x1 wx h1 h2
  have hfl := fun wx h1 h2 => nflags_any y S x1 wx h1 h2
  have hrc := fun wx h1 h2 => rcheckNeed_any y S x1 wx h1 h2
  have hck := fun wx h1 h2 => nCheck_any y S x1 wx h1 h2
  have hsm := fun wx h1 h2 h3 => same_any y z S x1 x2 wx h1 h2 h3
  have hrs := fun wx h1 h2 h3 => rsame_any y z S x1 x2 wx h1 h2 h3
  have hnd := fun wx h1 h2 => needed_any wx h1 h2
  have hrt := fun (h0 : ckNeed y = 0) wx h1 h2 => rntext_any y S x1 wx h1 h2 (ckNeed_zero h0).2.2 (ckNeed_zero h0).2.1
  have hrf := fun (h0 : ckNeed y = 0) wx h1 h2 => rflags_any y S x1 wx h1 h2 (by have := flagsN_le y; have := (ckNeed_zero h0).2.1; omega)
  have HP0 : Hid (ckNeed y = 0 → printNd y = rtx y) := Lib.hid fun h0 => by unfold printNd; rw [if_pos h0, ndText_rtx (ckNeed_zero h0).2.2]
  have HPn : Hid (ckNeed y ≠ 0 → printNd y = []) := Lib.hid fun h0 => by unfold printNd; rw [if_neg h0]
  have HF0 : Hid (ckNeed y = 0 → flP y = Lib.compact (sortW (flagsN y))) := Lib.hid fun h0 => by unfold flP; rw [if_pos h0]
  have HFn : Hid (ckNeed y ≠ 0 → flP y = []) := Lib.hid fun h0 => by unfold flP; rw [if_neg h0]
  unfold FlagsPost at hfl
  unfold RFlagsPost at hrf
  generalize printNd y = p1 at hp1 HP0 HPn
  generalize flP y = fs at hfl HF0 HFn
  generalize Lib.compact (sortW (flagsN y)) = fs0 at hrf HF0
  generalize rtx y = p0 at hrt HP0
  generalize ckNeed y = q1 at hp1 hfl hrc hck hrt hrf HP0 HPn HF0 HFn
  generalize sameNd y z = sm at hsm hrs
  have HRT := Lib.hid hrt; have HRF0 := Lib.hid hrf
  obtain ⟨k, a, f, no, ks⟩ := y
  obtain ⟨k2, a2, g2, no2, ks2⟩ := z
  obtain ⟨A, n, c, rfl, -⟩ := h1.open_
  obtain ⟨A2, n2, c2, rfl, -⟩ := h2.open_
  clear h1 h2 hS hrt hrf
  obtain ⟨nm, op, ver, slot, fl, on⟩ := a
  obtain ⟨nm2, op2, ver2, slot2, fl2, on2⟩ := a2
  obtain ⟨nf, hnf⟩ : ∃ nf, fs.length = nf := ⟨_, rfl⟩
  rw [hnf] at hfl
  have HNF := Lib.hid hnf; clear hnf
  unfold ndRow at T0 hp1 hfl hrc hck hsm hrs HRT HRF0 ⊢
  have Hp1 := Lib.hid hp1; have Hfl := Lib.hid hfl; have Hrc := Lib.hid hrc; have Hck := Lib.hid hck; have Hsm := Lib.hid hsm; have Hrs := Lib.hid hrs; have Hnd := Lib.hid hnd
  clear hp1 hfl hrc hck hsm hrs hnd
  have hpa := fun wx hL hM => nparse_any t wx ht hL hM
  obtain ⟨⟨x, q⟩, hq⟩ : ∃ q, parseNd t.data.toList = q := ⟨_, rfl⟩
  have HZ : Hid (20000 < t.size → sameNd x Nd.zero = true ∧ q = 2) := Lib.hid fun hb => by
    unfold parseNd at hq
    rw [if_pos (by rw [← Lib.size_eq]; exact hb)] at hq
    injection hq with e1 e2
    subst e1 e2
    exact ⟨(same_iff _ _).2 rfl, rfl⟩
  obtain ⟨xk, ⟨xnm, xop, xver, xslot, xfl, xon⟩, xf, xn, xks⟩ := x
  have hpa2 := fun wx hL hM => (hpa wx hL hM).mono fun e w' h => NParsePost.lit h hq
  unfold ndRow at hpa2
  have Hpa := Lib.hid hpa2
  have HPQ := Lib.hid hq
  clear hpa hpa2 hq
  have hqq : (q1 != q1) = false := by simp
  have hss : (sm != sm) = false := by simp
  unfold maxLen at ht
  go_enter Tryz.func4, Tryz.ntmps4
  go_wp2_with (first | (go_at_call 5; with_reducible refine (Hp1.out _ T0.out.r1 T0.out.ltx).mono ?_; rintro e w1 ⟨rfl, hb1⟩; refine Hid.out ?_))
  refine Lib.hid ?_
  have T1 := Lib.hid (T0.out.below hb1); clear hb1 T0 Hp1
  go_wp2_with (first | (go_at_call 8; refine (Hpa.out _ (HLV.out.below T1.out.bel) (HMV.out.below T1.out.bel)).mono ?_; rintro e w2 ⟨A3, n3, c3, rfl, hr3, -, hb2⟩; refine Hid.out ?_))
  refine Lib.hid ?_
  have T2 := Lib.hid (T1.out.below hb2); clear Hpa
  have hb3 := bel1 w2 (.cells #[.int .i64 xk, .string ⟨xnm.toArray⟩, .int .i64 xop, .int .i64 xver, .int .i64 xslot, .string ⟨xfl.toArray⟩, .bool xon, .string ⟨xf.toArray⟩, .bool xn, .slice A3 n3 c3] 26)
  have N2 : Hid (Ns w S _ _ _ _ w2.heap.size [.int .i64 xk, .string ⟨xnm.toArray⟩, .int .i64 xop, .int .i64 xver, .int .i64 xslot, .string ⟨xfl.toArray⟩, .bool xon, .string ⟨xf.toArray⟩, .bool xn, .slice A3 n3 c3] (.mk xk ⟨xnm, xop, xver, xslot, xfl, xon⟩ xf xn xks) (w2.alloc (.cells #[.int .i64 xk, .string ⟨xnm.toArray⟩, .int .i64 xop, .int .i64 xver, .int .i64 xslot, .string ⟨xfl.toArray⟩, .bool xon, .string ⟨xf.toArray⟩, .bool xn, .slice A3 n3 c3] 26))) :=
    Lib.hid ⟨T2.out.below hb3, Whole.new w2 _ _ [_, _, _, _, _, _, _, _, _, _] rfl, (hr3.under hb3 fun i hi => hi.2).more fun i hi => ⟨Nat.le_trans T1.out.bel.size hi.1, Nat.lt_of_lt_of_le hi.2 hb3.size⟩⟩
  clear hb2 hb3 hr3 T1
  have d0 := T2.out.a.cell 0; have d1 := T2.out.a.cell 1; have d2 := T2.out.a.cell 2; have d3 := T2.out.a.cell 3; have d4 := T2.out.a.cell 4; have d5 := T2.out.a.cell 5; have d6 := T2.out.a.cell 6; have d7 := T2.out.a.cell 7; have d8 := T2.out.a.cell 8; have d9 := T2.out.a.cell 9
  simp only [List.getElem?_cons_zero, List.getElem?_cons_succ] at d0 d1 d2 d3 d4 d5 d6 d7 d8 d9
  have dlt := T2.out.a.lt
  go_upto_region 3 with fail
  generalize w2.alloc _ = w3 at N2 ⊢
  obtain ⟨b9, hb9⟩ : ∃ b, b = w2.heap.size := ⟨_, rfl⟩
  rw [← hb9] at N2 ⊢
  clear hb9 T2 d0 d1 d2 d3 d4 d5 d6 d7 d8 d9 dlt
  have N2T := Lib.hid N2.out.t
  have d0 := N2T.out.a.cell 0; have d1 := N2T.out.a.cell 1; have d2 := N2T.out.a.cell 2; have d3 := N2T.out.a.cell 3; have d4 := N2T.out.a.cell 4; have d5 := N2T.out.a.cell 5; have d6 := N2T.out.a.cell 6; have d7 := N2T.out.a.cell 7; have d8 := N2T.out.a.cell 8; have d9 := N2T.out.a.cell 9
  simp only [List.getElem?_cons_zero, List.getElem?_cons_succ] at d0 d1 d2 d3 d4 d5 d6 d7 d8 d9
  have dlt := N2T.out.a.lt
  go_upto_region 4 with (first | (go_at_call 9; refine (Hfl.out _ N2.out.t.r1 N2.out.t.ltx).mono ?_; rintro e w4 ⟨AF, cF, rfl, hrF, hnF, hcF, hb4⟩; refine Hid.out ?_))
  refine Lib.hid ?_
  have N4 := Lib.hid (N2.out.below hb4)
  have HRF4 := Lib.hid (hrF.more (S' := fun i => w.heap.size ≤ i ∧ i < w4.heap.size) fun i hi => ⟨Nat.le_trans N2.out.t.bel.size hi.1, hi.2⟩)
  unfold maxLen at hcF
  clear hb4 hrF N2 N2T Hfl d0 d1 d2 d3 d4 d5 d6 d7 d8 d9 dlt
  have N4T := Lib.hid N4.out.t
  have d0 := N4T.out.a.cell 0; have d1 := N4T.out.a.cell 1; have d2 := N4T.out.a.cell 2; have d3 := N4T.out.a.cell 3; have d4 := N4T.out.a.cell 4; have d5 := N4T.out.a.cell 5; have d6 := N4T.out.a.cell 6; have d7 := N4T.out.a.cell 7; have d8 := N4T.out.a.cell 8; have d9 := N4T.out.a.cell 9
  simp only [List.getElem?_cons_zero, List.getElem?_cons_succ] at d0 d1 d2 d3 d4 d5 d6 d7 d8 d9
  have dlt := N4T.out.a.lt
  go_upto_region 5 with (first | (go_at_call 10; refine (Hrc.out _ N4.out.t.r1 N4.out.t.ltx).mono ?_; rintro e w5 ⟨rfl, hb5⟩; refine Hid.out ?_))
  refine Lib.hid ?_
  have N3 := Lib.hid (N4.out.below hb5)
  have HRF := Lib.hid (row_up HRF4.out hb5)
  clear hb5 N4 N4T HRF4 Hrc d0 d1 d2 d3 d4 d5 d6 d7 d8 d9 dlt
  have N3T := Lib.hid N3.out.t
  have d0 := N3T.out.a.cell 0; have d1 := N3T.out.a.cell 1; have d2 := N3T.out.a.cell 2; have d3 := N3T.out.a.cell 3; have d4 := N3T.out.a.cell 4; have d5 := N3T.out.a.cell 5; have d6 := N3T.out.a.cell 6; have d7 := N3T.out.a.cell 7; have d8 := N3T.out.a.cell 8; have d9 := N3T.out.a.cell 9
  simp only [List.getElem?_cons_zero, List.getElem?_cons_succ] at d0 d1 d2 d3 d4 d5 d6 d7 d8 d9
  have dlt := N3T.out.a.lt
  have f0 := N3T.out.b.cell 0; have f1 := N3T.out.b.cell 1; have f2 := N3T.out.b.cell 2; have f3 := N3T.out.b.cell 3; have f4 := N3T.out.b.cell 4; have f5 := N3T.out.b.cell 5; have f6 := N3T.out.b.cell 6; have f7 := N3T.out.b.cell 7; have f8 := N3T.out.b.cell 8; have f9 := N3T.out.b.cell 9
  simp only [List.getElem?_cons_zero, List.getElem?_cons_succ] at f0 f1 f2 f3 f4 f5 f6 f7 f8 f9
  have flt := N3T.out.b.lt
  clear N3T
  go_upto_region 5 with fail
  refine wp_region_held_drew (S := (fun w' => w'.cell? ⟨w.heap.size, 0, none⟩ = some (.int .i64 k) ∧ w'.cell? ⟨w.heap.size, 1, none⟩ = some (.string ⟨nm.toArray⟩) ∧ w'.cell? ⟨w.heap.size, 2, none⟩ = some (.int .i64 op) ∧ w'.cell? ⟨w.heap.size, 3, none⟩ = some (.int .i64 ver) ∧ w'.cell? ⟨w.heap.size, 4, none⟩ = some (.int .i64 slot) ∧ w'.cell? ⟨w.heap.size, 5, none⟩ = some (.string ⟨fl.toArray⟩) ∧ w'.cell? ⟨w.heap.size, 6, none⟩ = some (.bool on) ∧ w'.cell? ⟨w.heap.size, 7, none⟩ = some (.string ⟨f.toArray⟩) ∧ w'.cell? ⟨w.heap.size, 8, none⟩ = some (.bool no) ∧ w'.cell? ⟨w.heap.size, 9, none⟩ = some (.slice A n c) ∧ w'.cell? ⟨w.heap.size + 1, 0, none⟩ = some (.int .i64 k2) ∧ w'.cell? ⟨w.heap.size + 1, 1, none⟩ = some (.string ⟨nm2.toArray⟩) ∧ w'.cell? ⟨w.heap.size + 1, 2, none⟩ = some (.int .i64 op2) ∧ w'.cell? ⟨w.heap.size + 1, 3, none⟩ = some (.int .i64 ver2) ∧ w'.cell? ⟨w.heap.size + 1, 4, none⟩ = some (.int .i64 slot2) ∧ w'.cell? ⟨w.heap.size + 1, 5, none⟩ = some (.string ⟨fl2.toArray⟩) ∧ w'.cell? ⟨w.heap.size + 1, 6, none⟩ = some (.bool on2) ∧ w'.cell? ⟨w.heap.size + 1, 7, none⟩ = some (.string ⟨g2.toArray⟩) ∧ w'.cell? ⟨w.heap.size + 1, 8, none⟩ = some (.bool no2) ∧ w'.cell? ⟨w.heap.size + 1, 9, none⟩ = some (.slice A2 n2 c2))) (by kernel_rfl) (⟨d0, d1, d2, d3, d4, d5, d6, d7, d8, d9, f0, f1, f2, f3, f4, f5, f6, f7, f8, f9⟩) (fun hHeld => ?_)
  refine wpAnyH_ready (rs := [0]) (by kernel_rfl) (by simp) ?_
  refine AllReadyH.cons held_at0 (fun K hK => ?_) AllReadyH.nil
  (try simp only [List.setIfInBounds_toArray, List.set_cons_zero, List.set_cons_succ])
  go_simp
  go_at_call 6
  refine (Hnd.out _ (HLV.out.below (N3.out.below (below_drewN (Below.refl _ _) _)).t.bel) (HMV.out.below (N3.out.below (below_drewN (Below.refl _ _) _)).t.bel)).mono ?_
  rintro e wn ⟨rfl, hb⟩
  (first | replace N3 := Lib.hid (N3.out.below hb) | replace N3 := Lib.hid (N3.out.below ((below_drewN (Below.refl _ _) _).trans hb))); (first | replace HRF := Lib.hid (row_up HRF.out hb) | replace HRF := Lib.hid (row_up HRF.out ((below_drewN (Below.refl _ _) _).trans hb))); clear hb d0 d1 d2 d3 d4 d5 d6 d7 d8 d9 f0 f1 f2 f3 f4 f5 f6 f7 f8 f9; have d0 := N3.out.t.a.cell 0; have d1 := N3.out.t.a.cell 1; have d2 := N3.out.t.a.cell 2; have d3 := N3.out.t.a.cell 3; have d4 := N3.out.t.a.cell 4; have d5 := N3.out.t.a.cell 5; have d6 := N3.out.t.a.cell 6; have d7 := N3.out.t.a.cell 7; have d8 := N3.out.t.a.cell 8; have d9 := N3.out.t.a.cell 9; have f0 := N3.out.t.b.cell 0; have f1 := N3.out.t.b.cell 1; have f2 := N3.out.t.b.cell 2; have f3 := N3.out.t.b.cell 3; have f4 := N3.out.t.b.cell 4; have f5 := N3.out.t.b.cell 5; have f6 := N3.out.t.b.cell 6; have f7 := N3.out.t.b.cell 7; have f8 := N3.out.t.b.cell 8; have f9 := N3.out.t.b.cell 9; simp only [List.getElem?_cons_zero, List.getElem?_cons_succ] at d0 d1 d2 d3 d4 d5 d6 d7 d8 d9 f0 f1 f2 f3 f4 f5 f6 f7 f8 f9
  refine hK.out _ _ (⟨d0, d1, d2, d3, d4, d5, d6, d7, d8, d9, f0, f1, f2, f3, f4, f5, f6, f7, f8, f9⟩) (fun hHeld => ?_)
  clear hK K
  (try simp only [Act.put, List.setIfInBounds_toArray, List.set_cons_zero, List.set_cons_succ])
  first
  | (refine wpAnyH_take (i := 1) (v := ?_) held_at1 (by kernel_rfl) (by kernel_rfl) (by kernel_rfl) (fun _ _ _ h => h) (Or.inl ⟨by rfl, ?_⟩) (by assumption) ?_
     rotate_left
     · (intro w_ hSw; (try dsimp only at hSw); go_simp; (try with_reducible rfl))
     (try simp only [Act.put, List.setIfInBounds_toArray, List.set_cons_zero, List.set_cons_succ]))
  | (refine wpAnyH_take (i := 1) (v := undef) held_at1 (by kernel_rfl) (by kernel_rfl) (by kernel_rfl) (fun _ _ _ h => h) (Or.inr ⟨by rfl, rfl⟩) (by assumption) ?_
     (try simp only [Act.put, List.setIfInBounds_toArray, List.set_cons_zero, List.set_cons_succ]))
  first
  | (refine wpAnyH_take (i := 2) (v := ?_) held_at2 (by kernel_rfl) (by kernel_rfl) (by kernel_rfl) (fun _ _ _ h => h) (Or.inl ⟨by rfl, ?_⟩) (by assumption) ?_
     rotate_left
     · (intro w_ hSw; (try dsimp only at hSw); go_simp; (try with_reducible rfl))
     (try simp only [Act.put, List.setIfInBounds_toArray, List.set_cons_zero, List.set_cons_succ]))
  | (refine wpAnyH_take (i := 2) (v := undef) held_at2 (by kernel_rfl) (by kernel_rfl) (by kernel_rfl) (fun _ _ _ h => h) (Or.inr ⟨by rfl, rfl⟩) (by assumption) ?_
     (try simp only [Act.put, List.setIfInBounds_toArray, List.set_cons_zero, List.set_cons_succ]))
  first
  | (refine wpAnyH_take (i := 3) (v := ?_) held_at3 (by kernel_rfl) (by kernel_rfl) (by kernel_rfl) (fun _ _ _ h => h) (Or.inl ⟨by rfl, ?_⟩) (by assumption) ?_
     rotate_left
     · (intro w_ hSw; (try dsimp only at hSw); go_simp; (try with_reducible rfl))
     (try simp only [Act.put, List.setIfInBounds_toArray, List.set_cons_zero, List.set_cons_succ]))
  | (refine wpAnyH_take (i := 3) (v := undef) held_at3 (by kernel_rfl) (by kernel_rfl) (by kernel_rfl) (fun _ _ _ h => h) (Or.inr ⟨by rfl, rfl⟩) (by assumption) ?_
     (try simp only [Act.put, List.setIfInBounds_toArray, List.set_cons_zero, List.set_cons_succ]))
  first
  | (refine wpAnyH_take (i := 5) (v := ?_) held_at5 (by kernel_rfl) (by kernel_rfl) (by kernel_rfl) (fun _ _ _ h => h) (Or.inl ⟨by rfl, ?_⟩) (by assumption) ?_
     rotate_left
     · (intro w_ hSw; (try dsimp only at hSw); go_simp; (try with_reducible rfl))
     (try simp only [Act.put, List.setIfInBounds_toArray, List.set_cons_zero, List.set_cons_succ]))
  | (refine wpAnyH_take (i := 5) (v := undef) held_at5 (by kernel_rfl) (by kernel_rfl) (by kernel_rfl) (fun _ _ _ h => h) (Or.inr ⟨by rfl, rfl⟩) (by assumption) ?_
     (try simp only [Act.put, List.setIfInBounds_toArray, List.set_cons_zero, List.set_cons_succ]))
  refine wpAnyH_ready (rs := [4]) (by kernel_rfl) (by simp) ?_
  refine AllReadyH.cons held_at4 (fun K hK => ?_) AllReadyH.nil
  (try simp only [List.setIfInBounds_toArray, List.set_cons_zero, List.set_cons_succ])
  go_simp
  go_at_call 11
  refine (Hck.out _ N3.out.t.r1 N3.out.t.ltx).mono ?_
  rintro e wn ⟨rfl, hb⟩
  (first | replace N3 := Lib.hid (N3.out.below hb) | replace N3 := Lib.hid (N3.out.below ((below_drewN (Below.refl _ _) _).trans hb))); (first | replace HRF := Lib.hid (row_up HRF.out hb) | replace HRF := Lib.hid (row_up HRF.out ((below_drewN (Below.refl _ _) _).trans hb))); clear hb d0 d1 d2 d3 d4 d5 d6 d7 d8 d9 f0 f1 f2 f3 f4 f5 f6 f7 f8 f9; have d0 := N3.out.t.a.cell 0; have d1 := N3.out.t.a.cell 1; have d2 := N3.out.t.a.cell 2; have d3 := N3.out.t.a.cell 3; have d4 := N3.out.t.a.cell 4; have d5 := N3.out.t.a.cell 5; have d6 := N3.out.t.a.cell 6; have d7 := N3.out.t.a.cell 7; have d8 := N3.out.t.a.cell 8; have d9 := N3.out.t.a.cell 9; have f0 := N3.out.t.b.cell 0; have f1 := N3.out.t.b.cell 1; have f2 := N3.out.t.b.cell 2; have f3 := N3.out.t.b.cell 3; have f4 := N3.out.t.b.cell 4; have f5 := N3.out.t.b.cell 5; have f6 := N3.out.t.b.cell 6; have f7 := N3.out.t.b.cell 7; have f8 := N3.out.t.b.cell 8; have f9 := N3.out.t.b.cell 9; simp only [List.getElem?_cons_zero, List.getElem?_cons_succ] at d0 d1 d2 d3 d4 d5 d6 d7 d8 d9 f0 f1 f2 f3 f4 f5 f6 f7 f8 f9
  refine hK.out _ _ (⟨d0, d1, d2, d3, d4, d5, d6, d7, d8, d9, f0, f1, f2, f3, f4, f5, f6, f7, f8, f9⟩) (fun hHeld => ?_)
  clear hK K
  (try simp only [Act.put, List.setIfInBounds_toArray, List.set_cons_zero, List.set_cons_succ])
  first
  | (refine wpAnyH_take (i := 6) (v := ?_) held_at6 (by kernel_rfl) (by kernel_rfl) (by kernel_rfl) (fun _ _ _ h => h) (Or.inl ⟨by rfl, ?_⟩) (by assumption) ?_
     rotate_left
     · (intro w_ hSw; (try dsimp only at hSw); go_simp; (try with_reducible rfl))
     (try simp only [Act.put, List.setIfInBounds_toArray, List.set_cons_zero, List.set_cons_succ]))
  | (refine wpAnyH_take (i := 6) (v := undef) held_at6 (by kernel_rfl) (by kernel_rfl) (by kernel_rfl) (fun _ _ _ h => h) (Or.inr ⟨by rfl, rfl⟩) (by assumption) ?_
     (try simp only [Act.put, List.setIfInBounds_toArray, List.set_cons_zero, List.set_cons_succ]))
  first
  | (refine wpAnyH_take (i := 7) (v := ?_) held_at7 (by kernel_rfl) (by kernel_rfl) (by kernel_rfl) (fun _ _ _ h => h) (Or.inl ⟨by rfl, ?_⟩) (by assumption) ?_
     rotate_left
     · (intro w_ hSw; (try dsimp only at hSw); go_simp; (try with_reducible rfl))
     (try simp only [Act.put, List.setIfInBounds_toArray, List.set_cons_zero, List.set_cons_succ]))
  | (refine wpAnyH_take (i := 7) (v := undef) held_at7 (by kernel_rfl) (by kernel_rfl) (by kernel_rfl) (fun _ _ _ h => h) (Or.inr ⟨by rfl, rfl⟩) (by assumption) ?_
     (try simp only [Act.put, List.setIfInBounds_toArray, List.set_cons_zero, List.set_cons_succ]))
  first
  | (refine wpAnyH_take (i := 8) (v := ?_) held_at8 (by kernel_rfl) (by kernel_rfl) (by kernel_rfl) (fun _ _ _ h => h) (Or.inl ⟨by rfl, ?_⟩) (by assumption) ?_
     rotate_left
     · (intro w_ hSw; (try dsimp only at hSw); go_simp; (try with_reducible rfl))
     (try simp only [Act.put, List.setIfInBounds_toArray, List.set_cons_zero, List.set_cons_succ]))
  | (refine wpAnyH_take (i := 8) (v := undef) held_at8 (by kernel_rfl) (by kernel_rfl) (by kernel_rfl) (fun _ _ _ h => h) (Or.inr ⟨by rfl, rfl⟩) (by assumption) ?_
     (try simp only [Act.put, List.setIfInBounds_toArray, List.set_cons_zero, List.set_cons_succ]))
  first
  | (refine wpAnyH_take (i := 9) (v := ?_) held_at9 (by kernel_rfl) (by kernel_rfl) (by kernel_rfl) (fun _ _ _ h => h) (Or.inl ⟨by rfl, ?_⟩) (by assumption) ?_
     rotate_left
     · (intro w_ hSw; (try dsimp only at hSw); go_simp; (try with_reducible rfl))
     (try simp only [Act.put, List.setIfInBounds_toArray, List.set_cons_zero, List.set_cons_succ]))
  | (refine wpAnyH_take (i := 9) (v := undef) held_at9 (by kernel_rfl) (by kernel_rfl) (by kernel_rfl) (fun _ _ _ h => h) (Or.inr ⟨by rfl, rfl⟩) (by assumption) ?_
     (try simp only [Act.put, List.setIfInBounds_toArray, List.set_cons_zero, List.set_cons_succ]))
  first
  | (refine wpAnyH_take (i := 10) (v := ?_) held_at10 (by kernel_rfl) (by kernel_rfl) (by kernel_rfl) (fun _ _ _ h => h) (Or.inl ⟨by rfl, ?_⟩) (by assumption) ?_
     rotate_left
     · (intro w_ hSw; (try dsimp only at hSw); go_simp; (try with_reducible rfl))
     (try simp only [Act.put, List.setIfInBounds_toArray, List.set_cons_zero, List.set_cons_succ]))
  | (refine wpAnyH_take (i := 10) (v := undef) held_at10 (by kernel_rfl) (by kernel_rfl) (by kernel_rfl) (fun _ _ _ h => h) (Or.inr ⟨by rfl, rfl⟩) (by assumption) ?_
     (try simp only [Act.put, List.setIfInBounds_toArray, List.set_cons_zero, List.set_cons_succ]))
  first
  | (refine wpAnyH_take (i := 12) (v := ?_) held_at12 (by kernel_rfl) (by kernel_rfl) (by kernel_rfl) (fun _ _ _ h => h) (Or.inl ⟨by rfl, ?_⟩) (by assumption) ?_
     rotate_left
     · (intro w_ hSw; (try dsimp only at hSw); go_simp; (try with_reducible rfl))
     (try simp only [Act.put, List.setIfInBounds_toArray, List.set_cons_zero, List.set_cons_succ]))
  | (refine wpAnyH_take (i := 12) (v := undef) held_at12 (by kernel_rfl) (by kernel_rfl) (by kernel_rfl) (fun _ _ _ h => h) (Or.inr ⟨by rfl, rfl⟩) (by assumption) ?_
     (try simp only [Act.put, List.setIfInBounds_toArray, List.set_cons_zero, List.set_cons_succ]))
  first
  | (refine wpAnyH_take (i := 13) (v := ?_) held_at13 (by kernel_rfl) (by kernel_rfl) (by kernel_rfl) (fun _ _ _ h => h) (Or.inl ⟨by rfl, ?_⟩) (by assumption) ?_
     rotate_left
     · (intro w_ hSw; (try dsimp only at hSw); go_simp; (try with_reducible rfl))
     (try simp only [Act.put, List.setIfInBounds_toArray, List.set_cons_zero, List.set_cons_succ]))
  | (refine wpAnyH_take (i := 13) (v := undef) held_at13 (by kernel_rfl) (by kernel_rfl) (by kernel_rfl) (fun _ _ _ h => h) (Or.inr ⟨by rfl, rfl⟩) (by assumption) ?_
     (try simp only [Act.put, List.setIfInBounds_toArray, List.set_cons_zero, List.set_cons_succ]))
  refine wpAnyH_ready (rs := [11]) (by kernel_rfl) (by simp) ?_
  refine AllReadyH.cons held_at11 (fun K hK => ?_) AllReadyH.nil
  (try simp only [List.setIfInBounds_toArray, List.set_cons_zero, List.set_cons_succ])
  go_simp
  go_at_call 7
  refine (Hsm.out _ N3.out.t.r1 N3.out.t.r2 N3.out.t.ltx).mono ?_
  rintro e wn ⟨rfl, hb⟩
  (first | replace N3 := Lib.hid (N3.out.below hb) | replace N3 := Lib.hid (N3.out.below ((below_drewN (Below.refl _ _) _).trans hb))); (first | replace HRF := Lib.hid (row_up HRF.out hb) | replace HRF := Lib.hid (row_up HRF.out ((below_drewN (Below.refl _ _) _).trans hb))); clear hb d0 d1 d2 d3 d4 d5 d6 d7 d8 d9 f0 f1 f2 f3 f4 f5 f6 f7 f8 f9; have d0 := N3.out.t.a.cell 0; have d1 := N3.out.t.a.cell 1; have d2 := N3.out.t.a.cell 2; have d3 := N3.out.t.a.cell 3; have d4 := N3.out.t.a.cell 4; have d5 := N3.out.t.a.cell 5; have d6 := N3.out.t.a.cell 6; have d7 := N3.out.t.a.cell 7; have d8 := N3.out.t.a.cell 8; have d9 := N3.out.t.a.cell 9; have f0 := N3.out.t.b.cell 0; have f1 := N3.out.t.b.cell 1; have f2 := N3.out.t.b.cell 2; have f3 := N3.out.t.b.cell 3; have f4 := N3.out.t.b.cell 4; have f5 := N3.out.t.b.cell 5; have f6 := N3.out.t.b.cell 6; have f7 := N3.out.t.b.cell 7; have f8 := N3.out.t.b.cell 8; have f9 := N3.out.t.b.cell 9; simp only [List.getElem?_cons_zero, List.getElem?_cons_succ] at d0 d1 d2 d3 d4 d5 d6 d7 d8 d9 f0 f1 f2 f3 f4 f5 f6 f7 f8 f9
  refine hK.out _ _ (⟨d0, d1, d2, d3, d4, d5, d6, d7, d8, d9, f0, f1, f2, f3, f4, f5, f6, f7, f8, f9⟩) (fun hHeld => ?_)
  clear hK K
  (try simp only [Act.put, List.setIfInBounds_toArray, List.set_cons_zero, List.set_cons_succ])
  refine wpAnyH_ready (rs := [14]) (by kernel_rfl) (by simp) ?_
  refine AllReadyH.cons held_at14 (fun K hK => ?_) AllReadyH.nil
  (try simp only [List.setIfInBounds_toArray, List.set_cons_zero, List.set_cons_succ])
  go_simp
  go_at_call 12
  refine (Hrs.out _ N3.out.t.r1 N3.out.t.r2 N3.out.t.ltx).mono ?_
  rintro e wn ⟨rfl, hb⟩
  (first | replace N3 := Lib.hid (N3.out.below hb) | replace N3 := Lib.hid (N3.out.below ((below_drewN (Below.refl _ _) _).trans hb))); (first | replace HRF := Lib.hid (row_up HRF.out hb) | replace HRF := Lib.hid (row_up HRF.out ((below_drewN (Below.refl _ _) _).trans hb))); clear hb d0 d1 d2 d3 d4 d5 d6 d7 d8 d9 f0 f1 f2 f3 f4 f5 f6 f7 f8 f9; have d0 := N3.out.t.a.cell 0; have d1 := N3.out.t.a.cell 1; have d2 := N3.out.t.a.cell 2; have d3 := N3.out.t.a.cell 3; have d4 := N3.out.t.a.cell 4; have d5 := N3.out.t.a.cell 5; have d6 := N3.out.t.a.cell 6; have d7 := N3.out.t.a.cell 7; have d8 := N3.out.t.a.cell 8; have d9 := N3.out.t.a.cell 9; have f0 := N3.out.t.b.cell 0; have f1 := N3.out.t.b.cell 1; have f2 := N3.out.t.b.cell 2; have f3 := N3.out.t.b.cell 3; have f4 := N3.out.t.b.cell 4; have f5 := N3.out.t.b.cell 5; have f6 := N3.out.t.b.cell 6; have f7 := N3.out.t.b.cell 7; have f8 := N3.out.t.b.cell 8; have f9 := N3.out.t.b.cell 9; simp only [List.getElem?_cons_zero, List.getElem?_cons_succ] at d0 d1 d2 d3 d4 d5 d6 d7 d8 d9 f0 f1 f2 f3 f4 f5 f6 f7 f8 f9
  refine hK.out _ _ (⟨d0, d1, d2, d3, d4, d5, d6, d7, d8, d9, f0, f1, f2, f3, f4, f5, f6, f7, f8, f9⟩) (fun hHeld => ?_)
  clear hK K
  (try simp only [Act.put, List.setIfInBounds_toArray, List.set_cons_zero, List.set_cons_succ])
  first
  | (refine wpAnyH_take (i := 15) (v := ?_) held_at15 (by kernel_rfl) (by kernel_rfl) (by kernel_rfl) (fun _ _ _ h => h) (Or.inl ⟨by rfl, ?_⟩) (by assumption) ?_
     rotate_left
     · (intro w_ hSw; (try dsimp only at hSw); go_simp; (try with_reducible rfl))
     (try simp only [Act.put, List.setIfInBounds_toArray, List.set_cons_zero, List.set_cons_succ]))
  | (refine wpAnyH_take (i := 15) (v := undef) held_at15 (by kernel_rfl) (by kernel_rfl) (by kernel_rfl) (fun _ _ _ h => h) (Or.inr ⟨by rfl, rfl⟩) (by assumption) ?_
     (try simp only [Act.put, List.setIfInBounds_toArray, List.set_cons_zero, List.set_cons_succ]))
  first
  | (refine wpAnyH_take (i := 16) (v := ?_) held_at16 (by kernel_rfl) (by kernel_rfl) (by kernel_rfl) (fun _ _ _ h => h) (Or.inl ⟨by rfl, ?_⟩) (by assumption) ?_
     rotate_left
     · (intro w_ hSw; (try dsimp only at hSw); go_simp; (try with_reducible rfl))
     (try simp only [Act.put, List.setIfInBounds_toArray, List.set_cons_zero, List.set_cons_succ]))
  | (refine wpAnyH_take (i := 16) (v := undef) held_at16 (by kernel_rfl) (by kernel_rfl) (by kernel_rfl) (fun _ _ _ h => h) (Or.inr ⟨by rfl, rfl⟩) (by assumption) ?_
     (try simp only [Act.put, List.setIfInBounds_toArray, List.set_cons_zero, List.set_cons_succ]))
  first
  | (refine wpAnyH_take (i := 17) (v := ?_) held_at17 (by kernel_rfl) (by kernel_rfl) (by kernel_rfl) (fun _ _ _ h => h) (Or.inl ⟨by rfl, ?_⟩) (by assumption) ?_
     rotate_left
     · (intro w_ hSw; (try dsimp only at hSw); go_simp; (try with_reducible rfl))
     (try simp only [Act.put, List.setIfInBounds_toArray, List.set_cons_zero, List.set_cons_succ]))
  | (refine wpAnyH_take (i := 17) (v := undef) held_at17 (by kernel_rfl) (by kernel_rfl) (by kernel_rfl) (fun _ _ _ h => h) (Or.inr ⟨by rfl, rfl⟩) (by assumption) ?_
     (try simp only [Act.put, List.setIfInBounds_toArray, List.set_cons_zero, List.set_cons_succ]))
  first
  | (refine wpAnyH_take (i := 18) (v := ?_) held_at18 (by kernel_rfl) (by kernel_rfl) (by kernel_rfl) (fun _ _ _ h => h) (Or.inl ⟨by rfl, ?_⟩) (by assumption) ?_
     rotate_left
     · (intro w_ hSw; (try dsimp only at hSw); go_simp; (try with_reducible rfl))
     (try simp only [Act.put, List.setIfInBounds_toArray, List.set_cons_zero, List.set_cons_succ]))
  | (refine wpAnyH_take (i := 18) (v := undef) held_at18 (by kernel_rfl) (by kernel_rfl) (by kernel_rfl) (fun _ _ _ h => h) (Or.inr ⟨by rfl, rfl⟩) (by assumption) ?_
     (try simp only [Act.put, List.setIfInBounds_toArray, List.set_cons_zero, List.set_cons_succ]))
  first
  | (refine wpAnyH_take (i := 19) (v := ?_) held_at19 (by kernel_rfl) (by kernel_rfl) (by kernel_rfl) (fun _ _ _ h => h) (Or.inl ⟨by rfl, ?_⟩) (by assumption) ?_
     rotate_left
     · (intro w_ hSw; (try dsimp only at hSw); go_simp; (try with_reducible rfl))
     (try simp only [Act.put, List.setIfInBounds_toArray, List.set_cons_zero, List.set_cons_succ]))
  | (refine wpAnyH_take (i := 19) (v := undef) held_at19 (by kernel_rfl) (by kernel_rfl) (by kernel_rfl) (fun _ _ _ h => h) (Or.inr ⟨by rfl, rfl⟩) (by assumption) ?_
     (try simp only [Act.put, List.setIfInBounds_toArray, List.set_cons_zero, List.set_cons_succ]))
  first
  | (refine wpAnyH_take (i := 20) (v := ?_) held_at20 (by kernel_rfl) (by kernel_rfl) (by kernel_rfl) (fun _ _ _ h => h) (Or.inl ⟨by rfl, ?_⟩) (by assumption) ?_
     rotate_left
     · (intro w_ hSw; (try dsimp only at hSw); go_simp; (try with_reducible rfl))
     (try simp only [Act.put, List.setIfInBounds_toArray, List.set_cons_zero, List.set_cons_succ]))
  | (refine wpAnyH_take (i := 20) (v := undef) held_at20 (by kernel_rfl) (by kernel_rfl) (by kernel_rfl) (fun _ _ _ h => h) (Or.inr ⟨by rfl, rfl⟩) (by assumption) ?_
     (try simp only [Act.put, List.setIfInBounds_toArray, List.set_cons_zero, List.set_cons_succ]))
  first
  | (refine wpAnyH_take (i := 21) (v := ?_) held_at21 (by kernel_rfl) (by kernel_rfl) (by kernel_rfl) (fun _ _ _ h => h) (Or.inl ⟨by rfl, ?_⟩) (by assumption) ?_
     rotate_left
     · (intro w_ hSw; (try dsimp only at hSw); go_simp; (try with_reducible rfl))
     (try simp only [Act.put, List.setIfInBounds_toArray, List.set_cons_zero, List.set_cons_succ]))
  | (refine wpAnyH_take (i := 21) (v := undef) held_at21 (by kernel_rfl) (by kernel_rfl) (by kernel_rfl) (fun _ _ _ h => h) (Or.inr ⟨by rfl, rfl⟩) (by assumption) ?_
     (try simp only [Act.put, List.setIfInBounds_toArray, List.set_cons_zero, List.set_cons_succ]))
  first
  | (refine wpAnyH_take (i := 22) (v := ?_) held_at22 (by kernel_rfl) (by kernel_rfl) (by kernel_rfl) (fun _ _ _ h => h) (Or.inl ⟨by rfl, ?_⟩) (by assumption) ?_
     rotate_left
     · (intro w_ hSw; (try dsimp only at hSw); go_simp; (try with_reducible rfl))
     (try simp only [Act.put, List.setIfInBounds_toArray, List.set_cons_zero, List.set_cons_succ]))
  | (refine wpAnyH_take (i := 22) (v := undef) held_at22 (by kernel_rfl) (by kernel_rfl) (by kernel_rfl) (fun _ _ _ h => h) (Or.inr ⟨by rfl, rfl⟩) (by assumption) ?_
     (try simp only [Act.put, List.setIfInBounds_toArray, List.set_cons_zero, List.set_cons_succ]))
  first
  | (refine wpAnyH_take (i := 23) (v := ?_) held_at23 (by kernel_rfl) (by kernel_rfl) (by kernel_rfl) (fun _ _ _ h => h) (Or.inl ⟨by rfl, ?_⟩) (by assumption) ?_
     rotate_left
     · (intro w_ hSw; (try dsimp only at hSw); go_simp; (try with_reducible rfl))
     (try simp only [Act.put, List.setIfInBounds_toArray, List.set_cons_zero, List.set_cons_succ]))
  | (refine wpAnyH_take (i := 23) (v := undef) held_at23 (by kernel_rfl) (by kernel_rfl) (by kernel_rfl) (fun _ _ _ h => h) (Or.inr ⟨by rfl, rfl⟩) (by assumption) ?_
     (try simp only [Act.put, List.setIfInBounds_toArray, List.set_cons_zero, List.set_cons_succ]))
  first
  | (refine wpAnyH_take (i := 24) (v := ?_) held_at24 (by kernel_rfl) (by kernel_rfl) (by kernel_rfl) (fun _ _ _ h => h) (Or.inl ⟨by rfl, ?_⟩) (by assumption) ?_
     rotate_left
     · (intro w_ hSw; (try dsimp only at hSw); go_simp; (try with_reducible rfl))
     (try simp only [Act.put, List.setIfInBounds_toArray, List.set_cons_zero, List.set_cons_succ]))
  | (refine wpAnyH_take (i := 24) (v := undef) held_at24 (by kernel_rfl) (by kernel_rfl) (by kernel_rfl) (fun _ _ _ h => h) (Or.inr ⟨by rfl, rfl⟩) (by assumption) ?_
     (try simp only [Act.put, List.setIfInBounds_toArray, List.set_cons_zero, List.set_cons_succ]))
  first
  | (refine wpAnyH_take (i := 25) (v := ?_) held_at25 (by kernel_rfl) (by kernel_rfl) (by kernel_rfl) (fun _ _ _ h => h) (Or.inl ⟨by rfl, ?_⟩) (by assumption) ?_
     rotate_left
     · (intro w_ hSw; (try dsimp only at hSw); go_simp; (try with_reducible rfl))
     (try simp only [Act.put, List.setIfInBounds_toArray, List.set_cons_zero, List.set_cons_succ]))
  | (refine wpAnyH_take (i := 25) (v := undef) held_at25 (by kernel_rfl) (by kernel_rfl) (by kernel_rfl) (fun _ _ _ h => h) (Or.inr ⟨by rfl, rfl⟩) (by assumption) ?_
     (try simp only [Act.put, List.setIfInBounds_toArray, List.set_cons_zero, List.set_cons_succ]))
  first
  | (refine wpAnyH_take (i := 26) (v := ?_) held_at26 (by kernel_rfl) (by kernel_rfl) (by kernel_rfl) (fun _ _ _ h => h) (Or.inl ⟨by rfl, ?_⟩) (by assumption) ?_
     rotate_left
     · (intro w_ hSw; (try dsimp only at hSw); go_simp; (try with_reducible rfl))
     (try simp only [Act.put, List.setIfInBounds_toArray, List.set_cons_zero, List.set_cons_succ]))
  | (refine wpAnyH_take (i := 26) (v := undef) held_at26 (by kernel_rfl) (by kernel_rfl) (by kernel_rfl) (fun _ _ _ h => h) (Or.inr ⟨by rfl, rfl⟩) (by assumption) ?_
     (try simp only [Act.put, List.setIfInBounds_toArray, List.set_cons_zero, List.set_cons_succ]))
  refine wpAnyH_done (by kernel_rfl) ?_ _
  skip
  clear Hck Hsm Hrs Hnd d0 d1 d2 d3 d4 d5 d6 d7 d8 d9 f0 f1 f2 f3 f4 f5 f6 f7 f8 f9 hHeld dlt flt hqq hss
  by_cases h0 : q1 = 0
  · subst h0
    have hp := HP0.out rfl
    have hf := HF0.out rfl
    subst hp hf
    have hrt := fun wx h1 h2 => HRT.out rfl wx h1 h2
    have hrf := fun wx h1 h2 => HRF0.out rfl wx h1 h2
    rw [HNF.out] at hrf
    have Hrt := Lib.hid hrt; have Hrf := Lib.hid hrf
    clear hrt hrf HP0 HPn HF0 HFn HRT HRF0
    have N3T := Lib.hid N3.out.t
    have d0 := N3T.out.a.cell 0; have d1 := N3T.out.a.cell 1; have d2 := N3T.out.a.cell 2; have d3 := N3T.out.a.cell 3; have d4 := N3T.out.a.cell 4; have d5 := N3T.out.a.cell 5; have d6 := N3T.out.a.cell 6; have d7 := N3T.out.a.cell 7; have d8 := N3T.out.a.cell 8; have d9 := N3T.out.a.cell 9
    simp only [List.getElem?_cons_zero, List.getElem?_cons_succ] at d0 d1 d2 d3 d4 d5 d6 d7 d8 d9
    have dlt := N3T.out.a.lt
    have hpp : (p1 != p1) = false := by simp
    have hpp2 : (p1 == p1) = true := by simp
    go_wp2_with (first | (go_at_call 13; refine (Hrt.out _ N3.out.t.r1 N3.out.t.ltx).mono ?_; rintro e w6 ⟨rfl, hb6⟩; refine Hid.out ?_))
    refine Lib.hid ?_
    have N6 := Lib.hid (N3.out.below hb6)
    have HR6 := Lib.hid (row_up HRF.out hb6)
    clear hb6 N3 N3T HRF Hrt d0 d1 d2 d3 d4 d5 d6 d7 d8 d9 dlt
    have N6T := Lib.hid N6.out.t
    have d0 := N6T.out.a.cell 0; have d1 := N6T.out.a.cell 1; have d2 := N6T.out.a.cell 2; have d3 := N6T.out.a.cell 3; have d4 := N6T.out.a.cell 4; have d5 := N6T.out.a.cell 5; have d6 := N6T.out.a.cell 6; have d7 := N6T.out.a.cell 7; have d8 := N6T.out.a.cell 8; have d9 := N6T.out.a.cell 9
    simp only [List.getElem?_cons_zero, List.getElem?_cons_succ] at d0 d1 d2 d3 d4 d5 d6 d7 d8 d9
    have dlt := N6T.out.a.lt
    go_wp2_with (first | (go_at_call 15; refine (Hrf.out _ N6.out.t.r1 N6.out.t.ltx).mono ?_; rintro e w7 ⟨AG, cG, rfl, hrG, hnG, hcG, hb7⟩; refine Hid.out ?_))
    refine Lib.hid ?_
    have N7 := Lib.hid (N6.out.below hb7)
    have HR7 := Lib.hid (row_up HR6.out hb7)
    have HRG := Lib.hid hrG
    have heq := equalS_any AF AG nf cF nf cG fs fs w7 _ _ HR7.out HRG.out (by unfold maxLen; omega) (by unfold maxLen at hcG ⊢; omega)
    unfold EqS at heq
    rw [decide_eq_true rfl] at heq
    have Heq := Lib.hid heq
    clear heq hb7 hrG hcG N6 N6T HR6 Hrf d0 d1 d2 d3 d4 d5 d6 d7 d8 d9 dlt
    go_upto_region 9 with (first | (go_at_call 14; refine Heq.out.mono ?_; rintro e w8 ⟨rfl, q8, rfl⟩; refine Hid.out ?_))
    refine Lib.hid ?_
    replace N7 := Lib.hid (N7.out.below (below_drewN (Below.refl _ _) q8))
    clear Heq HRG HR7 hpp hpp2
    by_cases hbig : 20000 < t.size
    · have hbig' : (20000 : Int) < (t.size : Int) := by omega
      obtain ⟨hz1, rfl⟩ := HZ.out hbig
      have Hz1 := Lib.hid hz1; clear hz1 hbig
      have e0 := N7.out.n.cell 0; have e1 := N7.out.n.cell 1; have e2 := N7.out.n.cell 2; have e3 := N7.out.n.cell 3; have e4 := N7.out.n.cell 4; have e5 := N7.out.n.cell 5; have e6 := N7.out.n.cell 6; have e7 := N7.out.n.cell 7; have e8 := N7.out.n.cell 8; have e9 := N7.out.n.cell 9
      simp only [List.getElem?_cons_zero, List.getElem?_cons_succ] at e0 e1 e2 e3 e4 e5 e6 e7 e8 e9
      have elt := N7.out.n.lt
      have Hzs := Lib.hid (fun cx wx h1 h2 h3 => rsame_any (.mk xk ⟨xnm, xop, xver, xslot, xfl, xon⟩ xf xn xks) Nd.zero (fun i => w.heap.size ≤ i ∧ i < wx.heap.size) cx (ndRow 0 At.zero [] false none 0 0) wx h1 h2 h3)
      unfold ndRow At.zero at Hzs
      rw [Hz1.out] at Hzs
      go_wp2_with (first | (go_at_call 12; refine (Hzs.out _ _ N7.out.r (RNd.zero _ _) (fun i hi => hi.2)).mono ?_; rintro e w8 ⟨rfl, hb8⟩; refine Hid.out ?_))
      refine Lib.hid ?_
      have N8 := Lib.hid (N7.out.below hb8); clear hb8
      go_wp2
      go_ret
      exact ⟨rfl, N8.out.t.bel⟩
    · have hbig' : ¬ (20000 : Int) < (t.size : Int) := by omega
      have hrd := fun wx hL hM hM2 => (rreadNeed_any t wx (by omega) hL hM hM2).mono fun e w' h => NParsePost.lit h HPQ.out
      unfold ndRow at hrd
      have Hrd := Lib.hid hrd; clear hrd hbig
      go_wp2_with (first | (go_at_call 16; refine (Hrd.out _ (HLV.out.below N7.out.t.bel) (HMV.out.below N7.out.t.bel) (HMX.out.below N7.out.t.bel)).mono ?_; rintro e w8 ⟨A8, n8, c8, rfl, hr8, -, hb8⟩; refine Hid.out ?_))
      refine Lib.hid ?_
      have N8 := Lib.hid (N7.out.below hb8)
      have HR8 := Lib.hid (hr8.more (S' := fun i => w.heap.size ≤ i ∧ i < w8.heap.size) fun i hi => ⟨Nat.le_trans N7.out.t.bel.size hi.1, hi.2⟩)
      clear hb8 hr8
      have HB8 := Lib.hid (bel1 w8 (.cells #[.int .i64 xk, .string ⟨xnm.toArray⟩, .int .i64 xop, .int .i64 xver, .int .i64 xslot, .string ⟨xfl.toArray⟩, .bool xon, .string ⟨xf.toArray⟩, .bool xn, .slice A8 n8 c8] 26))
      have N9 := Lib.hid (N8.out.below HB8.out)
      have HR9 := Lib.hid ((HR8.out.under HB8.out fun i hi => hi.2).more (S' := fun i => w.heap.size ≤ i ∧ i < (w8.alloc (.cells #[.int .i64 xk, .string ⟨xnm.toArray⟩, .int .i64 xop, .int .i64 xver, .int .i64 xslot, .string ⟨xfl.toArray⟩, .bool xon, .string ⟨xf.toArray⟩, .bool xn, .slice A8 n8 c8] 26)).heap.size) fun i hi => ⟨hi.1, Nat.lt_of_lt_of_le hi.2 HB8.out.size⟩)
      have Hzs := Lib.hid (fun cx wx h1 h2 h3 => rsame_any (.mk xk ⟨xnm, xop, xver, xslot, xfl, xon⟩ xf xn xks) (.mk xk ⟨xnm, xop, xver, xslot, xfl, xon⟩ xf xn xks) (fun i => w.heap.size ≤ i ∧ i < wx.heap.size) cx (ndRow xk ⟨xnm, xop, xver, xslot, xfl, xon⟩ xf xn A8 n8 c8) wx h1 h2 h3)
      unfold ndRow at Hzs
      rw [(same_iff _ _).2 rfl] at Hzs
      have e0 := N8.out.n.cell 0; have e1 := N8.out.n.cell 1; have e2 := N8.out.n.cell 2; have e3 := N8.out.n.cell 3; have e4 := N8.out.n.cell 4; have e5 := N8.out.n.cell 5; have e6 := N8.out.n.cell 6; have e7 := N8.out.n.cell 7; have e8 := N8.out.n.cell 8; have e9 := N8.out.n.cell 9
      simp only [List.getElem?_cons_zero, List.getElem?_cons_succ] at e0 e1 e2 e3 e4 e5 e6 e7 e8 e9
      have elt := N8.out.n.lt
      go_wp2_with (first | (go_at_call 12; refine (Hzs.out _ _ N9.out.r HR9.out (fun i hi => hi.2)).mono ?_; rintro e w10 ⟨rfl, hb10⟩; refine Hid.out ?_))
      refine Lib.hid ?_
      have N10 := Lib.hid (N9.out.below hb10); clear hb10
      go_wp2
      go_ret
      exact ⟨rfl, N10.out.t.bel⟩
  · have h1 : (q1 == 0) = false := by simpa using h0
    have h2 : (q1 != 0) = true := by simpa using h0
    have hp := HPn.out h0
    have hf := HFn.out h0
    have hnf : nf = 0 := by rw [← HNF.out, hf]; rfl
    subst hp hf hnf
    clear h0 HP0 HPn HF0 HFn HRT HRF0 HNF
    have N7 := N3
    go_upto_region 9 with fail
    clear N3 HRF
    by_cases hbig : 20000 < t.size
    · have hbig' : (20000 : Int) < (t.size : Int) := by omega
      obtain ⟨hz1, rfl⟩ := HZ.out hbig
      have Hz1 := Lib.hid hz1; clear hz1 hbig
      have e0 := N7.out.n.cell 0; have e1 := N7.out.n.cell 1; have e2 := N7.out.n.cell 2; have e3 := N7.out.n.cell 3; have e4 := N7.out.n.cell 4; have e5 := N7.out.n.cell 5; have e6 := N7.out.n.cell 6; have e7 := N7.out.n.cell 7; have e8 := N7.out.n.cell 8; have e9 := N7.out.n.cell 9
      simp only [List.getElem?_cons_zero, List.getElem?_cons_succ] at e0 e1 e2 e3 e4 e5 e6 e7 e8 e9
      have elt := N7.out.n.lt
      have Hzs := Lib.hid (fun cx wx h1 h2 h3 => rsame_any (.mk xk ⟨xnm, xop, xver, xslot, xfl, xon⟩ xf xn xks) Nd.zero (fun i => w.heap.size ≤ i ∧ i < wx.heap.size) cx (ndRow 0 At.zero [] false none 0 0) wx h1 h2 h3)
      unfold ndRow At.zero at Hzs
      rw [Hz1.out] at Hzs
      go_wp2_with (first | (go_at_call 12; refine (Hzs.out _ _ N7.out.r (RNd.zero _ _) (fun i hi => hi.2)).mono ?_; rintro e w8 ⟨rfl, hb8⟩; refine Hid.out ?_))
      refine Lib.hid ?_
      have N8 := Lib.hid (N7.out.below hb8); clear hb8
      go_wp2
      go_ret
      exact ⟨rfl, N8.out.t.bel⟩
    · have hbig' : ¬ (20000 : Int) < (t.size : Int) := by omega
      have hrd := fun wx hL hM hM2 => (rreadNeed_any t wx (by omega) hL hM hM2).mono fun e w' h => NParsePost.lit h HPQ.out
      unfold ndRow at hrd
      have Hrd := Lib.hid hrd; clear hrd hbig
      go_wp2_with (first | (go_at_call 16; refine (Hrd.out _ (HLV.out.below N7.out.t.bel) (HMV.out.below N7.out.t.bel) (HMX.out.below N7.out.t.bel)).mono ?_; rintro e w8 ⟨A8, n8, c8, rfl, hr8, -, hb8⟩; refine Hid.out ?_))
      refine Lib.hid ?_
      have N8 := Lib.hid (N7.out.below hb8)
      have HR8 := Lib.hid (hr8.more (S' := fun i => w.heap.size ≤ i ∧ i < w8.heap.size) fun i hi => ⟨Nat.le_trans N7.out.t.bel.size hi.1, hi.2⟩)
      clear hb8 hr8
      have HB8 := Lib.hid (bel1 w8 (.cells #[.int .i64 xk, .string ⟨xnm.toArray⟩, .int .i64 xop, .int .i64 xver, .int .i64 xslot, .string ⟨xfl.toArray⟩, .bool xon, .string ⟨xf.toArray⟩, .bool xn, .slice A8 n8 c8] 26))
      have N9 := Lib.hid (N8.out.below HB8.out)
      have HR9 := Lib.hid ((HR8.out.under HB8.out fun i hi => hi.2).more (S' := fun i => w.heap.size ≤ i ∧ i < (w8.alloc (.cells #[.int .i64 xk, .string ⟨xnm.toArray⟩, .int .i64 xop, .int .i64 xver, .int .i64 xslot, .string ⟨xfl.toArray⟩, .bool xon, .string ⟨xf.toArray⟩, .bool xn, .slice A8 n8 c8] 26)).heap.size) fun i hi => ⟨hi.1, Nat.lt_of_lt_of_le hi.2 HB8.out.size⟩)
      have Hzs := Lib.hid (fun cx wx h1 h2 h3 => rsame_any (.mk xk ⟨xnm, xop, xver, xslot, xfl, xon⟩ xf xn xks) (.mk xk ⟨xnm, xop, xver, xslot, xfl, xon⟩ xf xn xks) (fun i => w.heap.size ≤ i ∧ i < wx.heap.size) cx (ndRow xk ⟨xnm, xop, xver, xslot, xfl, xon⟩ xf xn A8 n8 c8) wx h1 h2 h3)
      unfold ndRow at Hzs
      rw [(same_iff _ _).2 rfl] at Hzs
      have e0 := N8.out.n.cell 0; have e1 := N8.out.n.cell 1; have e2 := N8.out.n.cell 2; have e3 := N8.out.n.cell 3; have e4 := N8.out.n.cell 4; have e5 := N8.out.n.cell 5; have e6 := N8.out.n.cell 6; have e7 := N8.out.n.cell 7; have e8 := N8.out.n.cell 8; have e9 := N8.out.n.cell 9
      simp only [List.getElem?_cons_zero, List.getElem?_cons_succ] at e0 e1 e2 e3 e4 e5 e6 e7 e8 e9
      have elt := N8.out.n.lt
      go_wp2_with (first | (go_at_call 12; refine (Hzs.out _ _ N9.out.r HR9.out (fun i hi => hi.2)).mono ?_; rintro e w10 ⟨rfl, hb10⟩; refine Hid.out ?_))
      refine Lib.hid ?_
      have N10 := Lib.hid (N9.out.below hb10); clear hb10
      go_wp2
      go_ret
      exact ⟨rfl, N10.out.t.bel⟩
end Go.Proofs.YtnkmonmkhmcgaaaGreatDoor

/- Arguments that can be read as data, opened: atoms, strings; what the listed variables hold. -/
namespace Go.Proofs.YtnkmonmkhmcgaaaGreatDoor
open Go.ChangeShapes Go.WideShapes Go.ChangeAt Go.RowKit Qm

section
variable {H : Type} {enc : TypeId × Value → H} {w : World} {base : Nat} {sp : Nat → Bool} {held : Bool}
/-- One cell's field of a struct. -/
theorem field_cell {P : Program} {t : TypeId} {fs : Array Field} {fuel : Nat} {cs : List Value} {x : DataW H × List MemPlace} (ht : P.underlying t = some (.struct fs)) (h : DataW.trod enc P w base sp held fuel t cs = some x)
    (i : Nat) {f : Field} (hf : fs[i]? = some f) (hc : P.cellsOf f.type = 1) (hlt : f.offset < P.cellsOf t) : ∃ c n y, cs[f.offset]? = some c ∧ DataW.trod enc P w base sp held n f.type [c] = some y := by
  obtain ⟨xs, n, _, _, hl, hxl, hx⟩ := DataW.trod_struct ht h
  have h1 := hx i f hf
  have hlt' : f.offset < cs.length := by omega
  have hi : i < fs.size := (Array.getElem?_eq_some_iff.1 hf).1
  rw [hc, List.drop_eq_getElem_cons hlt'] at h1
  refine ⟨cs[f.offset], n, xs[i]'(by omega), List.getElem?_eq_getElem hlt', ?_⟩
  rw [List.getElem?_eq_getElem (by omega)] at h1
  have e : (cs[f.offset] :: List.drop (f.offset + 1) cs).take 1 = [cs[f.offset]] := rfl
  rw [e] at h1
  exact h1
def In64 (x : Int) : Prop := -9223372036854775808 ≤ x ∧ x ≤ 9223372036854775807
theorem i64_le {x : Int} (h : (Lit.int .i64 x).wf = true) : In64 x := by
  unfold In64
  simp [Lit.wf, IntKind.min, IntKind.max, IntKind.bits, IntKind.signed] at h; omega
theorem six_of {α : Type} {cs : List α} {a b c d e f : α} (hl : cs.length = 6) (h0 : cs[0]? = some a) (h1 : cs[1]? = some b) (h2 : cs[2]? = some c) (h3 : cs[3]? = some d) (h4 : cs[4]? = some e) (h5 : cs[5]? = some f) : cs = [a, b, c, d, e, f] := by
  match cs, hl with
  | [_, _, _, _, _, _], _ => simp at h0 h1 h2 h3 h4 h5; simp [h0, h1, h2, h3, h4, h5]
theorem str_one {P : Program} {t : TypeId} {n : Nat} {c : Value} {y : DataW H × List MemPlace} (ht : P.underlying t = some .string) (h : DataW.trod enc P w base sp held n t [c] = some y) : ∃ s : ByteArray, c = .string s ∧ s.size ≤ maxLen := by
  obtain ⟨s, e, _, hs⟩ := DataW.trod_string ht h
  simp at e
  exact ⟨s, e, hs⟩
theorem int_one {P : Program} {t : TypeId} {n : Nat} {c : Value} {y : DataW H × List MemPlace} (ht : P.underlying t = some (.int .i64)) (h : DataW.trod enc P w base sp held n t [c] = some y) : ∃ x : Int, c = .int .i64 x ∧ In64 x := by
  obtain ⟨x, e, _, hs⟩ := DataW.trod_int ht h
  simp at e
  exact ⟨x, e, i64_le hs⟩
theorem bool_one_ {P : Program} {t : TypeId} {n : Nat} {c : Value} {y : DataW H × List MemPlace} (ht : P.underlying t = some .bool) (h : DataW.trod enc P w base sp held n t [c] = some y) : ∃ x : Bool, c = .bool x := by
  obtain ⟨x, e, _⟩ := DataW.trod_bool ht h
  simp at e
  exact ⟨x, e⟩
/-- An atom's six cells. -/
theorem atom_cells {fuel : Nat} {cs : List Value} {x : DataW H × List MemPlace} (h : DataW.trod enc Tryz.prog w base sp held fuel 23 cs = some x) :
    ∃ (s f : ByteArray) (op ver slot : Int) (on : Bool), cs = [.string s, .int .i64 op, .int .i64 ver, .int .i64 slot, .string f, .bool on] ∧ s.size ≤ maxLen ∧ f.size ≤ maxLen ∧ In64 op ∧
      In64 ver ∧ In64 slot := by
  have hT := Tryz.underlying23
  have hl : cs.length = 6 := by
    obtain ⟨_, _, _, _, hl, _⟩ := DataW.trod_struct hT h
    rw [hl]; kernel_rfl
  obtain ⟨c0, n0, y0, e0, k0⟩ := field_cell hT h 0 rfl (by kernel_rfl) (of_decide_eq_true (by kernel_rfl))
  obtain ⟨c1, n1, y1, e1, k1⟩ := field_cell hT h 1 rfl (by kernel_rfl) (of_decide_eq_true (by kernel_rfl))
  obtain ⟨c2, n2, y2, e2, k2⟩ := field_cell hT h 2 rfl (by kernel_rfl) (of_decide_eq_true (by kernel_rfl))
  obtain ⟨c3, n3, y3, e3, k3⟩ := field_cell hT h 3 rfl (by kernel_rfl) (of_decide_eq_true (by kernel_rfl))
  obtain ⟨c4, n4, y4, e4, k4⟩ := field_cell hT h 4 rfl (by kernel_rfl) (of_decide_eq_true (by kernel_rfl))
  obtain ⟨c5, n5, y5, e5, k5⟩ := field_cell hT h 5 rfl (by kernel_rfl) (of_decide_eq_true (by kernel_rfl))
  obtain ⟨s, rfl, hs⟩ := str_one Tryz.underlying9 k0
  obtain ⟨op, rfl, ho⟩ := int_one Tryz.underlying3 k1
  obtain ⟨ver, rfl, hv⟩ := int_one Tryz.underlying3 k2
  obtain ⟨slot, rfl, hsl⟩ := int_one Tryz.underlying3 k3
  obtain ⟨f, rfl, hf⟩ := str_one Tryz.underlying9 k4
  obtain ⟨on, rfl⟩ := bool_one_ Tryz.underlying4 k5
  exact ⟨s, f, op, ver, slot, on, six_of hl e0 e1 e2 e3 e4 e5, hs, hf, ho, hv, hsl⟩
set_option maxRecDepth 100000 in
/-- An atom, by value. -/
theorem open_atom {r : Reach} {b0 : Nat} {v : Value} {d : DataW H} {p : List MemPlace} (hv : Value.okWide Tryz.prog w r b0 23 v) (h : DataW.Trod enc Tryz.prog w base sp held 23 v d p) :
    ∃ (s f : ByteArray) (op ver slot : Int) (on : Bool), v = atv s op ver slot f on ∧ s.size ≤ maxLen ∧ f.size ≤ maxLen ∧ In64 op ∧
      In64 ver ∧ In64 slot := by
  obtain ⟨cs, rfl, _⟩ := okWide_struct Tryz.underlying23 hv
  obtain ⟨fuel, hf⟩ := h
  obtain ⟨s, f, op, ver, slot, on, e, hh⟩ := atom_cells hf
  have e' : cs.toList = [.string s, .int .i64 op, .int .i64 ver, .int .i64 slot, .string f, .bool on] := by simpa [Value.cells] using e
  refine ⟨s, f, op, ver, slot, on, ?_, hh⟩
  obtain ⟨l⟩ := cs
  simp only at e'
  subst e'
  rfl
end

/-! what the listed variables hold -/
theorem laid_at {P : Program} {w : World} : ∀ {l : List (String × DataW Unit)} {k : Nat} {x : String × DataW Unit}, laidMet P l w → l[k]? = some x → ∃ r, laidMet P (x :: r) w
  | [], _, _, _, h => by simp at h
  | y :: r, 0, x, h, hk => by
    simp only [List.getElem?_cons_zero, Option.some.injEq] at hk
    subst hk
    exact ⟨r, h⟩
  | y :: r, k + 1, x, h, hk => laid_at h.tail (by simpa using hk)
theorem gPow : Tryz.prog.globalNamed "internal/strconv.uint64pow10" = some 3 := by kernel_rfl
theorem gRng : Tryz.prog.globalNamed "strconv.ErrRange" = some 5 := by kernel_rfl
theorem gSyn : Tryz.prog.globalNamed "strconv.ErrSyntax" = some 4 := by kernel_rfl
theorem tPow : (Tryz.prog.globals[3]?).map (·.type) = some 156 := by kernel_rfl
theorem tRng : (Tryz.prog.globals[5]?).map (·.type) = some 74 := by kernel_rfl
theorem tSyn : (Tryz.prog.globals[4]?).map (·.type) = some 74 := by kernel_rfl
theorem rowErr : ∀ u, Tryz.prog.typeName? 3 u = some "*errors.errorString" → u = 163 := fun _ h => typeName_ptr_named (nm := "errors.errorString") (by kernel_rfl) (by kernel_rfl) (by decide) _ h
theorem laidV_of {w : World} {l : List (String × DataW Unit)} (h : laidMet Tryz.prog l w) {i j k : Nat} (hi : l[i]? = some ("internal/strconv.uint64pow10", Rows.laid_internal_strconv_uint64pow10)) (hj : l[j]? = some ("strconv.ErrRange", Rows.laid_strconv_ErrRange)) (hk : l[k]? = some ("strconv.ErrSyntax", Rows.laid_strconv_ErrSyntax)) : LaidV w := by
  obtain ⟨_, h1⟩ := laid_at h hi
  obtain ⟨_, h2⟩ := laid_at h hj
  obtain ⟨_, h3⟩ := laid_at h hk
  obtain ⟨a2, s2, e2, _⟩ := laid_sentinel h2 gRng tRng Tryz.underlying74 rowErr Tryz.underlying163 Tryz.underlying165 rfl rfl Tryz.underlying9 (by kernel_rfl) (by kernel_rfl)
  obtain ⟨a3, s3, e3, _⟩ := laid_sentinel h3 gSyn tSyn Tryz.underlying74 rowErr Tryz.underlying163 Tryz.underlying165 rfl rfl Tryz.underlying9 (by kernel_rfl) (by kernel_rfl)
  exact ⟨⟨_, _, e3⟩, ⟨_, _, e2⟩, Lib.tabIs_of_head gPow tPow Tryz.underlying156 Tryz.underlying107 (by kernel_rfl) (by kernel_rfl) h1⟩
end Go.Proofs.YtnkmonmkhmcgaaaGreatDoor

/- Arguments that can be read as data, opened into the words of these proofs. -/
namespace Go.Proofs.YtnkmonmkhmcgaaaGreatDoor
open Go.ChangeShapes Go.WideShapes Go.ChangeAt Go.RowKit Go.Joins Go.Deep

theorem spot_add {w : World} {a : Addr} {n : Nat} {f : Nat → Value} (hn : 0 < n) (h : ∀ i, i < n → w.cell? (a.add i) = some (f i)) : ∃ b o, a = ⟨b, o, none⟩ ∧ b < w.heap.size ∧ ∀ j, j < n → w.cell? ⟨b, o + j, none⟩ = some (f j) := by
  obtain ⟨b, o, spot⟩ := a
  have h0 := h 0 hn
  have hs : spot = none := by simpa [Addr.add] using World.cell?_spot h0
  subst hs
  have ha : ∀ j, (⟨b, o, none⟩ : Addr).add j = ⟨b, o + j, none⟩ := by
    intro j; unfold Addr.add; by_cases hj : j = 0 <;> simp [hj]
  refine ⟨b, o, rfl, ?_, fun j hj => by rw [← ha]; exact h j hj⟩
  have := World.block_lt_of_cell? w _ h0
  rw [ha] at this; exact this

theorem row_of_cells {w : World} {a : Addr} {n : Nat} {vs : List Value} (hl : vs.length = n) (h : ∀ i (_ : i < n), w.cell? (a.add i) = vs[i]?) : Row w (fun k => k < w.heap.size) (some a) n vs := by
  refine ⟨hl, fun hn => ?_⟩
  obtain ⟨b, o, rfl, hb, hc⟩ := spot_add (f := fun i => (vs[i]?).getD undef) hn (fun i hi => by rw [h i hi, List.getElem?_eq_getElem (by omega)]; rfl)
  exact ⟨b, o, rfl, hb, fun j hj => by rw [hc j hj, List.getElem?_eq_getElem (by omega)]; rfl⟩

section
variable {H : Type} {enc : TypeId × Value → H} {P : Program} {w : World} {base : Nat} {held : Bool}
def InI64 (xs : List Int) : Prop := ∀ x ∈ xs, -9223372036854775808 ≤ x ∧ x ≤ 9223372036854775807
theorem i64_bd {x : Int} (h : (Lit.int .i64 x).wf = true) : -9223372036854775808 ≤ x ∧ x ≤ 9223372036854775807 := by
  simp [Lit.wf, IntKind.min, IntKind.max, IntKind.bits, IntKind.signed] at h; omega
/-- a slice of ints -/
theorem rints_of_trod {t e : TypeId} {fuel : Nat} {v : Value} {x : DataW H × List MemPlace} (ht : P.underlying t = some (.slice e)) (he : P.underlying e = some (.int .i64)) (hc : P.cellsOf e = 1)
    (h : DataW.trod enc P w base (fun _ => true) held fuel t [v] = some x) : ∃ (A : Option Addr) (n c : Nat) (xs : List Int), v = .slice A n c ∧ n ≤ c ∧ c ≤ maxLen ∧ RInts w (fun k => k < w.heap.size) A n xs ∧ InI64 xs := by
  rcases open_ints ht he hc h with ⟨hcs, _⟩ | ⟨a, len, cap, zs, hcs, _, hl, hm, hz, _, hcell, hwf⟩
  · simp at hcs
    exact ⟨none, 0, 0, [], hcs, Nat.le_refl _, Nat.zero_le _, RInts.nil_, fun x hx => by simp at hx⟩
  · simp at hcs hz
    refine ⟨some a, len, cap, zs.take len, hcs, hl, hm, row_of_cells (by simp; omega) (fun i hi => ?_), fun x hx => i64_bd (hwf x (List.mem_of_mem_take hx))⟩
    rw [hcell i (by omega), List.getElem?_map, List.getElem?_take_of_lt hi, List.getD_eq_getElem?_getD, List.getElem?_eq_getElem (by omega)]; rfl
/-- a slice of bools -/
theorem rbools_of_trod {t e : TypeId} {fuel : Nat} {v : Value} {x : DataW H × List MemPlace} (ht : P.underlying t = some (.slice e)) (he : P.underlying e = some .bool) (hc : P.cellsOf e = 1)
    (h : DataW.trod enc P w base (fun _ => true) held fuel t [v] = some x) : ∃ (A : Option Addr) (n c : Nat) (xs : List Bool), v = .slice A n c ∧ n ≤ c ∧ c ≤ maxLen ∧ RBools w (fun k => k < w.heap.size) A n xs := by
  rcases open_bools ht he hc h with ⟨hcs, _⟩ | ⟨a, len, cap, Bf, hcs, _, hl, hm, _, hcell⟩
  · simp at hcs
    exact ⟨none, 0, 0, [], hcs, Nat.le_refl _, Nat.zero_le _, ⟨rfl, fun h => absurd h (by omega)⟩⟩
  · simp at hcs
    refine ⟨some a, len, cap, (List.range len).map Bf, hcs, hl, hm, row_of_cells (by simp) (fun i hi => ?_)⟩
    rw [hcell i (by omega), List.getElem?_map, List.getElem?_map, List.getElem?_range hi]; rfl
/-- a slice of slices of ints -/
theorem rclauses_of_trod {t e q : TypeId} {fuel : Nat} {v : Value} {x : DataW H × List MemPlace} (ht : P.underlying t = some (.slice e)) (he : P.underlying e = some (.slice q)) (hq : P.underlying q = some (.int .i64)) (hc : P.cellsOf e = 1) (hcq : P.cellsOf q = 1)
    (h : DataW.trod enc P w base (fun _ => true) held fuel t [v] = some x) : ∃ (A : Option Addr) (n c : Nat) (cs : List (List Int)), v = .slice A n c ∧ n ≤ c ∧ c ≤ maxLen ∧ RClauses w (fun k => k < w.heap.size) A n cs ∧ ∀ c ∈ cs, InI64 c := by
  rcases open_int_rows ht he hq hc hcq h with ⟨hcs, _⟩ | ⟨a, len, cap, A, L, C, Z, hcs, _, hl, hm, _, hr⟩
  · simp at hcs
    exact ⟨none, 0, 0, [], hcs, Nat.le_refl _, Nat.zero_le _, RClauses.nil_, fun x hx => by simp at hx⟩
  · simp at hcs
    refine ⟨some a, len, cap, (List.range len).map (fun r => (Z r).take (L r)), hcs, hl, hm, ⟨(List.range len).map (fun r => (A r, L r, C r)), row_of_cells (by simp) (fun i hi => ?_), by simp, fun j hh c h1 h2 => ?_⟩, fun c hc => ?_⟩
    · rw [(hr i (by omega)).1, List.getElem?_map, List.getElem?_map, List.getElem?_range hi]; rfl
    · rw [List.getElem?_map] at h1 h2
      by_cases hj : j < len
      · rw [List.getElem?_range hj] at h1 h2
        simp at h1 h2
        subst h1 h2
        obtain ⟨h3, h4, h5, h6, h7, h8, h9⟩ := hr j (by omega)
        refine ⟨?_, h4, h5⟩
        cases hA : A j with
        | none =>
          have h0 : L j = 0 := by have := h8 hA; omega
          show RInts w _ none (L j) _
          rw [h0]; exact RInts.nil_
        | some a' =>
          show RInts w _ (some a') (L j) _
          exact row_of_cells (by simp; omega) (fun i hi => by
            rw [(h9 a' hA).2 i (by omega), List.getElem?_map, List.getElem?_take_of_lt hi, List.getD_eq_getElem?_getD, List.getElem?_eq_getElem (by omega)]; rfl)
      · rw [List.getElem?_eq_none (by simp; omega)] at h1; cases h1
    · obtain ⟨r, hr', rfl⟩ := List.mem_map.1 hc
      rw [List.mem_range] at hr'
      exact fun x hx => i64_bd ((hr r (by omega)).2.2.2.2.1 x (List.mem_of_mem_take hx))
end
end Go.Proofs.YtnkmonmkhmcgaaaGreatDoor
