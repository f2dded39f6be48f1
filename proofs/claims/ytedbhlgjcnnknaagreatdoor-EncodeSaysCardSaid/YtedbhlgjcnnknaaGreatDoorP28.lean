/- Parts of the proof: walks and plain laws, side by side. -/
import Derived.Test.YtedbhlgjcnnknaaGreatDoorP27
import Derived.Test.YtedbhlgjcnnknaaGreatDoorP13
import Derived.Deep.QuietTactic
import Derived.BigQuiet
import Derived.IntWalk
set_option linter.unusedVariables false
set_option linter.unusedSimpArgs false
set_option linter.unusedSectionVars false
set_option maxRecDepth 100000
set_option maxHeartbeats 12800000
namespace Go.Proofs.YtedbhlgjcnnknaaGreatDoor
section
open Go.RowKit Qm
theorem rct_round (ps : List Pk) (S : Nat → Prop) (A : Option Addr) (n c : Nat) (w : World) (HT : Hid (RTree w S A n ps)) (hnc : n ≤ c) (hc : c ≤ 2 ^ 63 - 1) (HS : Hid (∀ k, S k → k < w.heap.size)) (R : Int) (HK1 : Hid (R = ckT none n ps))
  (gko : Nat) (wo : World) (u2 u4 u5 u6 u7 u8 u10 u11 u20 u21 u22 u23 u24 u25 u26 u27 u28 u29 u30 u31 u32 u33 u34 u35 u36 u37 u38 u39 u40 u41 u42 u43 u44 u45 u46 u47 u48 u49 u50 u51 u52 u53 u54 u55 u56 u57 u58 u59 u60 u61 u62 u63 u64 u65 u66 u67 u68 u69 u70 u71 u72 u73 u74 u75 u76 u77 u78 u79 u80 u81 u82 u83 u84 u85 u86 u87 u88 u89 u90 u91 u92 u93 u94 u95 u96 u97 u98 u99 u100 u101 u102 u103 u104 u105 u106 u107 u108 u109 u110 u111 u112 u113 u114 u115 u116 u117 u118 u119 u120 u121 u122 u123 u124 u125 u126 u127 u128 u129 u130 u131 u132 u133 u134 u135 u136 u137 u138 u139 : Value) (J : Nat → Act → World → Prop) (K K1 : Act → World → Prop) (hJ : ctJ w A n c ps J) (hK : ∀ (a' : Act) (w' : World), Handed J gko a' w' → K a' w')
  (j m : Nat) (Hj : Hid (j + gko = n)) (hm : n + m ≤ 14) (Hcl : Hid (ckT none n ps = ckT (prevOf ps j) (n + m) (ps.drop j))) (XR : Hid (Tx w A n c wo)) (hj : j < n) :
  Code.wp Tryz.prog (roundOf Tryz.f65) (Exit.then K (Exit.inBlock 0 (Exit.then K1 (bodyPost Tryz.prog Tryz.f65 (fun e w' => e = .returned (.int .i64 R) ∧ Below w.heap.size w w'))))) (ctFrame w A n c u2 (.int .i64 m) u4 u5 u6 u7 u8 u10 u11 (.int .i64 j) u20 u21 u22 u23 u24 u25 u26 u27 u28 u29 u30 u31 u32 u33 u34 u35 u36 u37 u38 u39 u40 u41 u42 u43 u44 u45 u46 u47 u48 u49 u50 u51 u52 u53 u54 u55 u56 u57 u58 u59 u60 u61 u62 u63 u64 u65 u66 u67 u68 u69 u70 u71 u72 u73 u74 u75 u76 u77 u78 u79 u80 u81 u82 u83 u84 u85 u86 u87 u88 u89 u90 u91 u92 u93 u94 u95 u96 u97 u98 u99 u100 u101 u102 u103 u104 u105 u106 u107 u108 u109 u110 u111 u112 u113 u114 u115 u116 u117 u118 u119 u120 u121 u122 u123 u124 u125 u126 u127 u128 u129 u130 u131 u132 u133 u134 u135 u136 u137 u138 u139) wo := by
 obtain ⟨b, o, p, B, m', c', k, a, f, no, D, q, d, rfl, hbS, hp, hP, hcell⟩ := (HT.out.under XR.out.below HS.out).at_ hj
 have t0 := XR.out.whole.cell 0
 simp only [qgz] at t0
 have Hst := qh (ckT_step (n := n + m) hp)
 have hlb : b < wo.heap.size := ql (HS.out _ hbS) XR.out.below.size
 have hlt0 := XR.out.whole.lt
 have g0 := hcell 0 (by omega); have g1 := hcell 1 (by omega); have g2 := hcell 2 (by omega); have g3 := hcell 3 (by omega); have g4 := hcell 4 (by omega); have g5 := hcell 5 (by omega); have g6 := hcell 6 (by omega); have g7 := hcell 7 (by omega); have g8 := hcell 8 (by omega); have g9 := hcell 9 (by omega); have g10 := hcell 10 (by omega); have g11 := hcell 11 (by omega); have g12 := hcell 12 (by omega); have g13 := hcell 13 (by omega)
 unfold pkRow ndRow at g0 g1 g2 g3 g4 g5 g6 g7 g8 g9 g10 g11 g12 g13
 simp only [qgz, qgs, Nat.add_zero] at g0 g1 g2 g3 g4 g5 g6 g7 g8 g9 g10 g11 g12 g13
 have hnd := hP.nd
 have hdec : ∃ k2 a2 f2 no2 ks2, p.nd = .mk k2 a2 f2 no2 ks2 := by cases p.nd; exact ⟨_, _, _, _, _, rfl⟩
 obtain ⟨nm, ver, slot, fs, nd⟩ := p
 obtain ⟨k2, a2, f2, no2, ks2, hnd2⟩ := hdec
 dsimp only at hnd2 hnd
 subst hnd2
 obtain ⟨D', q', d', hrow, -⟩ := hnd.open_
 unfold ndRow at hrow
 obtain ⟨rfl, rfl, rfl, rfl, rfl, rfl, rfl, -⟩ : k2 = k ∧ a2 = a ∧ f2 = f ∧ no2 = no ∧ D' = D ∧ q' = q ∧ d' = d ∧ True := by
  simp only [List.cons.injEq, Value.int.injEq, Value.string.injEq, Value.bool.injEq, Value.slice.injEq, and_true, true_and] at hrow
  obtain ⟨h1, h2, h3, h4, h5, h6, h7, h8, h9, h10, h11, h12⟩ := hrow
  refine ⟨h1.symm, ?_, ?_, h9.symm, h10.symm, h11.symm, h12.symm, trivial⟩
  ·cases a; cases a2; simp_all
  ·simp_all
 have HKp : Hid (ckPk ⟨nm, ver, slot, fs, .mk k2 a2 f2 no2 ks2⟩ = if isName nm = false then 1 else if ver < 1 ∨ 99 < ver ∨ slot < 1 ∨ 9 < slot then 3 else if 2 < fs.length then 2 else if ckFlags none fs ≠ 0 then ckFlags none fs
  else if k2 ≠ 3 then 4 else if ckNeed (.mk k2 a2 f2 no2 ks2) ≠ 0 then ckNeed (.mk k2 a2 f2 no2 ks2) else if (flagsN (.mk k2 a2 f2 no2 ks2)).all (fun f => fs.contains f) = true then 0 else 5) := qh rfl
 generalize ckPk _ = Rk at HKp Hst
 have HB : Hid (∀ q, Rk = q → q ≠ 0 → q = R) := qh fun q h h0 => by rw [HK1.out, Hcl.out, Hst.out, if_pos (by rw [h]; exact h0)]; exact h.symm
 have hrf := fun (h0 : ckNeed (.mk k2 a2 f2 no2 ks2) = 0) wx h1 h2 => rflags_any (.mk k2 a2 f2 no2 ks2) S (ndRow k2 a2 f2 no2 D' q' d') wx h1 h2 (by have := flagsN_le (.mk k2 a2 f2 no2 ks2); have := (ckNeed_zero h0).2.1; omega)
 unfold RFlagsPost at hrf
 have hck := fun wx h1 h2 => rcheckNeed_any (.mk k2 a2 f2 no2 ks2) S (ndRow k2 a2 f2 no2 D' q' d') wx h1 h2
 have hA := fun (h : ckNeed (.mk k2 a2 f2 no2 ks2) = 0) p => flP_all (y := .mk k2 a2 f2 no2 ks2) h p
 have hflp : ckNeed (.mk k2 a2 f2 no2 ks2) = 0 → flP (.mk k2 a2 f2 no2 ks2) = Lib.compact (sortW (flagsN (.mk k2 a2 f2 no2 ks2))) := fun h => by unfold flP; rw [if_pos h]
 generalize flP (.mk k2 a2 f2 no2 ks2) = fl0 at hA hflp
 generalize Lib.compact (sortW (flagsN (.mk k2 a2 f2 no2 ks2))) = fl at hrf hflp
 generalize flagsN (.mk k2 a2 f2 no2 ks2) = fn at hA HKp
 generalize ckNeed (.mk k2 a2 f2 no2 ks2) = z at hrf hck hA HKp hflp
 have HA : Hid (z = 0 → ∀ p, fl.all p = fn.all p) := qh fun h p => by rw [← hflp h]; exact hA h p
 have HND := qh hP.nd
 have hln : fs.length = m' := hP.fs.len
 have P0 := qh (Pb.new wo (pkRow ⟨nm, ver, slot, fs, .mk k2 a2 f2 no2 ks2⟩ B m' c' (ndRow k2 a2 f2 no2 D' q' d')))
 have Hna : Hid (∀ wx, Calls Tryz.prog 89 #[.string ⟨nm.toArray⟩] wx fun e w' => e = .returned (.bool (isName nm)) ∧ Below wx.heap.size wx w') := qh fun wx => rname_any ⟨nm.toArray⟩ wx (by rw [bsz]; exact hP.nm)
 have HFS := qh hP.fs
 have hcap := hP.cap
 have hmax := hP.max
 unfold maxLen at hmax
 unfold pkRow at P0
 unfold ndRow at P0 hrf hck HND
 dsimp only at P0 HFS HND
 have HSr : Hid (∀ k, S k → k < wo.heap.size) := qh fun k hk => ql (HS.out k hk) XR.out.below.size
 have Hrf := qh hrf; have Hck := qh hck
 clear hrf hck hA hflp hnd hP hcell hrow hp
 cases hn : isName nm
 ·rw [hn] at Hna
  unfold ctJ ctFrame at hJ
  unfold ctFrame
  show Code.wp Tryz.prog (Code.seq _ _) _ _ _
  go_wp2_with (first | (go_at_call 89; refine (Hna.out _).mono ?_; rintro e w1 ⟨rfl, hb1⟩; refine Hid.out ?_))
  refine qh ?_
  have P1 := qh (P0.out.move hb1)
  clear hb1
  have d0 := P1.out.whole.cell 0; have d1 := P1.out.whole.cell 1; have d2 := P1.out.whole.cell 2; have d3 := P1.out.whole.cell 3; have d4 := P1.out.whole.cell 4; have d5 := P1.out.whole.cell 5; have d6 := P1.out.whole.cell 6
  have d7 := P1.out.whole.cell 7; have d8 := P1.out.whole.cell 8; have d9 := P1.out.whole.cell 9; have d10 := P1.out.whole.cell 10; have d11 := P1.out.whole.cell 11; have d12 := P1.out.whole.cell 12; have d13 := P1.out.whole.cell 13
  simp only [qgz, qgs] at d0 d1 d2 d3 d4 d5 d6 d7 d8 d9 d10 d11 d12 d13
  have hlt := P1.out.whole.lt
  go_wp2
  go_ret
  exact ⟨ret_int (HB.out 1 (by rw [HKp.out, if_pos hn]) (by decide)), (XR.out.move P1.out.below).below⟩
 rw [hn] at Hna
 by_cases v1 : ver < 1
 ·skip
  unfold ctJ ctFrame at hJ
  unfold ctFrame
  show Code.wp Tryz.prog (Code.seq _ _) _ _ _
  go_wp2_with (first | (go_at_call 89; refine (Hna.out _).mono ?_; rintro e w1 ⟨rfl, hb1⟩; refine Hid.out ?_))
  refine qh ?_
  have P1 := qh (P0.out.move hb1)
  clear hb1
  have d0 := P1.out.whole.cell 0; have d1 := P1.out.whole.cell 1; have d2 := P1.out.whole.cell 2; have d3 := P1.out.whole.cell 3; have d4 := P1.out.whole.cell 4; have d5 := P1.out.whole.cell 5; have d6 := P1.out.whole.cell 6
  have d7 := P1.out.whole.cell 7; have d8 := P1.out.whole.cell 8; have d9 := P1.out.whole.cell 9; have d10 := P1.out.whole.cell 10; have d11 := P1.out.whole.cell 11; have d12 := P1.out.whole.cell 12; have d13 := P1.out.whole.cell 13
  simp only [qgz, qgs] at d0 d1 d2 d3 d4 d5 d6 d7 d8 d9 d10 d11 d12 d13
  have hlt := P1.out.whole.lt
  go_wp2
  go_ret
  exact ⟨ret_int (HB.out 3 (by rw [HKp.out, if_neg (by simp [hn]), if_pos (by omega)]) (by decide)), (XR.out.move P1.out.below).below⟩
 have v1' : decide (ver < 1) = false := by simpa using v1
 by_cases v2 : 99 < ver
 ·skip
  unfold ctJ ctFrame at hJ
  unfold ctFrame
  show Code.wp Tryz.prog (Code.seq _ _) _ _ _
  go_wp2_with (first | (go_at_call 89; refine (Hna.out _).mono ?_; rintro e w1 ⟨rfl, hb1⟩; refine Hid.out ?_))
  refine qh ?_
  have P1 := qh (P0.out.move hb1)
  clear hb1
  have d0 := P1.out.whole.cell 0; have d1 := P1.out.whole.cell 1; have d2 := P1.out.whole.cell 2; have d3 := P1.out.whole.cell 3; have d4 := P1.out.whole.cell 4; have d5 := P1.out.whole.cell 5; have d6 := P1.out.whole.cell 6
  have d7 := P1.out.whole.cell 7; have d8 := P1.out.whole.cell 8; have d9 := P1.out.whole.cell 9; have d10 := P1.out.whole.cell 10; have d11 := P1.out.whole.cell 11; have d12 := P1.out.whole.cell 12; have d13 := P1.out.whole.cell 13
  simp only [qgz, qgs] at d0 d1 d2 d3 d4 d5 d6 d7 d8 d9 d10 d11 d12 d13
  have hlt := P1.out.whole.lt
  go_wp2
  go_ret
  exact ⟨ret_int (HB.out 3 (by rw [HKp.out, if_neg (by simp [hn]), if_pos (by omega)]) (by decide)), (XR.out.move P1.out.below).below⟩
 have v2' : decide (99 < ver) = false := by simpa using v2
 by_cases s1 : slot < 1
 ·skip
  unfold ctJ ctFrame at hJ
  unfold ctFrame
  show Code.wp Tryz.prog (Code.seq _ _) _ _ _
  go_wp2_with (first | (go_at_call 89; refine (Hna.out _).mono ?_; rintro e w1 ⟨rfl, hb1⟩; refine Hid.out ?_))
  refine qh ?_
  have P1 := qh (P0.out.move hb1)
  clear hb1
  have d0 := P1.out.whole.cell 0; have d1 := P1.out.whole.cell 1; have d2 := P1.out.whole.cell 2; have d3 := P1.out.whole.cell 3; have d4 := P1.out.whole.cell 4; have d5 := P1.out.whole.cell 5; have d6 := P1.out.whole.cell 6
  have d7 := P1.out.whole.cell 7; have d8 := P1.out.whole.cell 8; have d9 := P1.out.whole.cell 9; have d10 := P1.out.whole.cell 10; have d11 := P1.out.whole.cell 11; have d12 := P1.out.whole.cell 12; have d13 := P1.out.whole.cell 13
  simp only [qgz, qgs] at d0 d1 d2 d3 d4 d5 d6 d7 d8 d9 d10 d11 d12 d13
  have hlt := P1.out.whole.lt
  go_wp2
  go_ret
  exact ⟨ret_int (HB.out 3 (by rw [HKp.out, if_neg (by simp [hn]), if_pos (by omega)]) (by decide)), (XR.out.move P1.out.below).below⟩
 have s1' : decide (slot < 1) = false := by simpa using s1
 by_cases s2 : 9 < slot
 ·skip
  unfold ctJ ctFrame at hJ
  unfold ctFrame
  show Code.wp Tryz.prog (Code.seq _ _) _ _ _
  go_wp2_with (first | (go_at_call 89; refine (Hna.out _).mono ?_; rintro e w1 ⟨rfl, hb1⟩; refine Hid.out ?_))
  refine qh ?_
  have P1 := qh (P0.out.move hb1)
  clear hb1
  have d0 := P1.out.whole.cell 0; have d1 := P1.out.whole.cell 1; have d2 := P1.out.whole.cell 2; have d3 := P1.out.whole.cell 3; have d4 := P1.out.whole.cell 4; have d5 := P1.out.whole.cell 5; have d6 := P1.out.whole.cell 6
  have d7 := P1.out.whole.cell 7; have d8 := P1.out.whole.cell 8; have d9 := P1.out.whole.cell 9; have d10 := P1.out.whole.cell 10; have d11 := P1.out.whole.cell 11; have d12 := P1.out.whole.cell 12; have d13 := P1.out.whole.cell 13
  simp only [qgz, qgs] at d0 d1 d2 d3 d4 d5 d6 d7 d8 d9 d10 d11 d12 d13
  have hlt := P1.out.whole.lt
  go_wp2
  go_ret
  exact ⟨ret_int (HB.out 3 (by rw [HKp.out, if_neg (by simp [hn]), if_pos (by omega)]) (by decide)), (XR.out.move P1.out.below).below⟩
 have s2' : decide (9 < slot) = false := by simpa using s2
 have HKp1 : Hid (Rk = if 2 < fs.length then 2 else if ckFlags none fs ≠ 0 then ckFlags none fs
  else if k2 ≠ 3 then 4 else if z ≠ 0 then z else if fn.all (fun f => fs.contains f) = true then 0 else 5) := qh (by rw [HKp.out, if_neg (by simp [hn]), if_neg (by omega)])
 clear HKp
 by_cases n2 : (2 : Int) < m'
 ·skip
  unfold ctJ ctFrame at hJ
  unfold ctFrame
  show Code.wp Tryz.prog (Code.seq _ _) _ _ _
  go_wp2_with (first | (go_at_call 89; refine (Hna.out _).mono ?_; rintro e w1 ⟨rfl, hb1⟩; refine Hid.out ?_))
  refine qh ?_
  have P1 := qh (P0.out.move hb1)
  clear hb1
  have d0 := P1.out.whole.cell 0; have d1 := P1.out.whole.cell 1; have d2 := P1.out.whole.cell 2; have d3 := P1.out.whole.cell 3; have d4 := P1.out.whole.cell 4; have d5 := P1.out.whole.cell 5; have d6 := P1.out.whole.cell 6
  have d7 := P1.out.whole.cell 7; have d8 := P1.out.whole.cell 8; have d9 := P1.out.whole.cell 9; have d10 := P1.out.whole.cell 10; have d11 := P1.out.whole.cell 11; have d12 := P1.out.whole.cell 12; have d13 := P1.out.whole.cell 13
  simp only [qgz, qgs] at d0 d1 d2 d3 d4 d5 d6 d7 d8 d9 d10 d11 d12 d13
  have hlt := P1.out.whole.lt
  go_wp2
  go_ret
  exact ⟨ret_int (HB.out 2 (by rw [HKp1.out, if_pos (by omega)]) (by decide)), (XR.out.move P1.out.below).below⟩
 have n2' : decide ((2 : Int) < m') = false := qdf n2
 have HKp2 : Hid (Rk = if ckFlags none fs ≠ 0 then ckFlags none fs else if k2 ≠ 3 then 4 else if z ≠ 0 then z else if fn.all (fun f => fs.contains f) = true then 0 else 5) := qh (by rw [HKp1.out, if_neg (by omega)])
 clear HKp1
 unfold ctJ ctFrame at hJ
 unfold ctFrame
 show Code.wp Tryz.prog (Code.seq _ _) _ _ _
 go_wp2_with (first | (go_at_call 89; refine (Hna.out _).mono ?_; rintro e w1 ⟨rfl, hb1⟩; refine Hid.out ?_))
 refine qh ?_
 have P1 := qh (P0.out.move hb1)
 clear hb1 g0 g1 g2 g3 g4 g5 g6 g7 g8 g9 g10 g11 g12 g13
 have d0 := P1.out.whole.cell 0; have d1 := P1.out.whole.cell 1; have d2 := P1.out.whole.cell 2; have d3 := P1.out.whole.cell 3; have d4 := P1.out.whole.cell 4; have d5 := P1.out.whole.cell 5; have d6 := P1.out.whole.cell 6
 have d7 := P1.out.whole.cell 7; have d8 := P1.out.whole.cell 8; have d9 := P1.out.whole.cell 9; have d10 := P1.out.whole.cell 10; have d11 := P1.out.whole.cell 11; have d12 := P1.out.whole.cell 12; have d13 := P1.out.whole.cell 13
 simp only [qgz, qgs] at d0 d1 d2 d3 d4 d5 d6 d7 d8 d9 d10 d11 d12 d13
 have hlt := P1.out.whole.lt
 go_upto_block 3 with fail
 clear v1 v2 s1 s2 v1' v2' s1' s2' n2' hn Hna
 clear d0 d1 d2 d3 d4 d5 d6 d7 d8 d9 d10 d11 d12 d13 hlt
 go_cut [] (fun wx => ckFlags none fs = 0 ∧ Pb wo wo.heap.size [.string ⟨nm.toArray⟩, .int .i64 ver, .int .i64 slot, .slice B m' c', .int .i64 k2, .string ⟨a2.nm.toArray⟩, .int .i64 a2.op, .int .i64 a2.ver, .int .i64 a2.slot, .string ⟨a2.fl.toArray⟩, .bool a2.on, .string ⟨f2.toArray⟩, .bool no2, .slice D' q' d'] wx)
 case first =>
  have d0 := P1.out.whole.cell 0; have d1 := P1.out.whole.cell 1; have d2 := P1.out.whole.cell 2; have d3 := P1.out.whole.cell 3; have d4 := P1.out.whole.cell 4; have d5 := P1.out.whole.cell 5; have d6 := P1.out.whole.cell 6
  have d7 := P1.out.whole.cell 7; have d8 := P1.out.whole.cell 8; have d9 := P1.out.whole.cell 9; have d10 := P1.out.whole.cell 10; have d11 := P1.out.whole.cell 11; have d12 := P1.out.whole.cell 12; have d13 := P1.out.whole.cell 13
  simp only [qgz, qgs] at d0 d1 d2 d3 d4 d5 d6 d7 d8 d9 d10 d11 d12 d13
  have hlt := P1.out.whole.lt
  go_wp2
  clear d0 d1 d2 d3 d4 d5 d6 d7 d8 d9 d10 d11 d12 d13 hlt
  obtain ⟨w1', rfl⟩ : ∃ x, x = w1 := ⟨_, rfl⟩
  go_loopg [56] m' (fun g iv wx => ∃ (i : Nat), Hid (i + g = m') ∧ iv = .int .i64 i ∧ Hid (ckFlags none fs = ckFlags (prevOf fs i) (fs.drop i)) ∧ Hid (Pb wo wo.heap.size [.string ⟨nm.toArray⟩, .int .i64 ver, .int .i64 slot, .slice B m' c', .int .i64 k2, .string ⟨a2.nm.toArray⟩, .int .i64 a2.op, .int .i64 a2.ver, .int .i64 a2.slot, .string ⟨a2.fl.toArray⟩, .bool a2.on, .string ⟨f2.toArray⟩, .bool no2, .slice D' q' d'] wx))
  case atStart => exact ⟨0, qh (Nat.zero_add _), rfl, qh rfl, P1⟩
  case round =>
   obtain ⟨i, Hi, rfl, Hcf, PR⟩ := hrel
   clear P1
   by_cases hi : i < m'
   ·obtain ⟨b1, o1, g, rfl, hbS1, hg, hgl, hcell⟩ := (HFS.out.under PR.out.below HSr.out).at_ hi
    have hlb1 : b1 < wr.heap.size := ql (HSr.out _ hbS1) PR.out.below.size
    have Hsf := qh (ckFlags_step hg)
    have Hnm : Hid (∀ wx, Calls Tryz.prog 89 #[.string ⟨g.toArray⟩] wx fun e w' => e = .returned (.bool (isName g)) ∧ Below wx.heap.size wx w') := qh (fun wx => rname_any ⟨g.toArray⟩ wx (by rw [bsz]; exact hgl))
    clear hgl
    cases hq : isName g
    ·rw [hq] at Hnm
     clear hg
     have e1 : ckFlags none fs = 1 := by rw [Hcf.out, Hsf.out, if_pos hq]
     have E1 := qh e1; clear e1
     have d0 := PR.out.whole.cell 0; have d1 := PR.out.whole.cell 1; have d2 := PR.out.whole.cell 2; have d3 := PR.out.whole.cell 3; have d4 := PR.out.whole.cell 4; have d5 := PR.out.whole.cell 5; have d6 := PR.out.whole.cell 6
     have d7 := PR.out.whole.cell 7; have d8 := PR.out.whole.cell 8; have d9 := PR.out.whole.cell 9; have d10 := PR.out.whole.cell 10; have d11 := PR.out.whole.cell 11; have d12 := PR.out.whole.cell 12; have d13 := PR.out.whole.cell 13
     simp only [qgz, qgs] at d0 d1 d2 d3 d4 d5 d6 d7 d8 d9 d10 d11 d12 d13
     have hlt := PR.out.whole.lt
     go_wp2_with (first | (go_at_call 89; refine (Hnm.out _).mono ?_; rintro e w2 ⟨rfl, hb2⟩; refine Hid.out ?_))
     refine qh ?_
     clear d0 d1 d2 d3 d4 d5 d6 d7 d8 d9 d10 d11 d12 d13 hlt
     have P2 := qh (PR.out.move hb2)
     replace hcell := (hb2.cell (p := ⟨b1, _, none⟩) hlb1).trans hcell
     clear hb2
     have d0 := P2.out.whole.cell 0; have d1 := P2.out.whole.cell 1; have d2 := P2.out.whole.cell 2; have d3 := P2.out.whole.cell 3; have d4 := P2.out.whole.cell 4; have d5 := P2.out.whole.cell 5; have d6 := P2.out.whole.cell 6
     have d7 := P2.out.whole.cell 7; have d8 := P2.out.whole.cell 8; have d9 := P2.out.whole.cell 9; have d10 := P2.out.whole.cell 10; have d11 := P2.out.whole.cell 11; have d12 := P2.out.whole.cell 12; have d13 := P2.out.whole.cell 13
     simp only [qgz, qgs] at d0 d1 d2 d3 d4 d5 d6 d7 d8 d9 d10 d11 d12 d13
     have hlt := P2.out.whole.lt
     go_wp2
     go_ret
     exact ⟨ret_int (HB.out 1 (by rw [HKp2.out, if_pos (by rw [E1.out]; decide), E1.out]) (by decide)), (XR.out.move P2.out.below).below⟩
    rw [hq] at Hnm
    rcases i with _ | l
    ·clear hg
     rw [Nat.add_zero] at hcell
     have d0 := PR.out.whole.cell 0; have d1 := PR.out.whole.cell 1; have d2 := PR.out.whole.cell 2; have d3 := PR.out.whole.cell 3; have d4 := PR.out.whole.cell 4; have d5 := PR.out.whole.cell 5; have d6 := PR.out.whole.cell 6
     have d7 := PR.out.whole.cell 7; have d8 := PR.out.whole.cell 8; have d9 := PR.out.whole.cell 9; have d10 := PR.out.whole.cell 10; have d11 := PR.out.whole.cell 11; have d12 := PR.out.whole.cell 12; have d13 := PR.out.whole.cell 13
     simp only [qgz, qgs] at d0 d1 d2 d3 d4 d5 d6 d7 d8 d9 d10 d11 d12 d13
     have hlt := PR.out.whole.lt
     go_wp2_with (first | (go_at_call 89; refine (Hnm.out _).mono ?_; rintro e w2 ⟨rfl, hb2⟩; refine Hid.out ?_))
     refine qh ?_
     clear d0 d1 d2 d3 d4 d5 d6 d7 d8 d9 d10 d11 d12 d13 hlt
     have P2 := qh (PR.out.move hb2)
     replace hcell := (hb2.cell (p := ⟨b1, _, none⟩) hlb1).trans hcell
     clear hb2
     have d0 := P2.out.whole.cell 0; have d1 := P2.out.whole.cell 1; have d2 := P2.out.whole.cell 2; have d3 := P2.out.whole.cell 3; have d4 := P2.out.whole.cell 4; have d5 := P2.out.whole.cell 5; have d6 := P2.out.whole.cell 6
     have d7 := P2.out.whole.cell 7; have d8 := P2.out.whole.cell 8; have d9 := P2.out.whole.cell 9; have d10 := P2.out.whole.cell 10; have d11 := P2.out.whole.cell 11; have d12 := P2.out.whole.cell 12; have d13 := P2.out.whole.cell 13
     simp only [qgz, qgs] at d0 d1 d2 d3 d4 d5 d6 d7 d8 d9 d10 d11 d12 d13
     have hlt := P2.out.whole.lt
     go_wp2
     go_roundg (gk - 1)
     case measure => have := Hi.out; omega
     case rel => exact ⟨1, qh (by have := Hi.out; omega), by go_num, qh (by rw [Hcf.out, Hsf.out, if_neg (by simp [hq])]; rfl), P2⟩
    ·obtain ⟨b1', o1', u, eA, _, hu, _, hucell⟩ := (HFS.out.under PR.out.below HSr.out).at_ (j := l) (by omega)
     injection eA with eA; injection eA with e1 e2; subst e1 e2
     have hpr : prevOf fs (l + 1) = some u := prevOf_succ hu
     have Hpr := qh hpr
     have hbl := bytesLess_eq g u
     clear hu hpr
     by_cases hug : u < g
     ·have hgu : (g == u) = false := by rw [beq_eq_false_iff_ne]; exact fun e => List.lt_irrefl _ (e ▸ hug)
      rw [qdf (List.not_lt.2 (List.le_of_lt hug))] at hbl
      have Hug : Hid (badNext (some u) g = false) := qh (qdf (List.not_le.2 hug))
      clear hug hg
      have d0 := PR.out.whole.cell 0; have d1 := PR.out.whole.cell 1; have d2 := PR.out.whole.cell 2; have d3 := PR.out.whole.cell 3; have d4 := PR.out.whole.cell 4; have d5 := PR.out.whole.cell 5; have d6 := PR.out.whole.cell 6
      have d7 := PR.out.whole.cell 7; have d8 := PR.out.whole.cell 8; have d9 := PR.out.whole.cell 9; have d10 := PR.out.whole.cell 10; have d11 := PR.out.whole.cell 11; have d12 := PR.out.whole.cell 12; have d13 := PR.out.whole.cell 13
      simp only [qgz, qgs] at d0 d1 d2 d3 d4 d5 d6 d7 d8 d9 d10 d11 d12 d13
      have hlt := PR.out.whole.lt
      go_wp2_with (first | (go_at_call 89; refine (Hnm.out _).mono ?_; rintro e w2 ⟨rfl, hb2⟩; refine Hid.out ?_))
      refine qh ?_
      clear d0 d1 d2 d3 d4 d5 d6 d7 d8 d9 d10 d11 d12 d13 hlt
      have P2 := qh (PR.out.move hb2)
      replace hcell := (hb2.cell (p := ⟨b1, _, none⟩) hlb1).trans hcell
      replace hucell := (hb2.cell (p := ⟨b1, _, none⟩) hlb1).trans hucell
      clear hb2
      have d0 := P2.out.whole.cell 0; have d1 := P2.out.whole.cell 1; have d2 := P2.out.whole.cell 2; have d3 := P2.out.whole.cell 3; have d4 := P2.out.whole.cell 4; have d5 := P2.out.whole.cell 5; have d6 := P2.out.whole.cell 6
      have d7 := P2.out.whole.cell 7; have d8 := P2.out.whole.cell 8; have d9 := P2.out.whole.cell 9; have d10 := P2.out.whole.cell 10; have d11 := P2.out.whole.cell 11; have d12 := P2.out.whole.cell 12; have d13 := P2.out.whole.cell 13
      simp only [qgz, qgs] at d0 d1 d2 d3 d4 d5 d6 d7 d8 d9 d10 d11 d12 d13
      have hlt := P2.out.whole.lt
      go_wp2
      go_roundg (gk - 1)
      case measure => have := Hi.out; omega
      case rel => exact ⟨l + 1 + 1, qh (by have := Hi.out; omega), by go_num, qh (by rw [Hcf.out, Hsf.out, if_neg (by simp [hq]), Hpr.out, if_neg (by rw [Hug.out]; simp)]), P2⟩
     ·have Hug : Hid (badNext (some u) g = true) := qh (qdt (List.not_lt.1 hug))
      have e6 : ckFlags none fs = 6 := by rw [Hcf.out, Hsf.out, if_neg (by simp [hq]), Hpr.out, if_pos Hug.out]
      have E6 := qh e6
      by_cases hgu : g = u
      ·subst hgu
       rw [qdf hug] at hbl
       clear hug hg e6
       have d0 := PR.out.whole.cell 0; have d1 := PR.out.whole.cell 1; have d2 := PR.out.whole.cell 2; have d3 := PR.out.whole.cell 3; have d4 := PR.out.whole.cell 4; have d5 := PR.out.whole.cell 5; have d6 := PR.out.whole.cell 6
       have d7 := PR.out.whole.cell 7; have d8 := PR.out.whole.cell 8; have d9 := PR.out.whole.cell 9; have d10 := PR.out.whole.cell 10; have d11 := PR.out.whole.cell 11; have d12 := PR.out.whole.cell 12; have d13 := PR.out.whole.cell 13
       simp only [qgz, qgs] at d0 d1 d2 d3 d4 d5 d6 d7 d8 d9 d10 d11 d12 d13
       have hlt := PR.out.whole.lt
       go_wp2_with (first | (go_at_call 89; refine (Hnm.out _).mono ?_; rintro e w2 ⟨rfl, hb2⟩; refine Hid.out ?_))
       refine qh ?_
       clear d0 d1 d2 d3 d4 d5 d6 d7 d8 d9 d10 d11 d12 d13 hlt
       have P2 := qh (PR.out.move hb2)
       replace hcell := (hb2.cell (p := ⟨b1, _, none⟩) hlb1).trans hcell
       replace hucell := (hb2.cell (p := ⟨b1, _, none⟩) hlb1).trans hucell
       clear hb2
       have d0 := P2.out.whole.cell 0; have d1 := P2.out.whole.cell 1; have d2 := P2.out.whole.cell 2; have d3 := P2.out.whole.cell 3; have d4 := P2.out.whole.cell 4; have d5 := P2.out.whole.cell 5; have d6 := P2.out.whole.cell 6
       have d7 := P2.out.whole.cell 7; have d8 := P2.out.whole.cell 8; have d9 := P2.out.whole.cell 9; have d10 := P2.out.whole.cell 10; have d11 := P2.out.whole.cell 11; have d12 := P2.out.whole.cell 12; have d13 := P2.out.whole.cell 13
       simp only [qgz, qgs] at d0 d1 d2 d3 d4 d5 d6 d7 d8 d9 d10 d11 d12 d13
       have hlt := P2.out.whole.lt
       go_wp2
       go_ret
       exact ⟨ret_int (HB.out 6 (by rw [HKp2.out, if_pos (by rw [E6.out]; decide), E6.out]) (by decide)), (XR.out.move P2.out.below).below⟩
      ·rw [qdt (Classical.byContradiction fun hn => hgu (List.le_antisymm (List.not_lt.1 hug) (List.not_lt.1 hn)))] at hbl
       have hgu' : (g == u) = false := by rw [beq_eq_false_iff_ne]; exact hgu
       clear hug hg e6 hgu
       have d0 := PR.out.whole.cell 0; have d1 := PR.out.whole.cell 1; have d2 := PR.out.whole.cell 2; have d3 := PR.out.whole.cell 3; have d4 := PR.out.whole.cell 4; have d5 := PR.out.whole.cell 5; have d6 := PR.out.whole.cell 6
       have d7 := PR.out.whole.cell 7; have d8 := PR.out.whole.cell 8; have d9 := PR.out.whole.cell 9; have d10 := PR.out.whole.cell 10; have d11 := PR.out.whole.cell 11; have d12 := PR.out.whole.cell 12; have d13 := PR.out.whole.cell 13
       simp only [qgz, qgs] at d0 d1 d2 d3 d4 d5 d6 d7 d8 d9 d10 d11 d12 d13
       have hlt := PR.out.whole.lt
       go_wp2_with (first | (go_at_call 89; refine (Hnm.out _).mono ?_; rintro e w2 ⟨rfl, hb2⟩; refine Hid.out ?_))
       refine qh ?_
       clear d0 d1 d2 d3 d4 d5 d6 d7 d8 d9 d10 d11 d12 d13 hlt
       have P2 := qh (PR.out.move hb2)
       replace hcell := (hb2.cell (p := ⟨b1, _, none⟩) hlb1).trans hcell
       replace hucell := (hb2.cell (p := ⟨b1, _, none⟩) hlb1).trans hucell
       clear hb2
       have d0 := P2.out.whole.cell 0; have d1 := P2.out.whole.cell 1; have d2 := P2.out.whole.cell 2; have d3 := P2.out.whole.cell 3; have d4 := P2.out.whole.cell 4; have d5 := P2.out.whole.cell 5; have d6 := P2.out.whole.cell 6
       have d7 := P2.out.whole.cell 7; have d8 := P2.out.whole.cell 8; have d9 := P2.out.whole.cell 9; have d10 := P2.out.whole.cell 10; have d11 := P2.out.whole.cell 11; have d12 := P2.out.whole.cell 12; have d13 := P2.out.whole.cell 13
       simp only [qgz, qgs] at d0 d1 d2 d3 d4 d5 d6 d7 d8 d9 d10 d11 d12 d13
       have hlt := P2.out.whole.lt
       go_wp2
       go_ret
       exact ⟨ret_int (HB.out 6 (by rw [HKp2.out, if_pos (by rw [E6.out]; decide), E6.out]) (by decide)), (XR.out.move P2.out.below).below⟩
   ·obtain rfl : m' = i := by have := Hi.out; omega
    have hz : ckFlags none fs = 0 := by rw [Hcf.out, ckFlags_done (by omega)]
    have Hz := qh hz; clear hz
    go_wp2
    go_meet
    case rel => exact ⟨Hz.out, PR.out⟩
 case rest =>
  obtain ⟨hz, hPR⟩ := hcut
  have HKp3 : Hid (Rk = if k2 ≠ 3 then 4 else if z ≠ 0 then z else if fn.all (fun f => fs.contains f) = true then 0 else 5) := qh (by rw [HKp2.out, if_neg (by rw [hz]; simp)])
  have PR := qh hPR
  clear HKp2 hz hPR P1
  have d0 := PR.out.whole.cell 0; have d1 := PR.out.whole.cell 1; have d2 := PR.out.whole.cell 2; have d3 := PR.out.whole.cell 3; have d4 := PR.out.whole.cell 4; have d5 := PR.out.whole.cell 5; have d6 := PR.out.whole.cell 6
  have d7 := PR.out.whole.cell 7; have d8 := PR.out.whole.cell 8; have d9 := PR.out.whole.cell 9; have d10 := PR.out.whole.cell 10; have d11 := PR.out.whole.cell 11; have d12 := PR.out.whole.cell 12; have d13 := PR.out.whole.cell 13
  simp only [qgz, qgs] at d0 d1 d2 d3 d4 d5 d6 d7 d8 d9 d10 d11 d12 d13
  have hlt := PR.out.whole.lt
  by_cases k3 : k2 = 3
  ·subst k3
   have HKp4 : Hid (Rk = if z ≠ 0 then z else if fn.all (fun f => fs.contains f) = true then 0 else 5) := qh (by rw [HKp3.out, if_neg (by simp)])
   clear HKp3
   go_wp2_with (first | (go_at_call 90; refine (Hck.out _ (HND.out.under PR.out.below HSr.out) (fun k hk => ql (HSr.out k hk) PR.out.below.size)).mono ?_; rintro e w3 ⟨rfl, hb3⟩; refine Hid.out ?_))
   refine qh ?_
   clear d0 d1 d2 d3 d4 d5 d6 d7 d8 d9 d10 d11 d12 d13 hlt
   have P3 := qh (PR.out.move hb3)
   clear hb3 PR Hck
   by_cases z0 : z = 0
   ·subst z0
    have HKp5 : Hid (Rk = if fl.all (fun f => fs.contains f) = true then 0 else 5) := qh (by rw [HKp4.out, if_neg (by simp), HA.out rfl])
    clear HKp4 HA
    have hrf2 := Hrf.out rfl
    obtain ⟨lf, hlf⟩ : ∃ lf, fl.length = lf := ⟨_, rfl⟩
    rw [hlf] at hrf2
    have Hlf := qh hlf
    have Hrf2 := qh hrf2
    clear hlf hrf2 Hrf
    have d0 := P3.out.whole.cell 0; have d1 := P3.out.whole.cell 1; have d2 := P3.out.whole.cell 2; have d3 := P3.out.whole.cell 3; have d4 := P3.out.whole.cell 4; have d5 := P3.out.whole.cell 5; have d6 := P3.out.whole.cell 6
    have d7 := P3.out.whole.cell 7; have d8 := P3.out.whole.cell 8; have d9 := P3.out.whole.cell 9; have d10 := P3.out.whole.cell 10; have d11 := P3.out.whole.cell 11; have d12 := P3.out.whole.cell 12; have d13 := P3.out.whole.cell 13
    simp only [qgz, qgs] at d0 d1 d2 d3 d4 d5 d6 d7 d8 d9 d10 d11 d12 d13
    have hlt := P3.out.whole.lt
    go_upto_block 5 with (first | (go_at_call 91; refine (Hrf2.out _ (HND.out.under P3.out.below HSr.out) (fun k hk => ql (HSr.out k hk) P3.out.below.size)).mono ?_; rintro e w4 ⟨Af, cf, rfl, hrf, hf1, hf2, hb4⟩; refine Hid.out ?_))
    refine qh ?_
    clear d0 d1 d2 d3 d4 d5 d6 d7 d8 d9 d10 d11 d12 d13 hlt
    have P4 := qh (P3.out.move hb4)
    have HRF := qh hrf
    have hfll : lf ≤ maxLen := qlt hf1 hf2
    unfold maxLen at hfll
    clear hb4 P3 Hrf2 hrf hf1 hf2
    go_upto_block 5 with fail
    go_cut [] (fun wx => fl.all (fun f => fs.contains f) = true ∧ Pb wo wo.heap.size [.string ⟨nm.toArray⟩, .int .i64 ver, .int .i64 slot, .slice B m' c', .int .i64 3, .string ⟨a2.nm.toArray⟩, .int .i64 a2.op, .int .i64 a2.ver, .int .i64 a2.slot, .string ⟨a2.fl.toArray⟩, .bool a2.on, .string ⟨f2.toArray⟩, .bool no2, .slice D' q' d'] wx)
    case first =>
     have d0 := P4.out.whole.cell 0; have d1 := P4.out.whole.cell 1; have d2 := P4.out.whole.cell 2; have d3 := P4.out.whole.cell 3; have d4 := P4.out.whole.cell 4; have d5 := P4.out.whole.cell 5; have d6 := P4.out.whole.cell 6
     have d7 := P4.out.whole.cell 7; have d8 := P4.out.whole.cell 8; have d9 := P4.out.whole.cell 9; have d10 := P4.out.whole.cell 10; have d11 := P4.out.whole.cell 11; have d12 := P4.out.whole.cell 12; have d13 := P4.out.whole.cell 13
     simp only [qgz, qgs] at d0 d1 d2 d3 d4 d5 d6 d7 d8 d9 d10 d11 d12 d13
     have hlt := P4.out.whole.lt
     go_wp2
     clear d0 d1 d2 d3 d4 d5 d6 d7 d8 d9 d10 d11 d12 d13 hlt
     go_loopg [91] lf (fun g iv wx => ∃ (i : Nat), Hid (i + g = lf) ∧ iv = .int .i64 i ∧ Hid (fl.all (fun f => fs.contains f) = (fl.drop i).all (fun f => fs.contains f)) ∧ Hid (Below w4.heap.size w4 wx))
     case atStart => exact ⟨0, qh (Nat.zero_add _), rfl, qh rfl, qh (Below.refl _ _)⟩
     case round =>
      obtain ⟨i, Hi, rfl, Hcf, HBr⟩ := hrel
      have P5 := qh (P4.out.move HBr.out)
      clear P4
      by_cases hi : i < lf
      ·obtain ⟨b1, o1, rfl, hbS1, hcell⟩ := (HRF.out.below HBr.out fun q hq => hq.2).at_ hi
       have hlb1 : b1 < wr.heap.size := ql hbS1.2 HBr.out.size
       have hgj : fl[i]? = some (fl[i]'(by rw [Hlf.out]; exact hi)) := qge _
       generalize fl[i]'(by rw [Hlf.out]; exact hi) = g at hgj
       rw [strs, qgm, hgj] at hcell
       dsimp only [Option.map_some] at hcell
       have Hsf := qh (all_step (p := fun f => fs.contains f) hgj)
       have Hco := qh (fun wx h => containsS_any B m' c' fs g wx S h (by unfold maxLen; omega))
       have HRW := qh (HFS.out.under P5.out.below HSr.out).row
       clear hgj
       cases hq : fs.contains g
       ·rw [hq] at Hco
        have d0 := P5.out.whole.cell 0; have d1 := P5.out.whole.cell 1; have d2 := P5.out.whole.cell 2; have d3 := P5.out.whole.cell 3; have d4 := P5.out.whole.cell 4; have d5 := P5.out.whole.cell 5; have d6 := P5.out.whole.cell 6
        have d7 := P5.out.whole.cell 7; have d8 := P5.out.whole.cell 8; have d9 := P5.out.whole.cell 9; have d10 := P5.out.whole.cell 10; have d11 := P5.out.whole.cell 11; have d12 := P5.out.whole.cell 12; have d13 := P5.out.whole.cell 13
        simp only [qgz, qgs] at d0 d1 d2 d3 d4 d5 d6 d7 d8 d9 d10 d11 d12 d13
        have hlt := P5.out.whole.lt
        go_wp2_with (first | (go_at_call 92; refine (Hco.out _ HRW.out).mono ?_; rintro e w5 ⟨rfl, rfl⟩; refine Hid.out ?_))
        refine qh ?_
        go_wp2
        go_ret
        exact ⟨ret_int (HB.out 5 (by rw [HKp5.out, if_neg (by rw [Hcf.out, Hsf.out]; simp only [hq, Bool.false_and]; decide)]) (by decide)), (XR.out.move P5.out.below).below⟩
       ·rw [hq] at Hco
        have d0 := P5.out.whole.cell 0; have d1 := P5.out.whole.cell 1; have d2 := P5.out.whole.cell 2; have d3 := P5.out.whole.cell 3; have d4 := P5.out.whole.cell 4; have d5 := P5.out.whole.cell 5; have d6 := P5.out.whole.cell 6
        have d7 := P5.out.whole.cell 7; have d8 := P5.out.whole.cell 8; have d9 := P5.out.whole.cell 9; have d10 := P5.out.whole.cell 10; have d11 := P5.out.whole.cell 11; have d12 := P5.out.whole.cell 12; have d13 := P5.out.whole.cell 13
        simp only [qgz, qgs] at d0 d1 d2 d3 d4 d5 d6 d7 d8 d9 d10 d11 d12 d13
        have hlt := P5.out.whole.lt
        go_wp2_with (first | (go_at_call 92; refine (Hco.out _ HRW.out).mono ?_; rintro e w5 ⟨rfl, rfl⟩; refine Hid.out ?_))
        refine qh ?_
        go_wp2
        go_roundg (gk - 1)
        case measure => have := Hi.out; omega
        case rel => exact ⟨i + 1, qh (by have := Hi.out; omega), by go_num, qh (by rw [Hcf.out, Hsf.out]; simp only [hq, Bool.true_and]), HBr⟩
      ·obtain rfl : i = lf := by have := Hi.out; omega
       go_wp2
       go_meet
       case rel => exact ⟨by rw [Hcf.out, all_done (Nat.le_of_eq Hlf.out)], P5.out⟩
    case rest =>
     obtain ⟨hall, hPR⟩ := hcut
     have HX : Hid (ckT (prevOf ps j) (n + m) (ps.drop j) = if badPk (prevOf ps j) ⟨nm, ver, slot, fs, .mk 3 a2 f2 no2 ks2⟩ = true then 6 else if 14 < n + m + m' then 2 else ckT (prevOf ps (j + 1)) (n + m + m') (ps.drop (j + 1))) := qh (by rw [Hst.out, if_neg (by rw [HKp5.out, if_pos hall]; simp)]; simp only [hln])
     have P5 := qh hPR
     clear hall hPR P4 HKp5 HB Hst HRF Hlf
     have d0 := P5.out.whole.cell 0; have d1 := P5.out.whole.cell 1; have d2 := P5.out.whole.cell 2; have d3 := P5.out.whole.cell 3; have d4 := P5.out.whole.cell 4; have d5 := P5.out.whole.cell 5; have d6 := P5.out.whole.cell 6
     have d7 := P5.out.whole.cell 7; have d8 := P5.out.whole.cell 8; have d9 := P5.out.whole.cell 9; have d10 := P5.out.whole.cell 10; have d11 := P5.out.whole.cell 11; have d12 := P5.out.whole.cell 12; have d13 := P5.out.whole.cell 13
     simp only [qgz, qgs] at d0 d1 d2 d3 d4 d5 d6 d7 d8 d9 d10 d11 d12 d13
     have hlt := P5.out.whole.lt
     have X5 := qh (XR.out.move P5.out.below)
     have t1 := X5.out.whole.cell 0
     simp only [qgz] at t1
     have hltx := X5.out.whole.lt
     rcases j with _ | i
     ·have HX0 : Hid (ckT (prevOf ps 0) (n + m) (ps.drop 0) = if 14 < n + m + m' then 2 else ckT (prevOf ps 1) (n + m + m') (ps.drop 1)) := qh (by rw [HX.out, if_neg (by rw [prevOf_zero]; simp [badPk])])
      clear HX
      by_cases h14 : (14 : Int) < (n : Int) + ((m : Int) + (m' : Int))
      ·go_wp2
       go_ret
       exact ⟨ret_int (by rw [HK1.out, Hcl.out, HX0.out, if_pos (by omega)]), X5.out.below⟩
      ·have h14' : decide ((14 : Int) < (n : Int) + ((m : Int) + (m' : Int))) = false := qdf h14
       go_wp2
       go_roundg (gko - 1)
       case measure => have := Hj.out; omega
       case rel => exact ⟨1, m + m', qh (by have := Hj.out; omega), by go_num, by go_num, by omega, qh (by rw [Hcl.out, HX0.out, if_neg (by omega), Nat.add_assoc n m m']), X5⟩
     ·obtain ⟨b1, o1, u, B3, m3, c3, k3, a3, f3, no3, D3, q3, d3, eA, _, hu, _, hucell⟩ := (HT.out.under X5.out.below HS.out).at_ (j := i) (by omega)
      injection eA with eA; injection eA with e1 e2; subst e1 e2
      have Hpr := qh (prevOf_succ hu)
      have hin : i < n := by omega
      have hwi : (0 : Int) ≤ (i : Int) := by omega
      have v0 := hucell 0 (by omega); have v1 := hucell 1 (by omega); have v2 := hucell 2 (by omega); have v3 := hucell 3 (by omega); have v4 := hucell 4 (by omega); have v5 := hucell 5 (by omega); have v6 := hucell 6 (by omega); have v7 := hucell 7 (by omega); have v8 := hucell 8 (by omega); have v9 := hucell 9 (by omega); have v10 := hucell 10 (by omega); have v11 := hucell 11 (by omega); have v12 := hucell 12 (by omega); have v13 := hucell 13 (by omega)
      unfold pkRow ndRow at v0 v1 v2 v3 v4 v5 v6 v7 v8 v9 v10 v11 v12 v13
      simp only [qgz, qgs, Nat.add_zero] at v0 v1 v2 v3 v4 v5 v6 v7 v8 v9 v10 v11 v12 v13
      have hlbx : b < wc.heap.size := ql hlb P5.out.below.size
      clear hucell hu
      obtain ⟨pnm, pver, pslot, pfs, pnd⟩ := u
      dsimp only at v0 v1 v2 v3 v4 v5 v6 v7 v8 v9 v10 v11 v12 v13
      have hbl := bytesLess_eq nm pnm
      by_cases h1 : nm < pnm
      ·rw [qdt h1] at hbl
       have HX1 : Hid (ckT (prevOf ps (i + 1)) (n + m) (ps.drop (i + 1)) = 6) := qh (by rw [HX.out, Hpr.out, if_pos (badPk_lt h1)])
       clear HX h1
       go_wp2
       go_ret
       exact ⟨ret_int (by rw [HK1.out, Hcl.out, HX1.out]), X5.out.below.alloc X5.out.below.size _⟩
      ·rw [qdf h1] at hbl
       by_cases h2 : nm = pnm
       ·subst h2
        have hbq := badPk_eq (u := ⟨nm, pver, pslot, pfs, pnd⟩) (p := ⟨nm, ver, slot, fs, .mk 3 a2 f2 no2 ks2⟩) rfl
        have heq : (nm == nm) = true := by simp
        by_cases h3 : ver ≤ pver
        ·have HX1 : Hid (ckT (prevOf ps (i + 1)) (n + m) (ps.drop (i + 1)) = 6) := qh (by rw [HX.out, Hpr.out, if_pos (by rw [hbq]; exact qdt h3)])
         have h3' : decide (ver ≤ pver) = true := qdt h3
         clear HX h1 hbq h3
         go_wp2
         go_ret
         exact ⟨ret_int (by rw [HK1.out, Hcl.out, HX1.out]), X5.out.below.alloc X5.out.below.size _⟩
        ·have HX1 : Hid (ckT (prevOf ps (i + 1)) (n + m) (ps.drop (i + 1)) = if 14 < n + m + m' then 2 else ckT (prevOf ps (i + 1 + 1)) (n + m + m') (ps.drop (i + 1 + 1))) := qh (by rw [HX.out, Hpr.out, if_neg (by rw [hbq, qdf h3]; simp)])
         have h3' : decide (ver ≤ pver) = false := qdf h3
         clear HX h1 hbq h3
         have XB := qh (X5.out.move ((Below.refl _ wc).alloc (qr _) (.cells #[.string ⟨nm.toArray⟩, .int .i64 pver, .int .i64 pslot, .slice B3 m3 c3, .int .i64 k3, .string ⟨a3.nm.toArray⟩, .int .i64 a3.op, .int .i64 a3.ver, .int .i64 a3.slot, .string ⟨a3.fl.toArray⟩, .bool a3.on, .string ⟨f3.toArray⟩, .bool no3, .slice D3 q3 d3] 101)))
         by_cases h14 : (14 : Int) < (n : Int) + ((m : Int) + (m' : Int))
         ·go_wp2
          go_ret
          exact ⟨ret_int (by rw [HK1.out, Hcl.out, HX1.out, if_pos (by omega)]), XB.out.below⟩
         ·have h14' : decide ((14 : Int) < (n : Int) + ((m : Int) + (m' : Int))) = false := qdf h14
          go_wp2
          go_roundg (gko - 1)
          case measure => have := Hj.out; omega
          case rel => exact ⟨i + 1 + 1, m + m', qh (by have := Hj.out; omega), by go_num, by go_num, by omega, qh (by rw [Hcl.out, HX1.out, if_neg (by omega), Nat.add_assoc n m m']), XB⟩
       ·have HX1 : Hid (ckT (prevOf ps (i + 1)) (n + m) (ps.drop (i + 1)) = if 14 < n + m + m' then 2 else ckT (prevOf ps (i + 1 + 1)) (n + m + m') (ps.drop (i + 1 + 1))) := qh (by rw [HX.out, Hpr.out, if_neg (by rw [badPk_gt (u := ⟨pnm, pver, pslot, pfs, pnd⟩) (p := ⟨nm, ver, slot, fs, .mk 3 a2 f2 no2 ks2⟩) h1 h2]; simp)])
        have heq : (nm == pnm) = false := by rw [beq_eq_false_iff_ne]; exact h2
        clear HX h1 h2
        have XB := qh (X5.out.move ((Below.refl _ wc).alloc (qr _) (.cells #[.string ⟨pnm.toArray⟩, .int .i64 pver, .int .i64 pslot, .slice B3 m3 c3, .int .i64 k3, .string ⟨a3.nm.toArray⟩, .int .i64 a3.op, .int .i64 a3.ver, .int .i64 a3.slot, .string ⟨a3.fl.toArray⟩, .bool a3.on, .string ⟨f3.toArray⟩, .bool no3, .slice D3 q3 d3] 101)))
        by_cases h14 : (14 : Int) < (n : Int) + ((m : Int) + (m' : Int))
        ·go_wp2
         go_ret
         exact ⟨ret_int (by rw [HK1.out, Hcl.out, HX1.out, if_pos (by omega)]), XB.out.below⟩
        ·have h14' : decide ((14 : Int) < (n : Int) + ((m : Int) + (m' : Int))) = false := qdf h14
         go_wp2
         go_roundg (gko - 1)
         case measure => have := Hj.out; omega
         case rel => exact ⟨i + 1 + 1, m + m', qh (by have := Hj.out; omega), by go_num, by go_num, by omega, qh (by rw [Hcl.out, HX1.out, if_neg (by omega), Nat.add_assoc n m m']), XB⟩
   ·have z1 : (z != 0) = true := by simpa using z0
    go_wp2
    go_ret
    exact ⟨ret_int (HB.out z (by rw [HKp4.out, if_pos z0]) z0), (XR.out.move P3.out.below).below⟩
  ·have k1 : (k2 != 3) = true := by simpa using k3
   go_wp2
   go_ret
   exact ⟨ret_int (HB.out 4 (by rw [HKp3.out, if_pos k3]) (by decide)), (XR.out.move PR.out.below).below⟩
end
section
open Go.RowKit Qm
theorem rcheckTree_any (ps : List Pk) (S : Nat → Prop) (A : Option Addr) (n c : Nat) (w : World) (hT : RTree w S A n ps) (hnc : n ≤ c) (hc : c ≤ maxLen) (hS : ∀ k, S k → k < w.heap.size) :
  Calls Tryz.prog 65 #[.agg #[.slice A n c]] w fun e w' => e = .returned (.int .i64 (ckTree ps)) ∧ Below w.heap.size w w' := by
 have hl := hT.len
 have HK : Hid (ckTree ps = if 8 < ps.length then 2 else ckT none ps.length ps) := qh rfl
 generalize ckTree ps = R at HK ⊢
 have HT := qh hT; have HS := qh hS; clear hT hS
 have X0 := qh (Tx.new w A n c)
 unfold maxLen at hc
 by_cases n8 : (8 : Int) < n
 ·go_enter Tryz.func65, Tryz.ntmps65
  go_wp2
  go_ret
  exact ⟨ret_int (by rw [HK.out, if_pos (by omega)]), X0.out.below⟩
 have n8' : decide ((8 : Int) < n) = false := qdf n8
 have HK1 : Hid (R = ckT none n ps) := qh (by rw [HK.out, if_neg (by omega), hl])
 clear HK
 go_enter Tryz.func65, Tryz.ntmps65
 go_wp2
 go_loopg [3, 19] n (fun g fv iv wr => ∃ (j m : Nat), Hid (j + g = n) ∧ iv = .int .i64 j ∧ fv = .int .i64 m ∧ n + m ≤ 14 ∧ Hid (ckT none n ps = ckT (prevOf ps j) (n + m) (ps.drop j)) ∧ Hid (Tx w A n c wr))
 case atStart => exact ⟨0, 0, qh (Nat.zero_add _), rfl, rfl, by omega, qh rfl, X0⟩
 case round =>
  obtain ⟨j, m, Hj, rfl, rfl, hm, Hcl, XR⟩ := hrel
  have hJ2 : ctJ w A n c ps _ := ‹∀ (k : Nat) (a' : Act) (w' : World), _ → _›
  by_cases hj : j < n
  ·exact rct_round ps S A n c w HT hnc hc HS R HK1 gk wr _ _ _ _ _ _ _ _ _ _ _ _ _ _ _ _ _ _ _ _ _ _ _ _ _ _ _ _ _ _ _ _ _ _ _ _ _ _ _ _ _ _ _ _ _ _ _ _ _ _ _ _ _ _ _ _ _ _ _ _ _ _ _ _ _ _ _ _ _ _ _ _ _ _ _ _ _ _ _ _ _ _ _ _ _ _ _ _ _ _ _ _ _ _ _ _ _ _ _ _ _ _ _ _ _ _ _ _ _ _ _ _ _ _ _ _ _ _ _ _ _ _ _ _ _ _ _ _ _ _ _ hJ2 (by assumption) j m Hj hm Hcl XR hj
  ·obtain rfl : n = j := by have := Hj.out; omega
   clear hJ2
   go_wp2
   go_ret
   exact ⟨ret_int (by rw [HK1.out, Hcl.out, ckT_done (by omega)]), XR.out.below⟩
end
section
open Go.RowKit Qm
theorem rcset_any (ps : List Pk) (l : List Mem) (S : Nat → Prop) (A B : Option Addr) (n c k d : Nat) (w : World) (hT : RTree w S A n ps) (hn8 : n ≤ 8) (hnc : n ≤ c) (hc : c ≤ maxLen) (hL : RSet w S B k l) (hk : k ≤ maxLen) (hS : ∀ k, S k → k < w.heap.size) :
  Calls Tryz.prog 25 #[.agg #[.slice A n c], .slice B k d] w fun e w' => e = .returned (.int .i64 (ckMs ps none l)) ∧ Below w.heap.size w w' := by
 have Hpl := qh hT.len
 have Hll := qh hL.len
 have X2 := qh (Tx.new w A n c)
 have HT := qh hT; have HS := qh hS; have HL := qh hL; clear hT hS hL
 obtain ⟨R, hR⟩ : ∃ R, R = ckMs ps none l := ⟨_, rfl⟩
 rw [← hR]
 have HK1 := qh hR
 clear hR
 unfold maxLen at hc hk
 go_enter Tryz.func25, Tryz.ntmps25
 go_wp2
 go_loopg [5, 10] k (fun g lv iv wr => ∃ (j : Nat) (la : Int), Hid (j + g = k) ∧ iv = .int .i64 j ∧ lv = .int .i64 la ∧ Hid (∀ q, prevOf (l.map Mem.pl) j = some q → la = q) ∧ Hid (ckMs ps none l = ckMs ps (prevOf (l.map Mem.pl) j) (l.drop j)) ∧ Hid (Tx w A n c wr))
 case atStart => exact ⟨0, -1, qh (Nat.zero_add _), rfl, rfl, qh (fun q h => by rw [prevOf_zero] at h; cases h), qh rfl, X2⟩
 case round =>
  obtain ⟨j, la, Hj, rfl, rfl, Hla, Hcl, XR⟩ := hrel
  clear X2
  by_cases hj : j < k
  ·obtain ⟨b, o, m, E, q, r, rfl, hbS, hm, hqr, hr, hon, g0, g1⟩ := (HL.out.under XR.out.below HS.out).at_ hj
   have Hst := qh (ckMs_step (ps := ps) hm)
   have HMj : Hid (∀ i : Nat, j = i + 1 → ∃ m', l[i]? = some m') := qh fun i hi => ⟨_, qge (by have := Hll.out; omega)⟩
   have Hol := qh hon.len
   have hbl : b < wr.heap.size := ql (HS.out _ hbS) XR.out.below.size
   have X3 := qh (XR.out.move ((Below.refl _ wr).alloc (qr _) (.cells #[.int .i64 m.pl, .slice E q r] 85)))
   have Hmj : Hid (prevOf (l.map Mem.pl) (j + 1) = some m.pl) := qh (prevOf_succ (by rw [qgm, hm]; rfl))
   obtain ⟨pl, on⟩ := m
   dsimp only at g0 g1 Hst Hol X3 Hmj
   clear hm hon
   have t0 := XR.out.whole.cell 0
   simp only [qgz] at t0
   have tlt := XR.out.whole.lt
   by_cases hneg : pl < 0
   ·have HE : Hid (ckMs ps (prevOf (l.map Mem.pl) j) (l.drop j) = 5) := qh (by rw [Hst.out, if_pos (.inl hneg)])
    have hneg' : decide (pl < 0) = true := qdt hneg
    go_wp2
    go_ret
    exact ⟨ret_int (by rw [HK1.out, Hcl.out, HE.out]), X3.out.below⟩
   have hneg' : decide (pl < 0) = false := qdf hneg
   by_cases hpn : (n : Int) ≤ pl
   ·
    have HE : Hid (ckMs ps (prevOf (l.map Mem.pl) j) (l.drop j) = 5) := qh (by rw [Hst.out, if_pos (.inr (by rw [Hpl.out]; exact hpn))])
    have hpn' : decide ((n : Int) ≤ pl) = true := qdt hpn
    go_wp2
    go_ret
    exact ⟨ret_int (by rw [HK1.out, Hcl.out, HE.out]), X3.out.below⟩
   obtain ⟨y, rfl⟩ : ∃ y : Nat, pl = y := ⟨pl.toNat, by omega⟩
   have hyn : y < n := by omega
   obtain ⟨b2, o2, p, D, fn, fc, kd, pa, f, no, F, fq, fd, rfl, hbS2, hp, hP, hcell⟩ := (HT.out.under XR.out.below HS.out).at_ hyn
   have h3 := hcell 3 (by omega)
   unfold pkRow ndRow at h3
   simp only [qgz, qgs] at h3
   have Hfl : Hid ((pkOf ps (y : Int)).fs.length = fn) := qh (by unfold pkOf; rw [Int.toNat_natCast, qgd, hp]; exact hP.fs.len)
   have hbl2 : b2 < wr.heap.size := ql (HS.out _ hbS2) XR.out.below.size
   clear hcell hp hP
   have HSt2 : Hid (ckMs ps (prevOf (l.map Mem.pl) j) (l.drop j) = if badPl (prevOf (l.map Mem.pl) j) (y : Int) = true then 6 else if q ≠ fn then 4 else ckMs ps (prevOf (l.map Mem.pl) (j + 1)) (l.drop (j + 1))) := qh (by
    rw [Hst.out, if_neg (by have := Hpl.out; omega), Hfl.out, Hol.out])
   clear Hst
   have hy0 : (0 : Int) ≤ (y : Int) := by omega
   have hy1 : (y : Int) < n := by omega
   rcases j with _ | i
   ·have HX : Hid (ckMs ps (prevOf (l.map Mem.pl) 0) (l.drop 0) = if q ≠ fn then 4 else ckMs ps (prevOf (l.map Mem.pl) (0 + 1)) (l.drop (0 + 1))) := qh (by rw [HSt2.out, if_neg (by rw [prevOf_zero]; simp [badPl])])
    simp only [Nat.zero_mul, Nat.add_zero] at g0 g1
    by_cases hq : q = fn
    ·have HE : Hid (ckMs ps (prevOf (l.map Mem.pl) 0) (l.drop 0) = ckMs ps (prevOf (l.map Mem.pl) (0 + 1)) (l.drop (0 + 1))) := qh (by rw [HX.out, if_neg (by simpa using hq)])
     subst hq
     go_wp2
     go_quiet (fail)
     go_wp2
     go_roundg (gk - 1)
     case measure => have := Hj.out; omega
     case rel => exact ⟨0 + 1, y, qh (by have := Hj.out; omega), by go_num, rfl, qh (fun q h => by rw [Hmj.out] at h; exact Option.some.inj h), qh (by rw [Hcl.out, HE.out]), qh (X3.out.drew _)⟩
    ·have HE : Hid (ckMs ps (prevOf (l.map Mem.pl) 0) (l.drop 0) = 4) := qh (by rw [HX.out, if_pos hq])
     have hq' : ((q : Int) != (fn : Int)) = true := by simp; omega
     go_wp2
     go_quiet (fail)
     go_wp2
     go_ret
     exact ⟨ret_int (by rw [HK1.out, Hcl.out, HE.out]), below_drewN X3.out.below _⟩
   ·obtain ⟨b', o', m', E', q', r', e, _, hm', _, _, _, k0, _⟩ := (HL.out.under XR.out.below HS.out).at_ (j := i) (by omega)
    injection e with e; injection e with e1 e2; subst e1 e2
    have Hpr : Hid (prevOf (l.map Mem.pl) (i + 1) = some m'.pl) := qh (prevOf_succ (by rw [qgm, hm']; rfl))
    have HSt3 : Hid (ckMs ps (prevOf (l.map Mem.pl) (i + 1)) (l.drop (i + 1)) = if badPl (some m'.pl) (y : Int) = true then 6 else if q ≠ fn then 4 else ckMs ps (prevOf (l.map Mem.pl) (i + 1 + 1)) (l.drop (i + 1 + 1))) := qh (by rw [HSt2.out, Hpr.out])
    have hla : m'.pl = la := (Hla.out _ Hpr.out).symm
    rw [hla] at HSt3
    clear hm' HSt2 hla k0
    have hwr : IntKind.i64.wrap ((i : Int) + 1 - 1) = (i : Int) := by rw [IntKind.wrap_i64]; omega
    have hwr0 : IntKind.i64.wrap (i : Int) = (i : Int) := by rw [IntKind.wrap_i64]; omega
    have hin : i < k := by omega
    have hin2 : (i : Int) < k := by omega
    have hin3 : (0 : Int) < (i : Int) + 1 := by omega
    by_cases hb : (y : Int) ≤ la
    ·have HE : Hid (ckMs ps (prevOf (l.map Mem.pl) (i + 1)) (l.drop (i + 1)) = 6) := qh (by rw [HSt3.out, if_pos (by simpa [badPl] using hb)])
     have hb' : decide ((y : Int) ≤ la) = true := qdt hb
     go_wp2
     go_ret
     exact ⟨ret_int (by rw [HK1.out, Hcl.out, HE.out]), X3.out.below⟩
    ·have HX : Hid (ckMs ps (prevOf (l.map Mem.pl) (i + 1)) (l.drop (i + 1)) = if q ≠ fn then 4 else ckMs ps (prevOf (l.map Mem.pl) (i + 1 + 1)) (l.drop (i + 1 + 1))) := qh (by rw [HSt3.out, if_neg (by simpa [badPl] using hb)])
     have hb' : decide ((y : Int) ≤ la) = false := qdf hb
     by_cases hq : q = fn
     ·have HE : Hid (ckMs ps (prevOf (l.map Mem.pl) (i + 1)) (l.drop (i + 1)) = ckMs ps (prevOf (l.map Mem.pl) ((i + 1) + 1)) (l.drop ((i + 1) + 1))) := qh (by rw [HX.out, if_neg (by simpa using hq)])
      subst hq
      go_wp2
      go_quiet (fail)
      go_wp2
      go_roundg (gk - 1)
      case measure => have := Hj.out; omega
      case rel => exact ⟨(i + 1) + 1, y, qh (by have := Hj.out; omega), by go_num, rfl, qh (fun q h => by rw [Hmj.out] at h; exact Option.some.inj h), qh (by rw [Hcl.out, HE.out]), qh (X3.out.drew _)⟩
     ·have HE : Hid (ckMs ps (prevOf (l.map Mem.pl) (i + 1)) (l.drop (i + 1)) = 4) := qh (by rw [HX.out, if_pos hq])
      have hq' : ((q : Int) != (fn : Int)) = true := by simp; omega
      go_wp2
      go_quiet (fail)
      go_wp2
      go_ret
      exact ⟨ret_int (by rw [HK1.out, Hcl.out, HE.out]), below_drewN X3.out.below _⟩
  ·obtain rfl : k = j := by have := Hj.out; omega
   go_wp2
   go_ret
   exact ⟨ret_int (by rw [HK1.out, Hcl.out, ckMs_done (by have := Hll.out; omega)]), XR.out.below⟩
end
end Go.Proofs.YtedbhlgjcnnknaaGreatDoor
