/- Parts of the proof: walks and plain laws, side by side. -/
import Derived.Test.YthpkffeiehnamaaGreatDoorM16
import Derived.Test.YthpkffeiehnamaaGreatDoorM31
import Derived.Test.YthpkffeiehnamaaGreatDoorM11
import Derived.Test.YthpkffeiehnamaaGreatDoorM15
import Derived.Test.YthpkffeiehnamaaGreatDoorM17
import Derived.Test.YthpkffeiehnamaaGreatDoorProg
import Derived.Test.YthpkffeiehnamaaGreatDoorM30
set_option linter.unusedVariables false
set_option linter.unusedSimpArgs false
set_option linter.unusedSectionVars false
/- quartermasterref.TreeText, walked. -/
namespace Go.Proofs.YthpkffeiehnamaaGreatDoor
open Go.RowKit Qm

theorem joinB5 (a b c d e : Qm.W) : joinB 32 [a, b, c, d, e] = a ++ (32 :: b ++ (32 :: c ++ (32 :: d ++ (32 :: e)))) := rfl
set_option maxRecDepth 100000 in
set_option maxHeartbeats 6400000 in
theorem rttext_any (ps : List Pk) (S : Nat → Prop) (A : Option Addr) (n c : Nat) (w : World) (hT : RTree w S A n ps) (hck : ckTree ps = 0) (hnc : n ≤ c) (hc : c ≤ maxLen) (hS : ∀ k, S k → k < w.heap.size) (hL : LaidV w) :
    Calls Tryz.prog 21 #[.agg #[.slice A n c]] w fun e w' => e = .returned (.string ⟨(treeText ps).toArray⟩) ∧ Below w.heap.size w w' := by
  have hl := hT.len
  have HLV := Lib.hid hL; clear hL
  have X2 := Lib.hid (Tx.new w A n c)
  have HT := Lib.hid hT; have HS := Lib.hid hS; clear hT hS
  have HOK : Hid (∀ p ∈ ps, PkOk p) := Lib.hid fun p hp => pkOk (ckTree_mem hck p hp)
  have hn8 : n ≤ 8 := by rw [← hl]; exact ckTree_len hck
  obtain ⟨P, hP⟩ : ∃ P, P = treeText ps := ⟨_, rfl⟩
  rw [← hP]
  have HP1 := Lib.hid hP
  clear hP hck
  unfold maxLen at hc
  have t0 := X2.out.whole.cell 0
  simp only [List.getElem?_cons_zero] at t0
  have tlt := X2.out.whole.lt
  go_enter Tryz.func21, Tryz.ntmps21
  go_wp2
  clear t0 tlt
  go_loopg [3, 9] n (fun g sv iv wr => ∃ j : Nat, Hid (j + g = n) ∧ iv = .int .i64 j ∧ sv = .string ⟨(treeText (ps.take j)).toArray⟩ ∧ Hid (Tx w A n c wr))
  case atStart => exact ⟨0, Lib.hid (Nat.zero_add _), rfl, rfl, X2⟩
  case round =>
    obtain ⟨j, Hj, rfl, rfl, XR⟩ := hrel
    clear X2
    by_cases hj : j < n
    · obtain ⟨b, o, p, D, m, c', k, a, f, no, E, q, d, rfl, hbS, hp, hPk, hcell⟩ := (HT.out.under XR.out.below HS.out).at_ hj
      have HTX : Hid (treeText (ps.take (j + 1)) = treeText (ps.take j) ++ (pkLine p ++ [10])) := Lib.hid (by rw [take_snocT hp, treeText_snoc])
      have hok := HOK.out p (List.mem_of_getElem? hp)
      have HLN : Hid ((treeText (ps.take j)).length ≤ 50000 ∧ (pkLine p).length ≤ 5000) := Lib.hid ⟨by
        have := treeText_len (ps := ps.take j) fun x hx => HOK.out x (List.mem_of_mem_take hx)
        have h2 : (ps.take j).length ≤ 8 := by rw [List.length_take]; omega
        omega, pkLine_len hok⟩
      have g0 := hcell 0 (by omega); have g1 := hcell 1 (by omega); have g2 := hcell 2 (by omega); have g3 := hcell 3 (by omega); have g4 := hcell 4 (by omega); have g5 := hcell 5 (by omega); have g6 := hcell 6 (by omega); have g7 := hcell 7 (by omega); have g8 := hcell 8 (by omega); have g9 := hcell 9 (by omega); have g10 := hcell 10 (by omega); have g11 := hcell 11 (by omega); have g12 := hcell 12 (by omega); have g13 := hcell 13 (by omega)
      unfold pkRow ndRow at g0 g1 g2 g3 g4 g5 g6 g7 g8 g9 g10 g11 g12 g13
      simp only [List.getElem?_cons_zero, List.getElem?_cons_succ, Nat.add_zero] at g0 g1 g2 g3 g4 g5 g6 g7 g8 g9 g10 g11 g12 g13
      clear hcell hp
      have B5 := Lib.hid (Pb.new wr (pkRow p D m c' (ndRow k a f no E q d)))
      have hSr : ∀ x, S x → x < wr.heap.size := fun x hx => Nat.lt_of_lt_of_le (HS.out x hx) XR.out.below.size
      have hnt := fun wx h1 h2 => rntext_any p.nd S (ndRow k a f no E q d) wx h1 h2 (ckNeed_zero hok.nd).2.2 (ckNeed_zero hok.nd).2.1
      rw [← ndText_rtx (ckNeed_zero hok.nd).2.2] at hnt
      have HND := Lib.hid hPk.nd
      have HFS := Lib.hid (hPk.fs)
      have hcap := hPk.cap
      have hmax := hPk.max
      have HFL := Lib.hid (fullLen_fs (ckFlags_names hok.fs) hok.len)
      have hv := hok.ver; have hsl := hok.slot
      have hnl := (isName_len hok.nm).2
      have hnt5 := ndText_len hok.nd
      have HPL : Hid (pkLine p = joinB 32 [p.nm, Lib.itoa p.ver, Lib.itoa p.slot, joinB 44 p.fs, ndText p.nd]) := Lib.hid rfl
      obtain ⟨nm, ver, slot, fs, nd⟩ := p
      dsimp only at g0 g1 g2 g3 hnt HFS HPL HFL hv hsl HND hnl hnt5
      unfold pkRow ndRow at B5
      unfold ndRow at hnt HND
      dsimp only at B5
      have Hnt := Lib.hid hnt
      have HSR := Lib.hid hSr
      clear hnt hSr hPk hok
      generalize pkLine ⟨nm, ver, slot, fs, nd⟩ = ln at HTX HLN HPL
      generalize ndText nd = tn at Hnt HPL hnt5
      have Hjo := Lib.hid (fun wx h1 h2 => joinW_any D m c' fs wx S h1 h2 hcap 44 HFL.out)
      have t0 := XR.out.whole.cell 0
      simp only [List.getElem?_cons_zero] at t0
      have tlt := XR.out.whole.lt
      have hbl : b < wr.heap.size := HSR.out b hbS
      unfold maxLen at hmax
      go_upto_region 5 with fail
      clear g0 g1 g2 g3 g4 g5 g6 g7 g8 g9 g10 g11 g12 g13
      have p0 := B5.out.whole.cell 0; have p1 := B5.out.whole.cell 1; have p2 := B5.out.whole.cell 2; have p3 := B5.out.whole.cell 3; have p4 := B5.out.whole.cell 4; have p5 := B5.out.whole.cell 5; have p6 := B5.out.whole.cell 6; have p7 := B5.out.whole.cell 7; have p8 := B5.out.whole.cell 8; have p9 := B5.out.whole.cell 9; have p10 := B5.out.whole.cell 10; have p11 := B5.out.whole.cell 11; have p12 := B5.out.whole.cell 12; have p13 := B5.out.whole.cell 13
      simp only [List.getElem?_cons_zero, List.getElem?_cons_succ] at p0 p1 p2 p3 p4 p5 p6 p7 p8 p9 p10 p11 p12 p13
      generalize joinB 44 fs = J at *
      refine wp_region_held_drew (S := (fun w' => w'.cell? ⟨wr.heap.size, 0, none⟩ = some (.string ⟨nm.toArray⟩) ∧ w'.cell? ⟨wr.heap.size, 1, none⟩ = some (.int .i64 ver) ∧ w'.cell? ⟨wr.heap.size, 2, none⟩ = some (.int .i64 slot) ∧ w'.cell? ⟨wr.heap.size, 3, none⟩ = some (.slice D m c') ∧ w'.cell? ⟨wr.heap.size, 4, none⟩ = some (.int .i64 k) ∧ w'.cell? ⟨wr.heap.size, 5, none⟩ = some (.string ⟨a.nm.toArray⟩) ∧ w'.cell? ⟨wr.heap.size, 6, none⟩ = some (.int .i64 a.op) ∧ w'.cell? ⟨wr.heap.size, 7, none⟩ = some (.int .i64 a.ver) ∧ w'.cell? ⟨wr.heap.size, 8, none⟩ = some (.int .i64 a.slot) ∧ w'.cell? ⟨wr.heap.size, 9, none⟩ = some (.string ⟨a.fl.toArray⟩) ∧ w'.cell? ⟨wr.heap.size, 10, none⟩ = some (.bool a.on) ∧ w'.cell? ⟨wr.heap.size, 11, none⟩ = some (.string ⟨f.toArray⟩) ∧ w'.cell? ⟨wr.heap.size, 12, none⟩ = some (.bool no) ∧ w'.cell? ⟨wr.heap.size, 13, none⟩ = some (.slice E q d))) (by kernel_rfl) (⟨p0, p1, p2, p3, p4, p5, p6, p7, p8, p9, p10, p11, p12, p13⟩) (fun hHeld => ?_)
      first
      | (refine wpAnyH_take (i := 0) (v := ?_) held_at0 (by kernel_rfl) (by kernel_rfl) (by kernel_rfl) (fun _ _ _ h => h) (Or.inl ⟨by rfl, ?_⟩) (by assumption) ?_
         rotate_left
         · (intro w_ hSw; (try dsimp only at hSw); go_simp; (try with_reducible rfl))
         (try simp only [Act.put, List.setIfInBounds_toArray, List.set_cons_zero, List.set_cons_succ]))
      | (refine wpAnyH_take (i := 0) (v := undef) held_at0 (by kernel_rfl) (by kernel_rfl) (by kernel_rfl) (fun _ _ _ h => h) (Or.inr ⟨by rfl, rfl⟩) (by assumption) ?_
         (try simp only [Act.put, List.setIfInBounds_toArray, List.set_cons_zero, List.set_cons_succ]))
      first
      | (refine wpAnyH_take (i := 1) (v := ?_) held_at1 (by kernel_rfl) (by kernel_rfl) (by kernel_rfl) (fun _ _ _ h => h) (Or.inl ⟨by rfl, ?_⟩) (by assumption) ?_
         rotate_left
         · (intro w_ hSw; (try dsimp only at hSw); go_simp; (try with_reducible rfl))
         (try simp only [Act.put, List.setIfInBounds_toArray, List.set_cons_zero, List.set_cons_succ]))
      | (refine wpAnyH_take (i := 1) (v := undef) held_at1 (by kernel_rfl) (by kernel_rfl) (by kernel_rfl) (fun _ _ _ h => h) (Or.inr ⟨by rfl, rfl⟩) (by assumption) ?_
         (try simp only [Act.put, List.setIfInBounds_toArray, List.set_cons_zero, List.set_cons_succ]))
      first
      | (refine wpAnyH_take (i := 2) (v := ?_) held_at2 (by kernel_rfl) (by kernel_rfl) (by kernel_rfl) (fun _ _ _ h => h) (Or.inl ⟨by rfl, ?_⟩) (by assumption) ?_
         rotate_left
         · (intro w_ hSw; (try dsimp only at hSw); go_simp; (try with_reducible rfl))
         (try simp only [Act.put, List.setIfInBounds_toArray, List.set_cons_zero, List.set_cons_succ]))
      | (refine wpAnyH_take (i := 2) (v := undef) held_at2 (by kernel_rfl) (by kernel_rfl) (by kernel_rfl) (fun _ _ _ h => h) (Or.inr ⟨by rfl, rfl⟩) (by assumption) ?_
         (try simp only [Act.put, List.setIfInBounds_toArray, List.set_cons_zero, List.set_cons_succ]))
      first
      | (refine wpAnyH_take (i := 3) (v := ?_) held_at3 (by kernel_rfl) (by kernel_rfl) (by kernel_rfl) (fun _ _ _ h => h) (Or.inl ⟨by rfl, ?_⟩) (by assumption) ?_
         rotate_left
         · (intro w_ hSw; (try dsimp only at hSw); go_simp; (try with_reducible rfl))
         (try simp only [Act.put, List.setIfInBounds_toArray, List.set_cons_zero, List.set_cons_succ]))
      | (refine wpAnyH_take (i := 3) (v := undef) held_at3 (by kernel_rfl) (by kernel_rfl) (by kernel_rfl) (fun _ _ _ h => h) (Or.inr ⟨by rfl, rfl⟩) (by assumption) ?_
         (try simp only [Act.put, List.setIfInBounds_toArray, List.set_cons_zero, List.set_cons_succ]))
      first
      | (refine wpAnyH_take (i := 4) (v := ?_) held_at4 (by kernel_rfl) (by kernel_rfl) (by kernel_rfl) (fun _ _ _ h => h) (Or.inl ⟨by rfl, ?_⟩) (by assumption) ?_
         rotate_left
         · (intro w_ hSw; (try dsimp only at hSw); go_simp; (try with_reducible rfl))
         (try simp only [Act.put, List.setIfInBounds_toArray, List.set_cons_zero, List.set_cons_succ]))
      | (refine wpAnyH_take (i := 4) (v := undef) held_at4 (by kernel_rfl) (by kernel_rfl) (by kernel_rfl) (fun _ _ _ h => h) (Or.inr ⟨by rfl, rfl⟩) (by assumption) ?_
         (try simp only [Act.put, List.setIfInBounds_toArray, List.set_cons_zero, List.set_cons_succ]))
      first
      | (refine wpAnyH_take (i := 6) (v := ?_) held_at6 (by kernel_rfl) (by kernel_rfl) (by kernel_rfl) (fun _ _ _ h => h) (Or.inl ⟨by rfl, ?_⟩) (by assumption) ?_
         rotate_left
         · (intro w_ hSw; (try dsimp only at hSw); go_simp; (try with_reducible rfl))
         (try simp only [Act.put, List.setIfInBounds_toArray, List.set_cons_zero, List.set_cons_succ]))
      | (refine wpAnyH_take (i := 6) (v := undef) held_at6 (by kernel_rfl) (by kernel_rfl) (by kernel_rfl) (fun _ _ _ h => h) (Or.inr ⟨by rfl, rfl⟩) (by assumption) ?_
         (try simp only [Act.put, List.setIfInBounds_toArray, List.set_cons_zero, List.set_cons_succ]))
      first
      | (refine wpAnyH_take (i := 7) (v := ?_) held_at7 (by kernel_rfl) (by kernel_rfl) (by kernel_rfl) (fun _ _ _ h => h) (Or.inl ⟨by rfl, ?_⟩) (by assumption) ?_
         rotate_left
         · (intro w_ hSw; (try dsimp only at hSw); go_simp; (try with_reducible rfl))
         (try simp only [Act.put, List.setIfInBounds_toArray, List.set_cons_zero, List.set_cons_succ]))
      | (refine wpAnyH_take (i := 7) (v := undef) held_at7 (by kernel_rfl) (by kernel_rfl) (by kernel_rfl) (fun _ _ _ h => h) (Or.inr ⟨by rfl, rfl⟩) (by assumption) ?_
         (try simp only [Act.put, List.setIfInBounds_toArray, List.set_cons_zero, List.set_cons_succ]))
      first
      | (refine wpAnyH_take (i := 9) (v := ?_) held_at9 (by kernel_rfl) (by kernel_rfl) (by kernel_rfl) (fun _ _ _ h => h) (Or.inl ⟨by rfl, ?_⟩) (by assumption) ?_
         rotate_left
         · (intro w_ hSw; (try dsimp only at hSw); go_simp; (try with_reducible rfl))
         (try simp only [Act.put, List.setIfInBounds_toArray, List.set_cons_zero, List.set_cons_succ]))
      | (refine wpAnyH_take (i := 9) (v := undef) held_at9 (by kernel_rfl) (by kernel_rfl) (by kernel_rfl) (fun _ _ _ h => h) (Or.inr ⟨by rfl, rfl⟩) (by assumption) ?_
         (try simp only [Act.put, List.setIfInBounds_toArray, List.set_cons_zero, List.set_cons_succ]))
      first
      | (refine wpAnyH_take (i := 10) (v := ?_) held_at10 (by kernel_rfl) (by kernel_rfl) (by kernel_rfl) (fun _ _ _ h => h) (Or.inl ⟨by rfl, ?_⟩) (by assumption) ?_
         rotate_left
         · (intro w_ hSw; (try dsimp only at hSw); go_simp; (try with_reducible rfl))
         (try simp only [Act.put, List.setIfInBounds_toArray, List.set_cons_zero, List.set_cons_succ]))
      | (refine wpAnyH_take (i := 10) (v := undef) held_at10 (by kernel_rfl) (by kernel_rfl) (by kernel_rfl) (fun _ _ _ h => h) (Or.inr ⟨by rfl, rfl⟩) (by assumption) ?_
         (try simp only [Act.put, List.setIfInBounds_toArray, List.set_cons_zero, List.set_cons_succ]))
      first
      | (refine wpAnyH_take (i := 12) (v := ?_) held_at12 (by kernel_rfl) (by kernel_rfl) (by kernel_rfl) (fun _ _ _ h => h) (Or.inl ⟨by rfl, ?_⟩) (by assumption) ?_
         rotate_left
         · (intro w_ hSw; (try dsimp only at hSw); go_simp; (try with_reducible rfl))
         (try simp only [Act.put, List.setIfInBounds_toArray, List.set_cons_zero, List.set_cons_succ]))
      | (refine wpAnyH_take (i := 12) (v := undef) held_at12 (by kernel_rfl) (by kernel_rfl) (by kernel_rfl) (fun _ _ _ h => h) (Or.inr ⟨by rfl, rfl⟩) (by assumption) ?_
         (try simp only [Act.put, List.setIfInBounds_toArray, List.set_cons_zero, List.set_cons_succ]))
      first
      | (refine wpAnyH_take (i := 13) (v := ?_) held_at13 (by kernel_rfl) (by kernel_rfl) (by kernel_rfl) (fun _ _ _ h => h) (Or.inl ⟨by rfl, ?_⟩) (by assumption) ?_
         rotate_left
         · (intro w_ hSw; (try dsimp only at hSw); go_simp; (try with_reducible rfl))
         (try simp only [Act.put, List.setIfInBounds_toArray, List.set_cons_zero, List.set_cons_succ]))
      | (refine wpAnyH_take (i := 13) (v := undef) held_at13 (by kernel_rfl) (by kernel_rfl) (by kernel_rfl) (fun _ _ _ h => h) (Or.inr ⟨by rfl, rfl⟩) (by assumption) ?_
         (try simp only [Act.put, List.setIfInBounds_toArray, List.set_cons_zero, List.set_cons_succ]))
      refine wpAnyH_ready (rs := [5]) (by kernel_rfl) (by simp) ?_
      refine AllReadyH.cons held_at5 (fun K hK => ?_) AllReadyH.nil
      (try simp only [List.setIfInBounds_toArray, List.set_cons_zero, List.set_cons_succ])
      go_simp
      go_at_call 40
      refine (itoa_any _ _ (by omega) (by omega) (by (first | exact HLV.out.below (XR.out.move (B5.out).below).below | exact HLV.out.below (XR.out.move ((B5.out.move (below_drewN (Below.refl _ _) _))).below).below))).mono ?_
      rintro e wn ⟨rfl, hb⟩
      (first | replace B5 := Lib.hid (B5.out.move hb) | replace B5 := Lib.hid (B5.out.move ((below_drewN (Below.refl _ _) _).trans hb))); clear hb; clear p0 p1 p2 p3 p4 p5 p6 p7 p8 p9 p10 p11 p12 p13; have p0 := B5.out.whole.cell 0; have p1 := B5.out.whole.cell 1; have p2 := B5.out.whole.cell 2; have p3 := B5.out.whole.cell 3; have p4 := B5.out.whole.cell 4; have p5 := B5.out.whole.cell 5; have p6 := B5.out.whole.cell 6; have p7 := B5.out.whole.cell 7; have p8 := B5.out.whole.cell 8; have p9 := B5.out.whole.cell 9; have p10 := B5.out.whole.cell 10; have p11 := B5.out.whole.cell 11; have p12 := B5.out.whole.cell 12; have p13 := B5.out.whole.cell 13; simp only [List.getElem?_cons_zero, List.getElem?_cons_succ] at p0 p1 p2 p3 p4 p5 p6 p7 p8 p9 p10 p11 p12 p13
      refine hK.out _ _ (⟨p0, p1, p2, p3, p4, p5, p6, p7, p8, p9, p10, p11, p12, p13⟩) (fun hHeld => ?_)
      clear hK K
      (try simp only [Act.put, List.setIfInBounds_toArray, List.set_cons_zero, List.set_cons_succ])
      refine wpAnyH_ready (rs := [8]) (by kernel_rfl) (by simp) ?_
      refine AllReadyH.cons held_at8 (fun K hK => ?_) AllReadyH.nil
      (try simp only [List.setIfInBounds_toArray, List.set_cons_zero, List.set_cons_succ])
      go_simp
      go_at_call 40
      refine (itoa_any _ _ (by omega) (by omega) (by (first | exact HLV.out.below (XR.out.move (B5.out).below).below | exact HLV.out.below (XR.out.move ((B5.out.move (below_drewN (Below.refl _ _) _))).below).below))).mono ?_
      rintro e wn ⟨rfl, hb⟩
      (first | replace B5 := Lib.hid (B5.out.move hb) | replace B5 := Lib.hid (B5.out.move ((below_drewN (Below.refl _ _) _).trans hb))); clear hb; clear p0 p1 p2 p3 p4 p5 p6 p7 p8 p9 p10 p11 p12 p13; have p0 := B5.out.whole.cell 0; have p1 := B5.out.whole.cell 1; have p2 := B5.out.whole.cell 2; have p3 := B5.out.whole.cell 3; have p4 := B5.out.whole.cell 4; have p5 := B5.out.whole.cell 5; have p6 := B5.out.whole.cell 6; have p7 := B5.out.whole.cell 7; have p8 := B5.out.whole.cell 8; have p9 := B5.out.whole.cell 9; have p10 := B5.out.whole.cell 10; have p11 := B5.out.whole.cell 11; have p12 := B5.out.whole.cell 12; have p13 := B5.out.whole.cell 13; simp only [List.getElem?_cons_zero, List.getElem?_cons_succ] at p0 p1 p2 p3 p4 p5 p6 p7 p8 p9 p10 p11 p12 p13
      refine hK.out _ _ (⟨p0, p1, p2, p3, p4, p5, p6, p7, p8, p9, p10, p11, p12, p13⟩) (fun hHeld => ?_)
      clear hK K
      (try simp only [Act.put, List.setIfInBounds_toArray, List.set_cons_zero, List.set_cons_succ])
      refine wpAnyH_ready (rs := [11]) (by kernel_rfl) (by simp) ?_
      refine AllReadyH.cons held_at11 (fun K hK => ?_) AllReadyH.nil
      (try simp only [List.setIfInBounds_toArray, List.set_cons_zero, List.set_cons_succ])
      go_simp
      go_at_call 41
      refine (Hjo.out _ (by (first | exact HFS.out.row.below (B5.out).below HSR.out | exact HFS.out.row.below ((B5.out.move (below_drewN (Below.refl _ _) _))).below HSR.out)) (by (first | exact fun k hk => Nat.lt_of_lt_of_le (HSR.out k hk) (B5.out).below.size | exact fun k hk => Nat.lt_of_lt_of_le (HSR.out k hk) ((B5.out.move (below_drewN (Below.refl _ _) _))).below.size))).mono ?_
      rintro e wn ⟨rfl, hb⟩
      (first | replace B5 := Lib.hid (B5.out.move hb) | replace B5 := Lib.hid (B5.out.move ((below_drewN (Below.refl _ _) _).trans hb))); clear hb; clear p0 p1 p2 p3 p4 p5 p6 p7 p8 p9 p10 p11 p12 p13; have p0 := B5.out.whole.cell 0; have p1 := B5.out.whole.cell 1; have p2 := B5.out.whole.cell 2; have p3 := B5.out.whole.cell 3; have p4 := B5.out.whole.cell 4; have p5 := B5.out.whole.cell 5; have p6 := B5.out.whole.cell 6; have p7 := B5.out.whole.cell 7; have p8 := B5.out.whole.cell 8; have p9 := B5.out.whole.cell 9; have p10 := B5.out.whole.cell 10; have p11 := B5.out.whole.cell 11; have p12 := B5.out.whole.cell 12; have p13 := B5.out.whole.cell 13; simp only [List.getElem?_cons_zero, List.getElem?_cons_succ] at p0 p1 p2 p3 p4 p5 p6 p7 p8 p9 p10 p11 p12 p13
      refine hK.out _ _ (⟨p0, p1, p2, p3, p4, p5, p6, p7, p8, p9, p10, p11, p12, p13⟩) (fun hHeld => ?_)
      clear hK K
      (try simp only [Act.put, List.setIfInBounds_toArray, List.set_cons_zero, List.set_cons_succ])
      refine wpAnyH_ready (rs := [14]) (by kernel_rfl) (by simp) ?_
      refine AllReadyH.cons held_at14 (fun K hK => ?_) AllReadyH.nil
      (try simp only [List.setIfInBounds_toArray, List.set_cons_zero, List.set_cons_succ])
      go_simp
      go_at_call 57
      refine (Hnt.out _ (by (first | exact HND.out.under (B5.out).below HSR.out | exact HND.out.under ((B5.out.move (below_drewN (Below.refl _ _) _))).below HSR.out)) (by (first | exact fun k hk => Nat.lt_of_lt_of_le (HSR.out k hk) (B5.out).below.size | exact fun k hk => Nat.lt_of_lt_of_le (HSR.out k hk) ((B5.out.move (below_drewN (Below.refl _ _) _))).below.size))).mono ?_
      rintro e wn ⟨rfl, hb⟩
      (first | replace B5 := Lib.hid (B5.out.move hb) | replace B5 := Lib.hid (B5.out.move ((below_drewN (Below.refl _ _) _).trans hb))); clear hb; clear p0 p1 p2 p3 p4 p5 p6 p7 p8 p9 p10 p11 p12 p13; have p0 := B5.out.whole.cell 0; have p1 := B5.out.whole.cell 1; have p2 := B5.out.whole.cell 2; have p3 := B5.out.whole.cell 3; have p4 := B5.out.whole.cell 4; have p5 := B5.out.whole.cell 5; have p6 := B5.out.whole.cell 6; have p7 := B5.out.whole.cell 7; have p8 := B5.out.whole.cell 8; have p9 := B5.out.whole.cell 9; have p10 := B5.out.whole.cell 10; have p11 := B5.out.whole.cell 11; have p12 := B5.out.whole.cell 12; have p13 := B5.out.whole.cell 13; simp only [List.getElem?_cons_zero, List.getElem?_cons_succ] at p0 p1 p2 p3 p4 p5 p6 p7 p8 p9 p10 p11 p12 p13
      refine hK.out _ _ (⟨p0, p1, p2, p3, p4, p5, p6, p7, p8, p9, p10, p11, p12, p13⟩) (fun hHeld => ?_)
      clear hK K
      (try simp only [Act.put, List.setIfInBounds_toArray, List.set_cons_zero, List.set_cons_succ])
      refine wpAnyH_ready (rs := [15]) (by kernel_rfl) (by simp) ?_
      refine AllReadyH.cons held_at15 (fun K hK => ?_) AllReadyH.nil
      (try simp only [List.setIfInBounds_toArray, List.set_cons_zero, List.set_cons_succ])
      go_simp
      skip
      have hal := (Below.refl wn.heap.size wn).alloc (Nat.le_refl _) (.cells #[.string ⟨nm.toArray⟩, .string ⟨(Lib.itoa ver).toArray⟩, .string ⟨(Lib.itoa slot).toArray⟩, .string ⟨J.toArray⟩, .string ⟨tn.toArray⟩] 9)
      have hW5 := Whole.new wn wn.heap.size 9 [.string ⟨nm.toArray⟩, .string ⟨(Lib.itoa ver).toArray⟩, .string ⟨(Lib.itoa slot).toArray⟩, .string ⟨J.toArray⟩, .string ⟨tn.toArray⟩] rfl
      have hsum : nm.length + (Lib.itoa ver).length + (Lib.itoa slot).length + J.length + tn.length + 4 = ln.length := by rw [HPL.out, joinB5]; simp; omega
      have hl1 := HLN.out.1
      have hl2 := HLN.out.2
      have hj5 := joinW_any (some ⟨wn.heap.size, 0, none⟩) 5 5 [nm, Lib.itoa ver, Lib.itoa slot, J, tn] _ (fun k => k = wn.heap.size) (hW5.row (S := fun k => k = wn.heap.size) rfl rfl) (fun k hk => by rw [hk]; exact hW5.lt) (Nat.le_refl _) 32 (by unfold fullLen; simp [List.foldr]; omega)
      rw [← HPL.out] at hj5
      have Hj5 := Lib.hid hj5
      replace B5 := Lib.hid (B5.out.move hal)
      have hs1 := fun wx => sadd ln [10] (by simp; omega) wx
      have hs2 := fun wx => sadd (treeText (ps.take j)) (ln ++ [10]) (by simp; omega) wx
      rw [show ([10] : Qm.W).toArray = #[10] from rfl] at hs1
      rw [← HTX.out] at hs2
      clear hal hW5 hj5 hsum hl1 hl2
      generalize ln ++ [10] = L9 at hs1 hs2
      clear p0 p1 p2 p3 p4 p5 p6 p7 p8 p9 p10 p11 p12 p13
      have p0 := B5.out.whole.cell 0; have p1 := B5.out.whole.cell 1; have p2 := B5.out.whole.cell 2; have p3 := B5.out.whole.cell 3; have p4 := B5.out.whole.cell 4; have p5 := B5.out.whole.cell 5; have p6 := B5.out.whole.cell 6; have p7 := B5.out.whole.cell 7; have p8 := B5.out.whole.cell 8; have p9 := B5.out.whole.cell 9; have p10 := B5.out.whole.cell 10; have p11 := B5.out.whole.cell 11; have p12 := B5.out.whole.cell 12; have p13 := B5.out.whole.cell 13
      simp only [List.getElem?_cons_zero, List.getElem?_cons_succ] at p0 p1 p2 p3 p4 p5 p6 p7 p8 p9 p10 p11 p12 p13
      refine hK.out _ _ ⟨p0, p1, p2, p3, p4, p5, p6, p7, p8, p9, p10, p11, p12, p13⟩ (fun hHeld => ?_)
      clear hK K
      (try simp only [Act.put, List.setIfInBounds_toArray, List.set_cons_zero, List.set_cons_succ])
      refine wpAnyH_ready (rs := [16]) (by kernel_rfl) (by simp) ?_
      refine AllReadyH.cons held_at16 (fun K hK => ?_) AllReadyH.nil
      (try simp only [List.setIfInBounds_toArray, List.set_cons_zero, List.set_cons_succ])
      go_simp
      go_at_call 41
      refine Hj5.out.mono ?_
      rintro e wn ⟨rfl, hb⟩
      (first | replace B5 := Lib.hid (B5.out.move hb) | replace B5 := Lib.hid (B5.out.move ((below_drewN (Below.refl _ _) _).trans hb))); clear hb; clear p0 p1 p2 p3 p4 p5 p6 p7 p8 p9 p10 p11 p12 p13; have p0 := B5.out.whole.cell 0; have p1 := B5.out.whole.cell 1; have p2 := B5.out.whole.cell 2; have p3 := B5.out.whole.cell 3; have p4 := B5.out.whole.cell 4; have p5 := B5.out.whole.cell 5; have p6 := B5.out.whole.cell 6; have p7 := B5.out.whole.cell 7; have p8 := B5.out.whole.cell 8; have p9 := B5.out.whole.cell 9; have p10 := B5.out.whole.cell 10; have p11 := B5.out.whole.cell 11; have p12 := B5.out.whole.cell 12; have p13 := B5.out.whole.cell 13; simp only [List.getElem?_cons_zero, List.getElem?_cons_succ] at p0 p1 p2 p3 p4 p5 p6 p7 p8 p9 p10 p11 p12 p13
      refine hK.out _ _ (⟨p0, p1, p2, p3, p4, p5, p6, p7, p8, p9, p10, p11, p12, p13⟩) (fun hHeld => ?_)
      clear hK K
      (try simp only [Act.put, List.setIfInBounds_toArray, List.set_cons_zero, List.set_cons_succ])
      first
      | (refine wpAnyH_take (i := 17) (v := ?_) held_at17 (by kernel_rfl) (by kernel_rfl) (by kernel_rfl) (fun _ _ _ h => h) (Or.inl ⟨by rfl, ?_⟩) (by assumption) ?_
         rotate_left
         · (intro w_ hSw; (try dsimp only at hSw); go_simp; (try with_reducible rfl))
         (try simp only [Act.put, List.setIfInBounds_toArray, List.set_cons_zero, List.set_cons_succ]))
      | (refine wpAnyH_take (i := 17) (v := undef) held_at17 (by kernel_rfl) (by kernel_rfl) (by kernel_rfl) (fun _ _ _ h => h) (Or.inr ⟨by rfl, rfl⟩) (by assumption) ?_
         (try simp only [Act.put, List.setIfInBounds_toArray, List.set_cons_zero, List.set_cons_succ]))
      first
      | (refine wpAnyH_take (i := 18) (v := ?_) held_at18 (by kernel_rfl) (by kernel_rfl) (by kernel_rfl) (fun _ _ _ h => h) (Or.inl ⟨by rfl, ?_⟩) (by assumption) ?_
         rotate_left
         · (intro w_ hSw; (try dsimp only at hSw); go_simp; (try with_reducible rfl))
         (try simp only [Act.put, List.setIfInBounds_toArray, List.set_cons_zero, List.set_cons_succ]))
      | (refine wpAnyH_take (i := 18) (v := undef) held_at18 (by kernel_rfl) (by kernel_rfl) (by kernel_rfl) (fun _ _ _ h => h) (Or.inr ⟨by rfl, rfl⟩) (by assumption) ?_
         (try simp only [Act.put, List.setIfInBounds_toArray, List.set_cons_zero, List.set_cons_succ]))
      first
      | (refine wpAnyH_take (i := 19) (v := ?_) held_at19 (by kernel_rfl) (by kernel_rfl) (by kernel_rfl) (fun _ _ _ h => h) (Or.inl ⟨by rfl, ?_⟩) (by assumption) ?_
         rotate_left
         · (intro w_ hSw; (try dsimp only at hSw); go_simp; (try with_reducible rfl))
         (try simp only [Act.put, List.setIfInBounds_toArray, List.set_cons_zero, List.set_cons_succ]))
      | (refine wpAnyH_take (i := 19) (v := undef) held_at19 (by kernel_rfl) (by kernel_rfl) (by kernel_rfl) (fun _ _ _ h => h) (Or.inr ⟨by rfl, rfl⟩) (by assumption) ?_
         (try simp only [Act.put, List.setIfInBounds_toArray, List.set_cons_zero, List.set_cons_succ]))
      refine wpAnyH_done (by kernel_rfl) ?_ _
      skip
      go_wp2
      go_roundg (gk - 1)
      case measure => have := Hj.out; omega
      case rel => exact ⟨j + 1, Lib.hid (by have := Hj.out; omega), by go_num, rfl, Lib.hid (XR.out.move B5.out.below)⟩
    · obtain rfl : n = j := by have := Hj.out; omega
      have HF : Hid (P = treeText (ps.take n)) := Lib.hid (by rw [HP1.out, List.take_of_length_le (by omega)])
      go_wp2
      go_ret
      rw [HF.out]
      exact ⟨rfl, XR.out.below⟩
end Go.Proofs.YthpkffeiehnamaaGreatDoor

/- slices.Equal of []bool, walked. -/
namespace Go.Proofs.YthpkffeiehnamaaGreatDoor
open Go.RowKit

set_option maxHeartbeats 400000 in
theorem equalB_any (A A' : Option Addr) (n n' c c' : Nat) (xs ys : List Bool) (w : World) (S : Nat → Prop) (hx : RBools w S A n xs) (hy : RBools w S A' n' ys) (hn : n ≤ maxLen) (hn' : n' ≤ maxLen) :
    Calls Tryz.prog 60 #[.slice A n c, .slice A' n' c'] w fun e w' => e = .returned (.bool (xs == ys)) ∧ ∃ nq, w' = w.drewN nq := by
  unfold maxLen at hn hn'
  have hl := Lib.hid hx.len
  have hl' := Lib.hid hy.len
  by_cases hne : n = n'
  · subst hne
    have h0 : ((n : Int) != (n : Int)) = false := by simp
    go_enter Tryz.func60, Tryz.ntmps60
    go_wp2
    go_loopw [13] (fun i wr => ∃ k : Nat, k ≤ n ∧ i = .int .i64 k ∧ Hid (xs.take k = ys.take k) ∧ ∃ nq, wr = w.drewN nq) (fun i _ => n - (intOf i).toNat)
    case atStart => exact ⟨0, Nat.zero_le _, rfl, by exact rfl, 0, rfl⟩
    case round =>
      obtain ⟨k, hk, rfl, Ht, nq, rfl⟩ := hrel
      by_cases hlt : k < n
      · obtain ⟨b, o, rfl, hb, hc⟩ := hx.at_ hlt
        obtain ⟨b', o', rfl, hb', hc'⟩ := hy.at_ hlt
        generalize hu : xs.getD k false = u at hc
        generalize hv : ys.getD k false = v at hc'
        have Hu := Lib.hid hu; clear hu
        have Hv := Lib.hid hv; clear hv
        cases u <;> cases v
        all_goals
          first
            | (have Huv : Hid (xs.getD k false = ys.getD k false) := by rw [Hu.out, Hv.out]; exact rfl
               go_wp2
               go_quiet (fail)
               go_wp2
               go_roundw
               case rel => exact ⟨k + 1, by omega, by go_num, take_eq_succ false (by rw [hl.out]; exact hlt) (by rw [hl'.out]; exact hlt) Ht.out Huv.out, _, (by first | rfl | exact World.drewN_drewN _ _ _)⟩
               case measure => simp [intOf]; omega)
            | (have Huv : Hid (xs.getD k false ≠ ys.getD k false) := by show _ ≠ _; rw [Hu.out, Hv.out]; intro h; cases h
               go_wp2
               go_quiet (fail)
               go_wp2
               go_ret
               exact ⟨ret_bool (by symm; rw [beq_eq_false_iff_ne]; exact ne_of_getD false Huv.out), _, (by first | rfl | exact World.drewN_drewN _ _ _)⟩)
      · have h1 : k = n := by omega
        subst h1
        go_wp2
        go_ret
        exact ⟨ret_bool (by symm; rw [beq_iff_eq]; exact eq_of_take_all hl.out hl'.out Ht.out), _, rfl⟩
  · have h0 : ((n : Int) != (n' : Int)) = true := by rw [bne_iff_ne]; omega
    go_enter Tryz.func60, Tryz.ntmps60
    go_wp2
    go_ret
    exact ⟨ret_bool (by symm; rw [beq_eq_false_iff_ne]; intro e; exact hne (by rw [← hl.out, ← hl'.out, e])), 0, rfl⟩

end Go.Proofs.YthpkffeiehnamaaGreatDoor

/- slices.EqualFunc of slices whose elements have 2 cells. (Printed by wip/bin/mkeqf.py.) -/
namespace Go.Proofs.YthpkffeiehnamaaGreatDoor
open Go.RowKit Qm

def Shape_M (x : List Value) : Prop := ∃ (x0 : Int) (x1a : Option Addr) (x1n x1c : Nat), x = [.int .i64 x0, .slice x1a x1n x1c]
set_option maxRecDepth 100000 in
set_option maxHeartbeats 3200000 in
theorem equalF_M {α : Type} (R : List Value → α → Prop) (sm : α → α → Bool) (A B : Option Addr) (n c m d : Nat) (xs ys : List α) (F : FuncId) (w : World) (S : Nat → Prop) (hK : RSeq 2 R w S A n xs) (hL : RSeq 2 R w S B m ys) (hS : ∀ k, S k → k < w.heap.size) (hn : n ≤ maxLen) (hm : m ≤ maxLen) (hF : AsksEq Tryz.prog w F R sm) (hsh : ∀ x y, R x y → Shape_M x) :
    Calls Tryz.prog 58 #[.slice A n c, .slice B m d, .func (.func F) #[] #[]] w fun e w' => e = .returned (.bool (eqL sm xs ys)) ∧ Below w.heap.size w w' := by
  unfold maxLen at hn hm
  have HK := Lib.hid hK; have HL := Lib.hid hL; have HS := Lib.hid hS; have HF := Lib.hid hF; clear hK hL hS hF
  by_cases hnm : n = m
  · subst hnm
    go_enter Tryz.func58, Tryz.ntmps58
    go_wp2
    go_loopg [17] n (fun g iv wr => ∃ (j : Nat), Hid (j + g = n) ∧ iv = .int .i64 j ∧ Hid (eqL sm xs ys = eqL sm (xs.drop j) (ys.drop j)) ∧ Below w.heap.size w wr)
    case atStart => exact ⟨0, Lib.hid (Nat.zero_add _), rfl, Lib.hid rfl, Below.refl _ _⟩
    case round =>
      obtain ⟨j, Hj, rfl, Hcl, hb⟩ := hrel
      have HBr := Lib.hid hb; clear hb
      by_cases hj : j < n
      · obtain ⟨b, o, x, y, rfl, hb, hy, hxy, hxl, hcell⟩ := (HK.out.keep (w' := wr) (fun p hp => HBr.out.cell (HS.out _ hp)) fun _ _ h => h).at_ hj (by decide)
        obtain ⟨b', o', x', y', rfl, hb', hy', hxy', hxl', hcell'⟩ := (HL.out.keep (w' := wr) (fun p hp => HBr.out.cell (HS.out _ hp)) fun _ _ h => h).at_ hj (by decide)
        have Hdr : Hid (eqL sm (xs.drop j) (ys.drop j) = (sm y y' && eqL sm (xs.drop (j + 1)) (ys.drop (j + 1)))) := Lib.hid (eqL_step hy hy')
        have hlt : b' < wr.heap.size := Nat.lt_of_lt_of_le (HS.out _ hb') HBr.out.size
        obtain ⟨x0, x1a, x1n, x1c, rfl⟩ := hsh _ _ hxy
        obtain ⟨y0, y1a, y1n, y1c, rfl⟩ := hsh _ _ hxy'
        have g0 := hcell 0 (by omega); have g1 := hcell 1 (by omega)
        have k0 := hcell' 0 (by omega); have k1 := hcell' 1 (by omega)
        simp only [List.getElem?_cons_zero, List.getElem?_cons_succ, Nat.add_zero] at g0 g1 k0 k1
        clear hcell hcell' hy hy'
        have hW1 : Below wr.heap.size wr ((wr.alloc (.cells #[.int .i64 x0, .slice x1a x1n x1c] 103)).alloc (.cells #[.int .i64 y0, .slice y1a y1n y1c] 103)) := ((Below.refl _ wr).alloc (Nat.le_refl _) _).alloc (by simp) _
        have hcall := HF.out.2 _ _ _ _ _ (HBr.out.trans (hW1.mono HBr.out.size)) hxy hxy'
        have henter := HF.out.1
        have HB2 := Lib.hid (HBr.out.trans (hW1.mono HBr.out.size))
        clear hW1 hxy hxy' hxl hxl'
        generalize sm y y' = q at hcall Hdr
        have Hcall := Lib.hid hcall; clear hcall
        cases q
        · go_wp2_with fail
          refine Hcall.out.mono ?_
          rintro e w' ⟨rfl, hb'⟩
          have HB3 := Lib.hid (HB2.out.trans (hb'.mono HB2.out.size)); clear hb'
          go_wp2_with fail
          go_ret
          exact ⟨ret_bool (by rw [Hcl.out, Hdr.out]; rfl), HB3.out⟩
        · go_wp2_with fail
          refine Hcall.out.mono ?_
          rintro e w' ⟨rfl, hb'⟩
          have HB3 := Lib.hid (HB2.out.trans (hb'.mono HB2.out.size)); clear hb'
          go_wp2_with fail
          go_roundg (gk - 1)
          case measure => have := Hj.out; omega
          case rel => exact ⟨j + 1, Lib.hid (by have := Hj.out; omega), by go_num, Lib.hid (by rw [Hcl.out, Hdr.out, Bool.true_and]), HB3.out⟩
      · go_wp2_with fail
        go_ret
        refine ⟨ret_bool ?_, HBr.out⟩
        rw [Hcl.out, List.drop_of_length_le (by have := HK.out.len; omega), List.drop_of_length_le (by have := HL.out.len; omega)]; rfl
  · have e1 : ((n : Int) != (m : Int)) = true := by simp; omega
    have e2 : ((n : Int) == (m : Int)) = false := by simp; omega
    have HE : Hid (eqL sm xs ys = false) := Lib.hid (eqL_len (by have := HK.out.len; have := HL.out.len; omega))
    go_enter Tryz.func58, Tryz.ntmps58
    go_wp2
    go_ret
    exact ⟨ret_bool HE.out.symm, Below.refl _ _⟩
end Go.Proofs.YthpkffeiehnamaaGreatDoor

/- Sets of members held against each other: tree.SameSet, quartermasterref.SameSet, walked. -/
namespace Go.Proofs.YthpkffeiehnamaaGreatDoor
open Go.RowKit Qm

def sameMem (x y : Mem) : Bool := decide (x.pl = y.pl) && (x.on == y.on)
set_option maxHeartbeats 3200000 in
theorem sameMemt_any (x y : Mem) (S : Nat → Prop) (cx cy : List Value) (w : World) (hx : RMem w S cx x) (hy : RMem w S cy y) (hS : ∀ k, S k → k < w.heap.size) :
    Calls Tryz.prog 59 #[.agg cx.toArray, .agg cy.toArray] w fun e w' => e = .returned (.bool (sameMem x y)) ∧ Below w.heap.size w w' := by
  obtain ⟨A, n, c, rfl, hn, hc, hon⟩ := hx
  obtain ⟨B, m, d, rfl, hm, hd, hon'⟩ := hy
  have hbx : Below w.heap.size w ((w.alloc (.cells #[.int .i64 x.pl, .slice A n c] 103)).alloc (.cells #[.int .i64 y.pl, .slice B m d] 103)) := ((Below.refl _ w).alloc (Nat.le_refl _) _).alloc (by simp) _
  have heq := equalB_any A B n m c d x.on y.on _ S (Row.keep hon fun p hp => hbx.cell (hS _ hp)) (Row.keep hon' fun p hp => hbx.cell (hS _ hp)) (Nat.le_trans hn hc) (Nat.le_trans hm hd)
  have HC : Hid (sameMem x y = (decide (x.pl = y.pl) && (x.on == y.on))) := Lib.hid rfl
  obtain ⟨pl, on⟩ := x
  obtain ⟨pl', on'⟩ := y
  dsimp only at heq HC hbx
  generalize sameMem ⟨pl, on⟩ ⟨pl', on'⟩ = R at HC ⊢
  generalize (on == on') = q at heq HC
  have Heq := Lib.hid heq
  have HB := Lib.hid hbx
  clear heq hbx hon hon' hS
  by_cases hp : pl = pl'
  · subst hp
    have hpp : (pl == pl) = true := by simp
    have HR : Hid (R = q) := Lib.hid (by rw [HC.out, decide_eq_true rfl, Bool.true_and])
    clear HC
    go_enter Tryz.func59, Tryz.ntmps59
    go_wp2_with (first | (go_at_call 60; refine Heq.out.mono ?_; rintro e w3 ⟨rfl, nq, rfl⟩; refine Hid.out ?_))
    refine Lib.hid ?_
    go_wp2
    go_ret
    exact ⟨ret_bool (by rw [HR.out]), below_drewN HB.out _⟩
  · have hpp : (pl == pl') = false := by simpa using hp
    have HR : Hid (R = false) := Lib.hid (by rw [HC.out, decide_eq_false hp, Bool.false_and])
    clear HC hp
    go_enter Tryz.func59, Tryz.ntmps59
    go_wp2
    go_ret
    exact ⟨ret_bool (by rw [HR.out]), HB.out⟩
set_option maxHeartbeats 3200000 in
theorem sameMemr_any (x y : Mem) (S : Nat → Prop) (cx cy : List Value) (w : World) (hx : RMem w S cx x) (hy : RMem w S cy y) (hS : ∀ k, S k → k < w.heap.size) :
    Calls Tryz.prog 61 #[.agg cx.toArray, .agg cy.toArray] w fun e w' => e = .returned (.bool (sameMem x y)) ∧ Below w.heap.size w w' := by
  obtain ⟨A, n, c, rfl, hn, hc, hon⟩ := hx
  obtain ⟨B, m, d, rfl, hm, hd, hon'⟩ := hy
  have hbx : Below w.heap.size w ((w.alloc (.cells #[.int .i64 x.pl, .slice A n c] 103)).alloc (.cells #[.int .i64 y.pl, .slice B m d] 103)) := ((Below.refl _ w).alloc (Nat.le_refl _) _).alloc (by simp) _
  have heq := equalB_any A B n m c d x.on y.on _ S (Row.keep hon fun p hp => hbx.cell (hS _ hp)) (Row.keep hon' fun p hp => hbx.cell (hS _ hp)) (Nat.le_trans hn hc) (Nat.le_trans hm hd)
  have HC : Hid (sameMem x y = (decide (x.pl = y.pl) && (x.on == y.on))) := Lib.hid rfl
  obtain ⟨pl, on⟩ := x
  obtain ⟨pl', on'⟩ := y
  dsimp only at heq HC hbx
  generalize sameMem ⟨pl, on⟩ ⟨pl', on'⟩ = R at HC ⊢
  generalize (on == on') = q at heq HC
  have Heq := Lib.hid heq
  have HB := Lib.hid hbx
  clear heq hbx hon hon' hS
  by_cases hp : pl = pl'
  · subst hp
    have hpp : (pl == pl) = true := by simp
    have HR : Hid (R = q) := Lib.hid (by rw [HC.out, decide_eq_true rfl, Bool.true_and])
    clear HC
    go_enter Tryz.func61, Tryz.ntmps61
    go_wp2_with (first | (go_at_call 60; refine Heq.out.mono ?_; rintro e w3 ⟨rfl, nq, rfl⟩; refine Hid.out ?_))
    refine Lib.hid ?_
    go_wp2
    go_ret
    exact ⟨ret_bool (by rw [HR.out]), below_drewN HB.out _⟩
  · have hpp : (pl == pl') = false := by simpa using hp
    have HR : Hid (R = false) := Lib.hid (by rw [HC.out, decide_eq_false hp, Bool.false_and])
    clear HC hp
    go_enter Tryz.func61, Tryz.ntmps61
    go_wp2
    go_ret
    exact ⟨ret_bool (by rw [HR.out]), HB.out⟩
set_option maxHeartbeats 3200000 in
theorem sameSett_any (xs ys : List Mem) (S : Nat → Prop) (A B : Option Addr) (n c m d : Nat) (w : World) (hT : RSet w S A n xs) (hU : RSet w S B m ys) (hS : ∀ k, S k → k < w.heap.size) (hn : n ≤ maxLen) (hm : m ≤ maxLen) :
    Calls Tryz.prog 22 #[.slice A n c, .slice B m d] w fun e w' => e = .returned (.bool (eqL sameMem xs ys)) ∧ Below w.heap.size w w' := by
  have hq := equalF_M (RMem w S) sameMem A B n c m d xs ys 59 w S hT hU hS hn hm
    ⟨fun args W => by kernel_rfl, fun x y cx cy W hb hx hy => sameMemt_any x y S cx cy W (hx.under hb hS) (hy.under hb hS) (fun k hk => Nat.lt_of_lt_of_le (hS k hk) hb.size)⟩
    (fun x y h => by obtain ⟨A, n, c, rfl, _⟩ := h; exact ⟨_, _, _, _, rfl⟩)
  generalize eqL sameMem xs ys = q at hq ⊢
  have Hq := Lib.hid hq
  clear hq hT hU hS
  go_enter Tryz.func22, Tryz.ntmps22
  go_wp2_with (first | (go_at_call 58; refine Hq.out.mono ?_; rintro e w3 ⟨rfl, hb3⟩; refine Hid.out ?_))
  refine Lib.hid ?_
  have HB3 := Lib.hid hb3
  clear hb3
  go_wp2
  go_ret
  exact ⟨rfl, HB3.out⟩
set_option maxHeartbeats 3200000 in
theorem sameSetr_any (xs ys : List Mem) (S : Nat → Prop) (A B : Option Addr) (n c m d : Nat) (w : World) (hT : RSet w S A n xs) (hU : RSet w S B m ys) (hS : ∀ k, S k → k < w.heap.size) (hn : n ≤ maxLen) (hm : m ≤ maxLen) :
    Calls Tryz.prog 23 #[.slice A n c, .slice B m d] w fun e w' => e = .returned (.bool (eqL sameMem xs ys)) ∧ Below w.heap.size w w' := by
  have hq := equalF_M (RMem w S) sameMem A B n c m d xs ys 61 w S hT hU hS hn hm
    ⟨fun args W => by kernel_rfl, fun x y cx cy W hb hx hy => sameMemr_any x y S cx cy W (hx.under hb hS) (hy.under hb hS) (fun k hk => Nat.lt_of_lt_of_le (hS k hk) hb.size)⟩
    (fun x y h => by obtain ⟨A, n, c, rfl, _⟩ := h; exact ⟨_, _, _, _, rfl⟩)
  generalize eqL sameMem xs ys = q at hq ⊢
  have Hq := Lib.hid hq
  clear hq hT hU hS
  go_enter Tryz.func23, Tryz.ntmps23
  go_wp2_with (first | (go_at_call 58; refine Hq.out.mono ?_; rintro e w3 ⟨rfl, hb3⟩; refine Hid.out ?_))
  refine Lib.hid ?_
  have HB3 := Lib.hid hb3
  clear hb3
  go_wp2
  go_ret
  exact ⟨rfl, HB3.out⟩
end Go.Proofs.YthpkffeiehnamaaGreatDoor
