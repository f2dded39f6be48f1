/- Parts of the proof: walks and plain laws, side by side. -/
import Derived.Test.YtedbhlgjcnnknaaGreatDoorM17
import Derived.Test.YtedbhlgjcnnknaaGreatDoorM10
import Derived.Test.YtedbhlgjcnnknaaGreatDoorM16
import Derived.Deep.QuietTactic
import Derived.BigQuiet
set_option linter.unusedVariables false
set_option linter.unusedSimpArgs false
set_option linter.unusedSectionVars false
namespace Go.Proofs.YtedbhlgjcnnknaaGreatDoor
/- valid.is, walked. -/
section
open Go.RowKit Qm

theorem pkOf_at {ps : List Pk} {j : Nat} {p : Pk} (h : ps[j]? = some p) : pkOf ps (j : Int) = p := by
 unfold pkOf
 rw [Int.toNat_natCast, List.getD_eq_getElem?_getD, h]; rfl
structure Ib (w : World) (A : Option Addr) (n c : Nat) (mv av : List Value) (wx : World) : Prop where
 t : Whole wx w.heap.size 24 [.slice A n c]
 m : Whole wx (w.heap.size + 1) 85 mv
 a : Whole wx (w.heap.size + 1 + 1) 75 av
 bel : Below w.heap.size w wx
theorem Ib.move {w : World} {A : Option Addr} {n c : Nat} {mv av : List Value} {wx wy : World} (h : Ib w A n c mv av wx) (hb : Below wx.heap.size wx wy) : Ib w A n c mv av wy :=
 ⟨h.t.below hb h.t.lt, h.m.below hb h.m.lt, h.a.below hb h.a.lt, h.bel.trans (hb.mono h.bel.size)⟩
theorem Ib.new (w : World) (A : Option Addr) (n c : Nat) (mv av : List Value) : Ib w A n c mv av (((w.alloc (.cells #[.slice A n c] 24)).alloc (.cells mv.toArray 85)).alloc (.cells av.toArray 75)) :=
 ⟨((Whole.new w _ _ [.slice A n c] rfl).alloc _).alloc _, (Whole.new (w.alloc (.cells #[.slice A n c] 24)) (w.heap.size + 1) _ mv (by simp)).alloc _, Whole.new ((w.alloc (.cells #[.slice A n c] 24)).alloc (.cells mv.toArray 85)) (w.heap.size + 1 + 1) _ av (by simp),
  (((Below.refl _ w).alloc (qr _) _).alloc (by simp) _).alloc (by simp; omega) _⟩
set_option maxRecDepth 100000 in
set_option maxHeartbeats 3200000 in
theorem is_any (ps : List Pk) (m : Mem) (a : At) (S : Nat → Prop) (A B : Option Addr) (n c k d : Nat) (w : World) (hT : RTree w S A n ps) (hB : RBools w S B k m.on) (hkd : k ≤ d) (hm : MemOk ps m) (hS : ∀ k, S k → k < w.heap.size) (hn8 : n ≤ 8) (h1 : a.nm.length ≤ maxLen) (h2 : a.fl.length ≤ maxLen) :
  Calls Tryz.prog 86 #[.agg #[.slice A n c], .agg #[.int .i64 m.pl, .slice B k d], .agg #[.string ⟨a.nm.toArray⟩, .int .i64 a.op, .int .i64 a.ver, .int .i64 a.slot, .string ⟨a.fl.toArray⟩, .bool a.on]] w fun e w' => e = .returned (.bool (isA ps m a)) ∧ Below w.heap.size w w' := by
 obtain ⟨hm0, hm1, hm2⟩ := hm
 have hl := hT.len
 obtain ⟨pl, on⟩ := m
 dsimp only at hm0 hm1 hm2 hB ⊢
 obtain ⟨j, rfl⟩ : ∃ j : Nat, pl = j := ⟨pl.toNat, by omega⟩
 have hjn : j < n := by omega
 obtain ⟨b, o, p, D, q, c', kd, pa, f, no, E, r, d', rfl, hbS, hp, hP, hcell⟩ := hT.at_ hjn
 rw [pkOf_at hp] at hm2
 have HC : Hid (isA ps ⟨(j : Int), on⟩ a = (decide (p.nm = a.nm) && (fitsP a p.ver p.slot && (decide (a.fl = []) || flagIs p ⟨(j : Int), on⟩ a)))) := qh (by unfold isA; rw [pkOf_at hp])
 have HF : Hid (flagIs p ⟨(j : Int), on⟩ a = match ixOf a.fl p.fs with | some i => onOf on i == a.on | none => false) := qh rfl
 generalize isA ps ⟨(j : Int), on⟩ a = R at HC ⊢
 generalize flagIs p ⟨(j : Int), on⟩ a = fl at HC HF
 have g0 := hcell 0 (by omega); have g1 := hcell 1 (by omega); have g2 := hcell 2 (by omega); have g3 := hcell 3 (by omega); have g4 := hcell 4 (by omega); have g5 := hcell 5 (by omega); have g6 := hcell 6 (by omega); have g7 := hcell 7 (by omega); have g8 := hcell 8 (by omega); have g9 := hcell 9 (by omega); have g10 := hcell 10 (by omega); have g11 := hcell 11 (by omega); have g12 := hcell 12 (by omega); have g13 := hcell 13 (by omega)
 unfold pkRow ndRow at g0 g1 g2 g3 g4 g5 g6 g7 g8 g9 g10 g11 g12 g13
 simp only [List.getElem?_cons_zero, List.getElem?_cons_succ, Nat.add_zero] at g0 g1 g2 g3 g4 g5 g6 g7 g8 g9 g10 g11 g12 g13
 clear hcell hp
 have hbl : b < w.heap.size := hS b hbS
 have hbl_1 : b < w.heap.size + 1 := by omega
 have hbl_2 : b < w.heap.size + 1 + 1 := by omega
 have I0 := qh (Ib.new w (some ⟨b, o, none⟩) n c [.int .i64 (j : Int), .slice B k d] [.string ⟨a.nm.toArray⟩, .int .i64 a.op, .int .i64 a.ver, .int .i64 a.slot, .string ⟨a.fl.toArray⟩, .bool a.on])
 have P1 := qh (Whole.new (((w.alloc (.cells #[.slice (some ⟨b, o, none⟩) n c] 24)).alloc (.cells #[.int .i64 (j : Int), .slice B k d] 85)).alloc (.cells #[.string ⟨a.nm.toArray⟩, .int .i64 a.op, .int .i64 a.ver, .int .i64 a.slot, .string ⟨a.fl.toArray⟩, .bool a.on] 75)) (w.heap.size + 1 + 1 + 1) 101 (pkRow p D q c' (ndRow kd pa f no E r d')) (by simp))
 have I1 := qh (I0.out.move ((Below.refl _ (((w.alloc (.cells #[.slice (some ⟨b, o, none⟩) n c] 24)).alloc (.cells #[.int .i64 (j : Int), .slice B k d] 85)).alloc (.cells #[.string ⟨a.nm.toArray⟩, .int .i64 a.op, .int .i64 a.ver, .int .i64 a.slot, .string ⟨a.fl.toArray⟩, .bool a.on] 75))).alloc (qr _) (.cells (pkRow p D q c' (ndRow kd pa f no E r d')).toArray 101)))
 have HFS := qh hP.fs.row
 have HBO := qh hB
 have HPm := qh (Nat.le_trans hP.cap hP.max)
 have HBl := qh hB.len
 have HFl := qh hP.fs.len
 have HS := qh hS
 have hft := fun wx => fits_any ⟨a.nm.toArray⟩ ⟨a.fl.toArray⟩ a.op a.ver a.slot p.ver p.slot a.on wx
 rw [atOf_mk] at hft
 unfold atv at hft
 have Hft := qh hft
 clear hT hB hP hS hft I0
 obtain ⟨nm, ver, slot, fs, nd⟩ := p
 unfold pkRow ndRow at P1 I1
 dsimp only at g0 g1 g2 g3 g4 g5 g6 g7 g8 g9 g10 g11 g12 g13 P1 I1 HFS Hft HC HF HFl hm2
 generalize fitsP a ver slot = ft at Hft HC
 have hj1 : (j : Int) < n := by omega
 by_cases hn : nm = a.nm
 ·subst hn
  have H1 : Hid (R = (ft && (decide (a.fl = []) || fl))) := qh (by rw [HC.out]; simp)
  clear HC
  cases ft
  ·have HE : Hid (R = false) := qh (by rw [H1.out]; rfl)
   go_enter Tryz.func86, Tryz.ntmps86
   go_wp2_with (first | (go_at_call 81; refine (Hft.out _).mono ?_; rintro e w4 ⟨rfl, hb4⟩; refine Hid.out ?_))
   refine qh ?_
   have P4 := qh (P1.out.below hb4 P1.out.lt)
   have I4 := qh (I1.out.move hb4)
   clear hb4
   go_wp2
   go_ret
   exact ⟨ret_bool HE.out.symm, I4.out.bel⟩
  ·by_cases hfl : a.fl = []
   ·have HE : Hid (R = true) := qh (by rw [H1.out, decide_eq_true hfl]; rfl)
    have hf1 : (a.fl == []) = true := by simpa using hfl
    have hf2 : a.fl.isEmpty = true := by simpa using hfl
    have Hfl := qh hfl; clear hfl
    go_enter Tryz.func86, Tryz.ntmps86
    go_wp2_with (first | (go_at_call 81; refine (Hft.out _).mono ?_; rintro e w4 ⟨rfl, hb4⟩; refine Hid.out ?_))
    refine qh ?_
    have P4 := qh (P1.out.below hb4 P1.out.lt)
    have I4 := qh (I1.out.move hb4)
    clear hb4
    have a4 := I4.out.a.cell 4
    simp only [qgz, qgs] at a4
    rw [Hfl.out] at a4
    go_wp2
    go_ret
    exact ⟨ret_bool HE.out.symm, I4.out.bel⟩
   ·have hf1 : (a.fl == []) = false := by simpa using hfl
    have hf2 : a.fl.isEmpty = false := by simpa using hfl
    have H2 : Hid (R = fl) := qh (by rw [H1.out, decide_eq_false hfl]; simp)
    clear hfl H1
    cases hix : ixOf a.fl fs with
    | none =>
     have HE : Hid (R = false) := qh (by rw [H2.out, HF.out, hix])
     have Hix := qh (fun wx hb => indexS_any D q c' fs a.fl wx S (HFS.out.below (w' := wx) hb HS.out) HPm.out)
     rw [hix] at Hix
     unfold ixI at Hix
     clear hix
     go_enter Tryz.func86, Tryz.ntmps86
     go_wp2_with (first | (go_at_call 81; refine (Hft.out _).mono ?_; rintro e w4 ⟨rfl, hb4⟩; refine Hid.out ?_))
     refine qh ?_
     have P4 := qh (P1.out.below hb4 P1.out.lt)
     have I4 := qh (I1.out.move hb4)
     clear hb4
     have a4 := I4.out.a.cell 4
     have p3 := P4.out.cell 3
     simp only [qgz, qgs] at a4 p3
     have plt := P4.out.lt
     go_wp2_with (first | (go_at_call 80; refine (Hix.out _ I4.out.bel).mono ?_; rintro e w5 ⟨rfl, hw5⟩; have hw6 := hw5.symm; subst hw6; refine Hid.out ?_))
     refine qh ?_
     go_wp2
     go_quiet (fail)
     go_wp2
     go_ret
     exact ⟨ret_bool HE.out.symm, below_drewN I4.out.bel _⟩
    | some i =>
     have hiq := ixOf_lt hix
     obtain ⟨b2, o2, rfl, hb2, hbc⟩ := HBO.out.at_ (k := i) (by rw [← HBl.out, hm2]; exact hiq)
     have hik : (i : Int) < k := by have := HBl.out; omega
     have hbl2 := HS.out b2 hb2
     have HE : Hid (R = (on.getD i false == a.on)) := qh (by rw [H2.out, HF.out, hix]; rfl)
     generalize on.getD i false = ob at hbc HE
     have Hix := qh (fun wx hb => indexS_any D q c' fs a.fl wx S (HFS.out.below (w' := wx) hb HS.out) HPm.out)
     rw [hix] at Hix
     unfold ixI at Hix
     clear hix hiq hm2
     go_enter Tryz.func86, Tryz.ntmps86
     go_wp2_with (first | (go_at_call 81; refine (Hft.out _).mono ?_; rintro e w4 ⟨rfl, hb4⟩; refine Hid.out ?_))
     refine qh ?_
     have P4 := qh (P1.out.below hb4 P1.out.lt)
     have I4 := qh (I1.out.move hb4)
     clear hb4
     have a4 := I4.out.a.cell 4
     have a5 := I4.out.a.cell 5
     have m1 := I4.out.m.cell 1
     have p3 := P4.out.cell 3
     simp only [qgz, qgs] at a4 a5 p3 m1
     have plt := P4.out.lt
     have ob4 := (I4.out.bel.cell (p := ⟨b2, o2 + i, none⟩) hbl2).trans hbc
     go_wp2_with (first | (go_at_call 80; refine (Hix.out _ I4.out.bel).mono ?_; rintro e w5 ⟨rfl, hw5⟩; have hw6 := hw5.symm; subst hw6; refine Hid.out ?_))
     refine qh ?_
     have hi0 : (0 : Int) ≤ (i : Int) := by omega
     go_wp2
     go_quiet (fail)
     go_wp2
     go_ret
     exact ⟨ret_bool HE.out.symm, below_drewN I4.out.bel _⟩
 ·have hn' : (nm == a.nm) = false := by simpa using hn
  have HE : Hid (R = false) := qh (by rw [HC.out, decide_eq_false hn]; rfl)
  go_enter Tryz.func86, Tryz.ntmps86
  go_wp2
  go_ret
  exact ⟨ret_bool HE.out.symm, I1.out.bel⟩
end
end Go.Proofs.YtedbhlgjcnnknaaGreatDoor
