/- Parts of the proof: walks and plain laws, side by side. -/
import Derived.Test.YtedbhlgjcnnknaaGreatDoorM3
import Derived.Test.YtedbhlgjcnnknaaGreatDoorM7
import Derived.Test.YtedbhlgjcnnknaaGreatDoorM2
import Derived.Test.YtedbhlgjcnnknaaGreatDoorM4
import Derived.Test.YtedbhlgjcnnknaaGreatDoorM5
import Derived.Test.YtedbhlgjcnnknaaGreatDoorM27
import Derived.Test.YtedbhlgjcnnknaaGreatDoorM29
import Derived.Test.YtedbhlgjcnnknaaGreatDoorM1
import Derived.ProofKit
import Derived.ChangeOld
import Derived.Lib.SmallJoins
import Derived.Deep.Matrix
import Derived.Deep.Grids
import Derived.Test.YtedbhlgjcnnknaaGreatDoorRows
import Derived.Test.YtedbhlgjcnnknaaGreatDoorM10
import Derived.LaidMore
import Derived.OpenShut
import Derived.Stop.Joined
import Derived.Stop.LaidErr
import Derived.Lib.LaidTab
set_option linter.unusedVariables false
set_option linter.unusedSimpArgs false
set_option linter.unusedSectionVars false
/- Plain: what CnfSound and CnfMore say of folOk, folErr, folL. -/
namespace Go.Proofs.YtedbhlgjcnnknaaGreatDoor
open Go.RowKit
theorem ckLits_good {N : Nat} {l : List Int} (h : ∀ x ∈ l, Qm.IsLit N x) : ckLits l (N : Int) = 0 := by
 unfold ckLits
 rw [if_neg]
 intro h2
 obtain ⟨x, hx, hb⟩ := List.any_eq_true.1 h2
 have h3 := h x hx
 have h4 := h3.1
 have h5 := h3.2
 rw [badLit_no (by omega)] at hb
 cases hb
end Go.Proofs.YtedbhlgjcnnknaaGreatDoor

/- Plain: the literals of what follows, by place: which variable is open, what model they make. -/
namespace Qm
theorem litsTo_full {N : Nat} {v : List Int} : ∀ (i : Nat), i ≤ N → (∀ j, j < i → v.getD (j + 1) 0 ≠ 0) → (litsTo v i).length = i ∧ ∀ j, j < i → (litsTo v i).getD j 0 = ((j : Int) + 1) * v.getD (j + 1) 0 := by
 intro i
 induction i with
 | zero => intro _ _; exact ⟨rfl, fun j hj => by omega⟩
 | succ i ih =>
  intro hi h
  obtain ⟨h1, h2⟩ := ih (by omega) (fun j hj => h j (by omega))
  have hne := h i (by omega)
  rw [litsTo_succ, if_neg hne]
  refine ⟨by simp [h1], fun j hj => ?_⟩
  by_cases hji : j < i
  ·rw [List.getD_eq_getElem?_getD, List.getElem?_append_left (by omega), ← List.getD_eq_getElem?_getD]; exact h2 j hji
  ·have e : j = i := by omega
   subst e
   rw [List.getD_eq_getElem?_getD, List.getElem?_append_right (by omega), h1]
   simp
end Qm

/- What EncodeMeans asks, in plain words. -/
namespace Go.Proofs.YtedbhlgjcnnknaaGreatDoor
open Go.RowKit Qm

theorem litsB_get {m : List Bool} {k : Nat} (hk : k < m.length) : (litsB m).getD k 0 = if m.getD k false = true then (k : Int) + 1 else -((k : Int) + 1) := by
 unfold litsB
 rw [List.getD_eq_getElem?_getD, List.getElem?_map, List.getElem?_range hk]; rfl
theorem litsB_length (m : List Bool) : (litsB m).length = m.length := by unfold litsB; rw [List.length_map, List.length_range]
theorem get_d {l : List Int} {j : Nat} (h : j < l.length) : l[j] = l.getD j 0 := by rw [List.getD_eq_getElem?_getD, List.getElem?_eq_getElem h]; rfl
theorem litsB_flip {m : List Bool} {k : Nat} {x : Int} {b : Bool} (hk : k < m.length) (hx : (litsB m).getD k 0 = x) (hb : m.getD k false = b) : (litsB m).set k (-x) = litsB (m.set k (!b)) := by
 have hxx := litsB_get hk
 rw [hx, hb] at hxx
 refine List.ext_getElem (by rw [List.length_set, litsB_length, litsB_length, List.length_set]) fun j h1 h2 => ?_
 have h3 := h1
 rw [List.length_set, litsB_length] at h3
 rw [get_d h2, litsB_get (by rw [List.length_set]; exact h3), List.getElem_set]
 by_cases hjk : k = j
 ·subst hjk
  rw [if_pos rfl, hxx, List.getD_eq_getElem?_getD, List.getElem?_set_self hk]
  cases b <;> simp
 ·rw [if_neg hjk, get_d, litsB_get h3, List.getD_eq_getElem?_getD (l := m.set k _), List.getElem?_set_ne hjk, ← List.getD_eq_getElem?_getD]
theorem lits_total {N : Nat} {w : List Int} (hf : Fine N w) (h : idx0 w = none) : litsTo w N = litsB (boolsOf w) := by
 have h0 := idx0_none hf h
 obtain ⟨a, b⟩ := litsTo_full N (Nat.le_refl N) h0
 have hl := boolsOf_len hf
 refine List.ext_getElem (by rw [a, litsB_length, hl]) fun j h1 h2 => ?_
 rw [a] at h1
 rw [get_d h2, get_d, b j h1, litsB_get (by omega), boolsOf_at hf h1]
 have hz := h0 j h1
 have hr : w.getD (j + 1) 0 = 1 ∨ w.getD (j + 1) 0 = -1 := by
  have hj : j + 1 < w.length := by have := hf.1; omega
  have hm : w.getD (j + 1) 0 ∈ w := by rw [List.getD_eq_getElem?_getD, List.getElem?_eq_getElem hj]; exact List.getElem_mem _
  rcases hf.2 _ hm with g | g | g
  ·exact absurd g hz
  ·exact .inl g
  ·exact .inr g
 rcases hr with hr | hr
 ·rw [hr]; simp
 ·rw [hr]; simp
theorem em_fol {ps : List Pk} {v : Ws} (h : ckWish ps v = 0) {m0 : List Bool} (hl : m0.length = manyC ps) :
  folErr (encN ps v : Int) (encC ps v) (litsB m0) = 0 ∧ folOk (encN ps v : Int) (encC ps v) (litsB m0) = validP ps v.ts v.ms (setOfM (chW ps v) ps m0) ∧
  (validP ps v.ts v.ms (setOfM (chW ps v) ps m0) = true → ∃ bs : List Bool, bs.length = encN ps v ∧ folL (encN ps v : Int) (encC ps v) (litsB m0) = litsB bs ∧ holdsErr (encN ps v : Int) (encC ps v) bs = 0 ∧ holdsOk (encN ps v : Int) (encC ps v) bs = true) := by
 have E := encW_ok h
 have hck : ckFormula (encN ps v : Int) (encC ps v) = 0 := by rw [(encN_of h).1, (encN_of h).2]; exact enc_formula h
 rw [← (encN_of h).1, ← (encN_of h).2] at E
 have h14 := E.many14
 have hlit := litsB_lit (m := m0) (N := encN ps v) (by have := E.many; omega)
 have he : folErr (encN ps v : Int) (encC ps v) (litsB m0) = 0 := by
  unfold folErr
  rw [if_neg (by rw [hck]; decide), if_neg (by rw [litsB_length]; omega), ckLits_good hlit]
 have hV : folV (encN ps v : Int) (encC ps v) (litsB m0) = followsV (encN ps v) (encC ps v) (litsB m0) := by
  unfold folV; rw [if_neg (by rw [he]; decide), Int.toNat_natCast]
 obtain ⟨f1, f2⟩ := follows_enc E (wish_parts h).ok hl
 refine ⟨he, ?_, fun hv => ?_⟩
 ·unfold folOk
  rw [hV, Bool.eq_iff_iff]
  constructor
  ·intro hs
   obtain ⟨w, hw⟩ := Option.isSome_iff_exists.1 hs
   exact (f2 w hw).1
  ·intro hv
   obtain ⟨w, hw⟩ := f1 hv
   rw [hw]; rfl
 ·obtain ⟨w, hw⟩ := f1 hv
  obtain ⟨_, g2, g3, g4⟩ := f2 w hw
  have hh : holdsErr (encN ps v : Int) (encC ps v) (boolsOf w) = 0 := by
   unfold holdsErr
   rw [if_neg (by rw [hck]; decide), if_neg (by rw [boolsOf_len g3]; simp)]
  refine ⟨boolsOf w, boolsOf_len g3, ?_, hh, ?_⟩
  ·unfold folL; rw [hV, hw, Int.toNat_natCast]; exact lits_total g3 g2
  ·unfold holdsOk; rw [decide_eq_true hh, g4]; rfl
end Go.Proofs.YtedbhlgjcnnknaaGreatDoor

/- EncodeMeans, walked: it returns true. -/
namespace Go.Proofs.YtedbhlgjcnnknaaGreatDoor
open Go.RowKit Qm

theorem make_boolsM (n : Nat) (hn : n ≤ 100000) (w : World) : (Instr.makeSlice 40 (.int .i64 (n : Int)) (.int .i64 (n : Int))).run Tryz.prog w = .ok (.slice (some ⟨w.heap.size, 0, none⟩) n n) (w.alloc (.cells ((List.range n).map fun _ => Value.bool false).toArray 4)) := by
 rw [run_make_row' 40 4 (.bool false) 1 Tryz.underlying40 bool_infoE rfl .i64 .i64 n (by omega) (by omega) w, made_listE]
theorem lits_row {w : World} {g M : Nat} {dv : Value} {t : TypeId} {xs : List Int} (h : Whole w g t (dv :: xs.map (Value.int .i64))) (hx : xs.length = M) : RInts w (fun k => k < w.heap.size) (some ⟨g, 1, none⟩) M xs :=
 ⟨by rw [List.length_map]; exact hx, fun _ => ⟨g, 1, rfl, h.lt, fun j _ => by rw [h.cell, Nat.add_comm 1 j, List.getElem?_cons_succ]⟩⟩
structure Fx (w : World) (A : Option Addr) (n c : Nat) (wv : List Value) (fb : Nat) (fv : List Value) (wx : World) : Prop where
 b : Wb w A n c wv wx
 f : Whole wx fb 33 fv
theorem Fx.move {w : World} {A : Option Addr} {n c : Nat} {wv : List Value} {fb : Nat} {fv : List Value} {wx wy : World} (h : Fx w A n c wv fb fv wx) (hb : Below wx.heap.size wx wy) : Fx w A n c wv fb fv wy := ⟨h.b.move hb, h.f.below hb h.f.lt⟩
set_option maxRecDepth 100000 in
set_option maxHeartbeats 6400000 in
theorem emeans_any (ps : List Pk) (v : Ws) (l : List Mem) (fs : List Int) (S : Nat → Prop) (A B D : Option Addr) (n c q d r e' : Nat) (A1 A2 A3 A4 : Option Addr) (n1 c1 n2 c2 n3 c3 n4 c4 : Nat) (w : World) (hT : RTree w S A n ps) (hnc : n ≤ c) (hc : c ≤ maxLen) (hV : WsAt w S A1 n1 c1 A2 n2 c2 A3 n3 c3 A4 n4 c4 v) (hLo : RSet w S B q l) (hqd : q ≤ d) (hd : d ≤ maxLen) (hF : RInts w S D r fs) (hre : r ≤ e') (he : e' ≤ maxLen) (hfs : ∀ x ∈ fs, -9223372036854775808 ≤ x ∧ x ≤ 9223372036854775807) (hS : ∀ k, S k → k < w.heap.size) (hLV : LaidV w) (hMW : MaxW w) :
  Calls Tryz.prog 3 #[.agg #[.slice A n c], .agg #[.slice A1 n1 c1, .slice A2 n2 c2, .slice A3 n3 c3, .slice A4 n4 c4], .slice B q d, .slice D r e'] w fun e w' => e = .returned (.bool true) ∧ Below w.heap.size w w' := by
 have X0 := qh (Wb.new w A n c [.slice A1 n1 c1, .slice A2 n2 c2, .slice A3 n3 c3, .slice A4 n4 c4])
 have HT := qh hT; have HV := qh hV; have HS := qh hS; have HLo := qh hLo; have HF := qh hF; have HFS := qh hfs; have HLV := qh hLV; have HMW := qh hMW; clear hT hV hS hLo hF hfs hLV hMW
 have Hlt := qh (fun (wx : World) (hb : Below w.heap.size w wx) k hk => ql (HS.out k hk) hb.size)
 have HWS := qh (fun wx (hb : Below w.heap.size w wx) => (HV.out.under hb HS.out).more (S' := fun k => k < wx.heap.size) fun k hk => Hlt.out _ hb k hk)
 have HTR := qh (fun wx (hb : Below w.heap.size w wx) => (HT.out.under hb HS.out).more (S' := fun k => k < wx.heap.size) fun k hk => Hlt.out _ hb k hk)
 have HVA := qh (fun (l : List Mem) (Bl : Option Addr) (ql dl : Nat) wx (hb : Below w.heap.size w wx) (hl : RSet wx (fun k => k < wx.heap.size) Bl ql l) (h1 : ql ≤ dl) (h2 : dl ≤ maxLen) => valid_any ps v l (fun k => k < wx.heap.size) A Bl n c ql dl A1 A2 A3 A4 n1 c1 n2 c2 n3 c3 n4 c4 wx (HTR.out _ hb) hnc hc (HWS.out _ hb) hl h1 h2 (fun k hk => hk))
 have HES := qh (fun (m : List Bool) (M : Option Addr) (mn mc : Nat) wx (hb : Below w.heap.size w wx) (hm : RBools wx (fun k => k < wx.heap.size) M mn m) (h1 : mn ≤ mc) (h2 : mc ≤ maxLen) => eset_any ps v m (fun k => k < wx.heap.size) A M n c mn mc A1 A2 A3 A4 n1 c1 n2 c2 n3 c3 n4 c4 wx (HTR.out _ hb) hnc hc (HWS.out _ hb) hm h1 h2 (fun k hk => hk))
 have HLQ := qh (fun wx (hb : Below w.heap.size w wx) => literals_q ps v l S A B n c q d A1 A2 A3 A4 n1 c1 n2 c2 n3 c3 n4 c4 wx (HT.out.under hb HS.out) hnc hc (HV.out.under hb HS.out) (HLo.out.under hb HS.out) hqd hd (Hlt.out _ hb))
 have HEN := qh (encode_any ps v S A n c A1 A2 A3 A4 n1 c1 n2 c2 n3 c3 n4 c4 _ (HT.out.under X0.out.bel HS.out) hnc hc (HV.out.under X0.out.bel HS.out) (Hlt.out _ X0.out.bel))
 have Hrd := qh (fun wx (hb : Below w.heap.size w wx) => encoded_any wx (HLV.out.below hb) (HMW.out.below hb))
 have hen := HEN.out
 unfold EncodeP at hen
 obtain ⟨z, hz⟩ : ∃ z, ckWish ps v = z := ⟨_, rfl⟩
 have HZ := qh hz
 rw [hz] at hen
 have HE0 := qh hen
 have t0 := X0.out.t.cell 0; have u0 := X0.out.v.cell 0; have u1 := X0.out.v.cell 1; have u2 := X0.out.v.cell 2; have u3 := X0.out.v.cell 3
 simp only [qgz, qgs] at t0 u0 u1 u2 u3
 clear hen HEN hz
 go_enter Tryz.func3, Tryz.ntmps3
 go_upto_region 2 with (first | (go_at_call 12; refine HE0.out.mono ?_; rintro e w2 ⟨F, cF, rfl, hcl, hcc, hcm, hb2⟩; refine Hid.out ?_))
 refine qh ?_
 have X2 := qh (X0.out.move hb2)
 have HCL := qh (hcl.more (S' := fun k => k < w2.heap.size) fun k hk => hk.2)
 clear hcl hb2 X0 HE0 t0 u0 u1 u2 u3
 go_upto_region 2 with fail
 have hal : Below w2.heap.size w2 (w2.alloc (.cells #[.int .i64 (encN ps v : Int), .slice F (encC ps v).length cF] 33)) := (Below.refl _ w2).alloc (qr _) _
 have X3 : Hid (Fx w A n c [.slice A1 n1 c1, .slice A2 n2 c2, .slice A3 n3 c3, .slice A4 n4 c4] w2.heap.size [.int .i64 (encN ps v : Int), .slice F (encC ps v).length cF] (w2.alloc (.cells #[.int .i64 (encN ps v : Int), .slice F (encC ps v).length cF] 33))) := qh ⟨X2.out.move hal, Whole.new w2 _ _ [.int .i64 (encN ps v : Int), .slice F (encC ps v).length cF] rfl⟩
 have HB3 := qh hal
 have hlq := HLQ.out _ X3.out.b.bel
 unfold LiteralsQ LiteralsP at hlq
 obtain ⟨ev, hev⟩ : ∃ x, validE ps v l = x := ⟨_, rfl⟩
 have HEV := qh hev
 rw [hev] at hlq
 have HL3 := qh hlq
 have t0 := X3.out.b.t.cell 0; have u0 := X3.out.b.v.cell 0; have u1 := X3.out.b.v.cell 1; have u2 := X3.out.b.v.cell 2; have u3 := X3.out.b.v.cell 3
 simp only [qgz, qgs] at t0 u0 u1 u2 u3
 generalize w2.alloc (.cells #[.int .i64 (encN ps v : Int), .slice F (encC ps v).length cF] 33) = w3 at *
 clear hal hev hlq HLQ X2
 go_upto_region 3 with (first | (go_at_call 13; refine HL3.out.mono ?_; rintro e w4 ⟨⟨Ia, ia, rfl, hra, hia, hia2, hb4⟩, hwh⟩; refine Hid.out ?_))
 refine qh ?_
 have X4 := qh (X3.out.move hb4)
 have HWH := qh (hwh _ _ _ _ rfl)
 have HRA := qh hra; have HB4 := qh hb4
 have HO4 := qh (Hrd.out _ X4.out.b.bel)
 clear hwh hra hb4 t0 u0 u1 u2 u3 HL3
 by_cases hgood : z = 0 ∧ ev = 0
 ·obtain ⟨hz, hv⟩ := hgood
  subst hz hv
  go_upto_region 5 with (first | (go_at_call 14; refine HO4.out.mono ?_; rintro e w5 ⟨rfl, hb5⟩; refine Hid.out ?_))
  refine qh ?_
  have X5 := qh (X4.out.move hb5)
  have HB5 := qh (hb5)
  have hl : litL ps v l = litsB (chVec ps v l) := litL_ok HEV.out
  have HLL := qh hl
  have HLN : Hid ((litL ps v l).length = manyC ps) := qh (by rw [hl, litsB_length, chVec_len])
  have HM14 : Hid (manyC ps ≤ 14) := qh (tree_parts (wish_parts HZ.out).tree).2.1
  clear hl hb5 HO4 Hrd
  have HWL := qh (by have h := HWH.out; rw [HLL.out, litsB_length, chVec_len] at h; exact h)
  have HRB := qh (by have h := HRA.out; rw [HLL.out, litsB_length, chVec_len] at h; exact h)
  rw [HLN.out]
  obtain ⟨M, hMd⟩ : ∃ x, manyC ps = x := ⟨_, rfl⟩
  have HMD := qh hMd
  rw [hMd] at HWL HRB HM14 HLN ⊢
  clear hMd
  have hmk := fun wx => make_boolsM M (by have := HM14.out; omega) wx
  go_upto_region 6 with fail
  have hfl : ((List.range M).map fun _ => Value.bool false) = (List.replicate M false).map Value.bool := by rw [List.map_replicate, List.map_const', List.length_range]
  have MB6 := qh (Whole.new w5 w5.heap.size 4 ((List.range M).map fun _ => Value.bool false) rfl)
  rw [hfl] at MB6
  have HB6 : Hid (Below w5.heap.size w5 (w5.alloc (.cells ((List.range M).map fun _ => Value.bool false).toArray 4))) := qh ((Below.refl _ w5).alloc (qr _) _)
  rw [hfl] at HB6
  rw [hfl]
  generalize w5.alloc (.cells ((List.replicate M false).map Value.bool).toArray 4) = w6 at *
  have HCN : Hid ((chVec ps v l).length = M) := qh (by have h := HLN.out; rw [HLL.out, litsB_length] at h; exact h)
  clear hfl hmk
  obtain ⟨ch, hch⟩ : ∃ x, chVec ps v l = x := ⟨_, rfl⟩
  have HCH := qh hch
  rw [hch] at HWL HRB HCN HLL
  clear hch
  go_upto_region 7 with fail
  go_loopg [56] M (fun g iv wr => ∃ (k : Nat) (bs : List Bool), Hid (k + g = M) ∧ iv = .int .i64 k ∧ Hid (bs.length = M) ∧ Hid (∀ j, j < k → bs.getD j false = ch.getD j false) ∧ Hid (Whole wr w5.heap.size 4 (bs.map Value.bool)) ∧ Hid (Below w5.heap.size w5 wr))
  case atStart => exact ⟨0, _, qh (Nat.zero_add _), rfl, qh (List.length_replicate ..), qh (fun j hj => absurd hj (by omega)), MB6, HB6⟩
  case round =>
   obtain ⟨k, bs, Hk, rfl, HBN, HEQ, MB, HBR⟩ := hrel
   by_cases hk : k < M
   ·obtain ⟨b1, o1, rfl, hb1S, g1⟩ := (RInts.below HRB.out (HB5.out.trans (HBR.out.mono HB5.out.size)) fun k hk => hk.2).at_ hk
    rw [litsB_get (by rw [HCN.out]; exact hk)] at g1
    have y := MB.out.cell k; have yf := MB.out.free k; have yl := MB.out.lt
    rw [List.getElem?_map, List.getElem?_eq_getElem (by rw [HBN.out]; exact hk)] at y
    simp only [Option.map_some] at y
    obtain ⟨x, hx⟩ : ∃ x, (if ch.getD k false = true then (k : Int) + 1 else -((k : Int) + 1)) = x := ⟨_, rfl⟩
    rw [hx] at g1
    have hpos : decide (0 < x) = ch.getD k false := by
     rw [← hx]
     cases ch.getD k false
     ·rw [if_neg (by decide)]; exact decide_eq_false (by omega)
     ·rw [if_pos rfl]; exact decide_eq_true (by omega)
    have HMB2 := qh (MB.out.set_ k (.bool (ch.getD k false)))
    have HBR2 := qh (HBR.out.setCell (p := ⟨w5.heap.size, k, none⟩) (qr _) (.bool (ch.getD k false)))
    have HEQ2 : Hid (∀ j, j < k + 1 → (bs.set k (ch.getD k false)).getD j false = ch.getD j false) := qh fun j hj => by
     by_cases e : j = k
     ·subst e; rw [List.getD_eq_getElem?_getD, List.getElem?_set_self (by rw [HBN.out]; exact hk)]; rfl
     ·rw [List.getD_eq_getElem?_getD, List.getElem?_set_ne (Ne.symm e), ← List.getD_eq_getElem?_getD]; exact HEQ.out j (by omega)
    generalize ch.getD k false = bb at hpos HMB2 HBR2 HEQ2
    have hk1 : (k : Int) < M := by omega
    have hk0 : (0 : Int) ≤ (k : Int) := by omega
    have hMb : (M : Int) ≤ 9223372036854775807 := by have := HM14.out; omega
    clear hx
    rw [← List.map_set] at HMB2
    go_wp2
    go_roundg (gk - 1)
    case measure => have := Hk.out; omega
    case rel => exact ⟨k + 1, _, qh (by have := Hk.out; omega), by go_num, qh (by rw [List.length_set]; exact HBN.out), HEQ2, HMB2, HBR2⟩
   ·have HBC : Hid (bs = ch) := qh (List.ext_getElem (by rw [HBN.out, HCN.out]) fun j h1 h2 => by
     have h := HEQ.out j (by have := HBN.out; omega)
     rw [List.getD_eq_getElem?_getD, List.getD_eq_getElem?_getD, List.getElem?_eq_getElem h1, List.getElem?_eq_getElem h2] at h
     exact h)
    rw [HBC.out] at MB
    have hk1 : ¬ (k : Int) < M := by omega
    clear HBC HEQ HBN
    have HCE : Hid (∀ bs : List Bool, bs.length = M → setE ps v bs = 0 ∧ setV ps v bs = setOfM (chW ps v) ps bs) := qh fun bs hb => by
     have h1 : setE ps v bs = 0 := by
      unfold setE
      rw [if_neg (by rw [HZ.out]; decide), if_neg (by rw [HMD.out, hb]; have := HM14.out; omega)]
     exact ⟨h1, by unfold setV; rw [if_pos h1]⟩
    have X7 := qh (X5.out.move HBR.out)
    have hset := HES.out ch (some ⟨w5.heap.size, 0, none⟩) M M _ X7.out.b.bel (MB.out.bools MB.out.lt HCN.out) (qr _) (by unfold maxLen; have := HM14.out; omega)
    unfold SetP at hset
    have hsv : setV ps v ch = l := by
     rw [(HCE.out ch HCN.out).2, ← HCH.out]
     exact setOf_chVec (wish_parts HZ.out).ok (valid_zero HEV.out).2.2
    rw [(HCE.out ch HCN.out).1, hsv] at hset
    have HSE := qh hset
    have t0 := X7.out.b.t.cell 0; have u0 := X7.out.b.v.cell 0; have u1 := X7.out.b.v.cell 1; have u2 := X7.out.b.v.cell 2; have u3 := X7.out.b.v.cell 3
    simp only [qgz, qgs] at t0 u0 u1 u2 u3
    clear hset hsv
    go_upto_region 12 with (first | (go_at_call 15; refine HSE.out.mono ?_; rintro e w8 ⟨Am, cm, rfl, hsm, hm1, hm2, hb8⟩; refine Hid.out ?_))
    refine qh ?_
    have X8 := qh (X7.out.move hb8)
    have hql := HLo.out.len
    have hss := sameSett_any l l (fun k => k < w8.heap.size) Am B l.length cm q d w8 (hsm.more fun k hk => hk.2) ((HLo.out.under X8.out.b.bel HS.out).more fun k hk => Hlt.out _ X8.out.b.bel k hk) (fun k hk => hk) (Nat.le_trans hm1 hm2) (Nat.le_trans hqd hd)
    rw [eqL_self] at hss
    have HSS := qh hss
    have HB8 := qh hb8
    have HW5 := qh MB.out.lt
    have MB8 := qh (MB.out.below hb8 MB.out.lt)
    clear hss hb8 hsm hql t0 u0 u1 u2 u3 HSE
    go_upto_region 14 with (first | (go_at_call 16; refine HSS.out.mono ?_; rintro e w9 ⟨rfl, hb9⟩; refine Hid.out ?_))
    refine qh ?_
    have X9 := qh (X8.out.move hb9)
    have HB9 := qh (HBR.out.trans ((HB8.out.trans (hb9.mono HB8.out.size)).mono (Nat.le_of_lt HW5.out)))
    have MB9 := qh (MB8.out.below hb9 MB8.out.lt)
    clear hb9 HSS X8 X7 HB8 MB8 MB HBR
    go_upto_region 14 with fail
    unfold maxLen at he
    go_cut [86, 87, 88] (fun s86 s87 s88 wx => ∃ m : Nat, s86 = .slice D m e' ∧ s87 = .int .i64 m ∧ s88 = .int .i64 0 ∧ Hid (m ≤ r ∧ m ≤ 20) ∧ wx = w9)
    case first =>
     by_cases hr : r ≤ 20
     ·have hr1 : ¬ ((20 : Int) < (r : Int)) := by omega
      go_wp2
      go_meet
      case rel => exact ⟨r, congrArg (fun x => Value.slice D x e') (by omega), congrArg (Value.int .i64) (by omega), rfl, qh ⟨qr _, hr⟩, rfl⟩
     ·have hr1 : (20 : Int) < (r : Int) := by omega
      go_wp2
      go_meet
      case rel => exact ⟨20, congrArg (fun x => Value.slice D x e') (by omega), congrArg (Value.int .i64) (by omega), rfl, qh ⟨by omega, qr _⟩, rfl⟩
    case rest =>
     obtain ⟨m, rfl, rfl, rfl, HMR, rfl⟩ := hcut
     obtain ⟨g, dv, HG⟩ : ∃ (g : Nat) (dv : Value), Hid (0 < M → Ia = some ⟨g, 1, none⟩ ∧ w3.heap.size ≤ g ∧ g < w5.heap.size ∧ Whole wc g 3 (dv :: (litsB ch).map (.int .i64))) := by
      by_cases h : 0 < M
      ·obtain ⟨g, d, h1, h2, h3⟩ := HWL.out h
       have h4 := h3.lt
       have h5 := HB5.out.size
       exact ⟨g, d, qh fun _ => ⟨h1, h2, by omega, (h3.below HB5.out h4).below HB9.out (by omega)⟩⟩
      ·exact ⟨0, .bool false, qh fun h2 => absurd h2 h⟩
     have HBW : Hid (Below w3.heap.size w3 wc) := qh ((HB4.out.trans (HB5.out.mono HB4.out.size)).trans (HB9.out.mono (Nat.le_trans HB4.out.size HB5.out.size)))
     have HS5 : Hid (w3.heap.size ≤ w5.heap.size) := qh (Nat.le_trans HB4.out.size HB5.out.size)
     go_upto_region 15 with fail
     go_loopg [88] m (fun gk iv wr => ∃ (i : Nat) (cur : List Bool), Hid (i + gk = m) ∧ iv = .int .i64 i ∧ Hid (cur.length = M) ∧ Hid (Whole wr w5.heap.size 4 (cur.map Value.bool)) ∧ Hid (0 < M → Whole wr g 3 (dv :: (litsB cur).map (.int .i64))) ∧ Hid (Below w3.heap.size w3 wr))
     case atStart => exact ⟨0, ch, qh (Nat.zero_add _), rfl, HCN, MB9, qh (fun h => (HG.out h).2.2.2), HBW⟩
     case round =>
      obtain ⟨i, cur, Hi, rfl, HCU, MBR, LBR, HBR⟩ := hrel
      by_cases hi : i < m
      ·have hbr : Below w.heap.size w wr := X3.out.b.bel.trans (HBR.out.mono X3.out.b.bel.size)
       obtain ⟨b1, o1, rfl, hb1S, g0⟩ := (RInts.below HF.out hbr HS.out).at_ (k := i) (by have := HMR.out.1; omega)
       have hfx := HFS.out (fs.getD i 0) (by rw [List.getD_eq_getElem?_getD, List.getElem?_eq_getElem (by rw [HF.out.len]; have := HMR.out.1; omega)]; exact List.getElem_mem _)
       generalize fs.getD i 0 = fx at g0 hfx
       have hi1 : (i : Int) < m := by omega
       have hi0 : (0 : Int) ≤ (i : Int) := by omega
       have hmb : (m : Int) ≤ 20 := by have := HMR.out.2; omega
       by_cases hM : 0 < M
       ·obtain ⟨hIa, hg3, hg5, _⟩ := HG.out hM
        subst hIa
        have HLB := qh (LBR.out hM)
        have hMi : (0 : Int) < M := by omega
        have HAt := qh (at_any fx M wr (by omega) (by have := HM14.out; omega) hfx.1 hfx.2)
        go_upto_region 19 with (first | (go_at_call 17; refine HAt.out.mono ?_; rintro e wn ⟨⟨rr, rfl, hr0, hr1⟩, hwn⟩; subst hwn; refine Hid.out ?_))
        refine qh ?_
        obtain ⟨kk, rfl⟩ : ∃ kk : Nat, rr = (kk : Int) := ⟨rr.toNat, by omega⟩
        have hkk : kk < M := by omega
        have y := MBR.out.cell kk; have yf := MBR.out.free kk; have yl := MBR.out.lt
        rw [List.getElem?_map, List.getElem?_eq_getElem (by rw [HCU.out]; exact hkk)] at y
        simp only [Option.map_some] at y
        have hcg : cur[kk]'(by rw [HCU.out]; exact hkk) = cur.getD kk false := by rw [List.getD_eq_getElem?_getD, List.getElem?_eq_getElem (by rw [HCU.out]; exact hkk)]; rfl
        rw [hcg] at y
        have hll : (litsB cur).length = M := by rw [litsB_length]; exact HCU.out
        have x0f := HLB.out.free (1 + kk); have x0l := HLB.out.lt
        have x0 : wn.cell? ⟨g, 1 + kk, none⟩ = some (.int .i64 ((litsB cur).getD kk 0)) := (HLB.out.cell (1 + kk)).trans (by rw [Nat.add_comm 1 kk, List.getElem?_cons_succ, List.getElem?_map, List.getElem?_eq_getElem (by rw [hll]; exact hkk), Option.map_some, get_d (by rw [hll]; exact hkk)])
        have hlg := litsB_get (m := cur) (k := kk) (by rw [HCU.out]; exact hkk)
        have hxb : -20 ≤ (litsB cur).getD kk 0 ∧ (litsB cur).getD kk 0 ≤ 20 := by
         rw [hlg]
         have := HM14.out
         split <;> omega
        have HFL := qh (fun x b => litsB_flip (m := cur) (k := kk) (x := x) (b := b) (by rw [HCU.out]; exact hkk))
        obtain ⟨x, hx⟩ : ∃ x, (litsB cur).getD kk 0 = x := ⟨_, rfl⟩
        obtain ⟨b, hb⟩ : ∃ x, cur.getD kk false = x := ⟨_, rfl⟩
        rw [hx] at x0 hxb
        rw [hb] at y
        have HFX := qh (HFL.out x b hx hb)
        have hwr : IntKind.i64.wrap (-x) = -x := IntWalk.i64_in _ (by omega)
        have hkM : (kk : Int) < M := by omega
        have hk00 : (0 : Int) ≤ (kk : Int) := by omega
        have hgm : g ≠ w5.heap.size := by omega
        clear hcg hll hlg hx hb HFL HAt hfx g0 HWH HWL HRA HRB
        have fs1 : Far (fun k => k = g) wn (wn.setCell ⟨g, 1 + kk, none⟩ (.int .i64 (-x))) := Far.set_ (D := fun k => k = g) rfl _ _
        have fs2 : Far (fun k => k = w5.heap.size) (wn.setCell ⟨g, 1 + kk, none⟩ (.int .i64 (-x))) ((wn.setCell ⟨g, 1 + kk, none⟩ (.int .i64 (-x))).setCell ⟨w5.heap.size, kk, none⟩ (.bool (!b))) := Far.set_ (D := fun k => k = w5.heap.size) rfl _ _
        have hL1 : Whole (wn.setCell ⟨g, 1 + kk, none⟩ (.int .i64 (-x))) g 3 (dv :: (litsB (cur.set kk (!b))).map (.int .i64)) := by
         have h := HLB.out.set_ (1 + kk) (.int .i64 (-x))
         rw [Nat.add_comm 1 kk, List.set_cons_succ, ← List.map_set, HFX.out] at h
         rw [Nat.add_comm 1 kk]; exact h
        have HL2 := qh (fs2.whole hL1 (by omega))
        have HM2 : Hid (Whole ((wn.setCell ⟨g, 1 + kk, none⟩ (.int .i64 (-x))).setCell ⟨w5.heap.size, kk, none⟩ (.bool (!b))) w5.heap.size 4 ((cur.set kk (!b)).map Value.bool)) := qh (by
         have h := (fs1.whole MBR.out (by omega)).set_ kk (.bool (!b))
         rw [← List.map_set] at h
         exact h)
        have HB2 := qh ((HBR.out.setCell (p := ⟨g, 1 + kk, none⟩) hg3 (.int .i64 (-x))).setCell (p := ⟨w5.heap.size, kk, none⟩) HS5.out (.bool (!b)))
        have HC2 : Hid ((cur.set kk (!b)).length = M) := qh (by rw [List.length_set]; exact HCU.out)
        clear fs1 fs2 hL1
        go_upto_region 19 with fail
        go_region
        go_wp2
        go_roundg (gk - 1)
        case measure => have := Hi.out; omega
        case rel => exact ⟨i + 1, cur.set kk (!b), qh (by have := Hi.out; omega), by go_num, HC2, qh HM2.out, qh (fun _ => HL2.out), qh (below_drewN HB2.out 1)⟩
       ·have hMi : ¬ (0 : Int) < M := by omega
        go_wp2
        go_roundg (gk - 1)
        case measure => have := Hi.out; omega
        case rel => exact ⟨i + 1, cur, qh (by have := Hi.out; omega), by go_num, HCU, MBR, LBR, HBR⟩
      ·have hi1 : ¬ (i : Int) < m := by omega
       have HX9 := qh (X3.out.move HBR.out)
       have hset := HES.out cur (some ⟨w5.heap.size, 0, none⟩) M M _ HX9.out.b.bel (MBR.out.bools MBR.out.lt HCU.out) (qr _) (by unfold maxLen; have := HM14.out; omega)
       unfold SetP at hset
       rw [(HCE.out cur HCU.out).1, (HCE.out cur HCU.out).2] at hset
       obtain ⟨l2, hl2⟩ : ∃ x, setOfM (chW ps v) ps cur = x := ⟨_, rfl⟩
       rw [hl2] at hset
       have HL2 := qh hl2
       obtain ⟨l2n, hl2n⟩ : ∃ x, l2.length = x := ⟨_, rfl⟩
       rw [hl2n] at hset
       have HSE := qh hset
       have t0 := HX9.out.b.t.cell 0; have u0 := HX9.out.b.v.cell 0; have u1 := HX9.out.b.v.cell 1; have u2 := HX9.out.b.v.cell 2; have u3 := HX9.out.b.v.cell 3
       simp only [qgz, qgs] at t0 u0 u1 u2 u3
       have hvz : validE ps v l2 = 0 := by
        unfold validE
        rw [if_neg (by rw [HZ.out]; decide)]
        unfold ckSet
        rw [if_neg (by rw [(wish_parts HZ.out).tree]; decide), ← hl2]
        exact setOfM_ck fun _ _ => True.intro
       have HVZ := qh hvz
       clear hset hl2 hvz
       go_upto_region 22 with (first | (go_at_call 15; refine HSE.out.mono ?_; rintro e w8 ⟨Am2, cm2, rfl, hsm, hm1, hm2, hb8⟩; refine Hid.out ?_))
       refine qh ?_
       have X8 := qh (HX9.out.move hb8)
       have HB8 := qh (HBR.out.trans (hb8.mono HBR.out.size))
       have hva := HVA.out l2 Am2 l2n cm2 w8 X8.out.b.bel (hsm.more fun k hk => hk.2) hm1 hm2
       have hvv : validV ps v l2 = validP ps v.ts v.ms l2 := by unfold validV; rw [decide_eq_true HVZ.out, Bool.true_and]
       obtain ⟨mb, hmb⟩ : ∃ x, validP ps v.ts v.ms l2 = x := ⟨_, rfl⟩
       rw [hvv, hmb, HVZ.out] at hva
       have HVL := qh hva
       have HMB := qh hmb
       have LB8 := qh (fun h => (LBR.out h).below hb8 (LBR.out h).lt)
       have t0 := X8.out.b.t.cell 0; have u0 := X8.out.b.v.cell 0; have u1 := X8.out.b.v.cell 1; have u2 := X8.out.b.v.cell 2; have u3 := X8.out.b.v.cell 3
       simp only [qgz, qgs] at t0 u0 u1 u2 u3
       clear hva hvv hmb hsm hb8 HSE HX9 HBR MBR LBR
       go_upto_region 23 with (first | (go_at_call 18; refine HVL.out.mono ?_; rintro e w10 ⟨rfl, hb10⟩; refine Hid.out ?_))
       refine qh ?_
       have X10 := qh (X8.out.move hb10)
       have HB10 := qh (HB8.out.trans (hb10.mono HB8.out.size))
       have HRL : Hid (RInts w10 (fun k => k < w10.heap.size) Ia M (litsB cur)) := qh (by
        by_cases h : 0 < M
        ·obtain ⟨e1, _⟩ := HG.out h
         rw [e1]
         exact lits_row ((LB8.out h).below hb10 (LB8.out h).lt) (by rw [litsB_length]; exact HCU.out)
        ·obtain rfl : M = 0 := by omega
         have hl : litsB cur = [] := List.length_eq_zero_iff.1 (by rw [litsB_length]; exact HCU.out)
         rw [hl]; exact RInts.nil_)
       have hb210 : Below w2.heap.size w2 w10 := HB3.out.trans (HB10.out.mono HB3.out.size)
       have HCL10 := qh ((HCL.out.below hb210 fun k hk => hk).more (S' := fun k => k < w10.heap.size) fun k hk => ql hk hb210.size)
       obtain ⟨e1, e2, e3⟩ := em_fol HZ.out (m0 := cur) (by rw [HMD.out]; exact HCU.out)
       rw [HL2.out, HMB.out] at e2 e3
       have hn400 : encN ps v ≤ 400 := by rw [(encN_of HZ.out).1]; exact (encW_ok HZ.out).n400
       obtain ⟨N, hN⟩ : ∃ x, encN ps v = x := ⟨_, rfl⟩
       obtain ⟨cs, hcs⟩ : ∃ x, encC ps v = x := ⟨_, rfl⟩
       rw [hN] at hn400
       rw [hN, hcs] at e1 e2 e3
       rw [hcs] at HCL10 hcc
       rw [hN, hcs] at X10
       have hfo := follows_any F Ia cs.length cF M ia (N : Int) cs (litsB cur) w10 (fun k => k < w10.heap.size) (fun k hk => hk) HCL10.out HRL.out ⟨hcc, hcm⟩ (by unfold maxLen; have := HM14.out; omega) (by omega) (by omega)
       unfold FolPost at hfo
       rw [e1, e2] at hfo
       have HFO := qh hfo
       have HE3 := qh e3
       have f0 := X10.out.f.cell 0; have f1 := X10.out.f.cell 1
       simp only [qgz, qgs] at f0 f1
       have flt := X10.out.f.lt
       clear hfo e1 e2 e3 hb10 hb210 HVL X8 HB8 LB8 t0 u0 u1 u2 u3 hN hcs
       go_upto_region 24 with (first | (go_at_call 19; refine HFO.out.mono ?_; rintro e w11 ⟨A9, n9, c9, rfl, hr9, hn9, hc9, hb11⟩; refine Hid.out ?_))
       refine qh ?_
       have X11 := qh (X10.out.move hb11)
       have HR11 := qh (hr9.more (S' := fun k => k < w11.heap.size) fun k hk => hk.2)
       have HCL11 := qh ((HCL10.out.below hb11 fun k hk => hk).more (S' := fun k => k < w11.heap.size) fun k hk => ql hk hb11.size)
       clear hr9 hb11 HFO HCL10 HRL X10 f0 f1 flt
       cases mb
       ·have hbb : (false != false) = false := rfl
        go_wp2
        go_ret
        exact ⟨rfl, X11.out.b.bel⟩
       ·obtain ⟨bs, hbs, hfl, hh1, hh2⟩ := HE3.out rfl
        rw [hfl] at HR11
        have HBS := qh hbs; have HH1 := qh hh1; have HH2 := qh hh2
        have hn9N : n9 = N := by have := HR11.out.len; rw [litsB_length] at this; omega
        subst hn9N
        have hmk := fun wx => make_boolsM n9 (by omega) wx
        have f0 := X11.out.f.cell 0
        simp only [List.getElem?_cons_zero] at f0
        have flt := X11.out.f.lt
        clear hbs hfl hh1 hh2 HE3
        go_upto_region 30 with fail
        have hfl : ((List.range n9).map fun _ => Value.bool false) = (List.replicate n9 false).map Value.bool := by rw [List.map_replicate, List.map_const', List.length_range]
        have MB12 := qh (Whole.new w11 w11.heap.size 4 ((List.range n9).map fun _ => Value.bool false) rfl)
        have HB12 : Hid (Below w11.heap.size w11 (w11.alloc (.cells ((List.range n9).map fun _ => Value.bool false).toArray 4))) := qh ((Below.refl _ w11).alloc (qr _) _)
        rw [hfl] at MB12 HB12 ⊢
        generalize w11.alloc (.cells ((List.replicate n9 false).map Value.bool).toArray 4) = w12 at *
        clear hfl hmk f0 flt
        go_loopg [159] n9 (fun gk iv wr => ∃ (k : Nat) (fb : List Bool), Hid (k + gk = n9) ∧ iv = .int .i64 k ∧ Hid (fb.length = n9) ∧ Hid (∀ j, j < k → fb.getD j false = bs.getD j false) ∧ Hid (Whole wr w11.heap.size 4 (fb.map Value.bool)) ∧ Hid (Below w11.heap.size w11 wr))
        case atStart => exact ⟨0, _, qh (Nat.zero_add _), rfl, qh (List.length_replicate ..), qh (fun j hj => absurd hj (by omega)), MB12, HB12⟩
        case round =>
         obtain ⟨k, fb, Hk, rfl, HFN, HFE, MBR, HBR⟩ := hrel
         clear MB12 HB12
         by_cases hk : k < n9
         ·obtain ⟨b7, o7, rfl, hb7, g7⟩ := (HR11.out.below HBR.out fun k hk => hk).at_ hk
          rw [litsB_get (by rw [HBS.out]; exact hk)] at g7
          have y := MBR.out.cell k; have yf := MBR.out.free k; have yl := MBR.out.lt
          rw [List.getElem?_map, List.getElem?_eq_getElem (by rw [HFN.out]; exact hk)] at y
          simp only [Option.map_some] at y
          have HM2 := qh (MBR.out.set_ k (.bool (bs.getD k false)))
          have HB2 := qh (HBR.out.setCell (p := ⟨w11.heap.size, k, none⟩) (qr _) (.bool (bs.getD k false)))
          have HE2 : Hid (∀ j, j < k + 1 → (fb.set k (bs.getD k false)).getD j false = bs.getD j false) := qh fun j hj => by
           by_cases e : j = k
           ·subst e; rw [List.getD_eq_getElem?_getD, List.getElem?_set_self (by rw [HFN.out]; exact hk)]; rfl
           ·rw [List.getD_eq_getElem?_getD, List.getElem?_set_ne (Ne.symm e), ← List.getD_eq_getElem?_getD]; exact HFE.out j (by omega)
          rw [← List.map_set] at HM2
          have HL2 : Hid ((fb.set k (bs.getD k false)).length = n9) := qh (by rw [List.length_set]; exact HFN.out)
          have hk1 : (k : Int) < n9 := by omega
          have hk0 : (0 : Int) ≤ (k : Int) := by omega
          have hkk : (k : Int) + 1 - 1 = k := by omega
          have hN9 : (n9 : Int) ≤ 400 := by omega
          generalize bs.getD k false = bb at g7 HM2 HB2 HE2 HL2
          cases bb
          ·have hmx : max (-((k : Int) + 1)) ((k : Int) + 1) = (k : Int) + 1 := by omega
           have hd : decide ((0 : Int) < -((k : Int) + 1)) = false := decide_eq_false (by omega)
           rw [if_neg (by decide)] at g7
           go_wp2
           go_roundg (gk - 1)
           case measure => have := Hk.out; omega
           case rel => exact ⟨k + 1, _, qh (by have := Hk.out; omega), by go_num, HL2, HE2, HM2, HB2⟩
          ·have hmx : max ((k : Int) + 1) (-((k : Int) + 1)) = (k : Int) + 1 := by omega
           have hd : decide ((0 : Int) < (k : Int) + 1) = true := decide_eq_true (by omega)
           rw [if_pos rfl] at g7
           go_wp2
           go_roundg (gk - 1)
           case measure => have := Hk.out; omega
           case rel => exact ⟨k + 1, _, qh (by have := Hk.out; omega), by go_num, HL2, HE2, HM2, HB2⟩
         ·have HFB : Hid (fb = bs) := qh (List.ext_getElem (by rw [HFN.out, HBS.out]) fun j h1 h2 => by
           have h := HFE.out j (by have := HFN.out; have := Hk.out; omega)
           rw [List.getD_eq_getElem?_getD, List.getD_eq_getElem?_getD, List.getElem?_eq_getElem h1, List.getElem?_eq_getElem h2] at h
           exact h)
          rw [HFB.out] at MBR
          have X13 := qh (X11.out.move HBR.out)
          have hho := choldsF_any F (some ⟨w11.heap.size, 0, none⟩) cs.length cF n9 n9 (n9 : Int) cs bs wr (fun k => k < wr.heap.size) (fun k hk => hk) ((HCL11.out.below HBR.out fun k hk => hk).more fun k hk => ql hk HBR.out.size) (MBR.out.bools MBR.out.lt HBS.out) ⟨hcc, hcm⟩ (by unfold maxLen; omega) (by omega) (by omega)
          rw [HH1.out, HH2.out] at hho
          have HHO := qh hho
          have f0 := X13.out.f.cell 0; have f1 := X13.out.f.cell 1
          simp only [qgz, qgs] at f0 f1
          have flt := X13.out.f.lt
          have hk1 : ¬ (k : Int) < n9 := by omega
          clear hho HFB HFE HFN
          go_upto_region 35 with (first | (go_at_call 20; refine HHO.out.mono ?_; rintro e w14 ⟨rfl, hb14⟩; refine Hid.out ?_))
          refine qh ?_
          have X14 := qh (X13.out.move hb14)
          have f0 := X14.out.f.cell 0
          simp only [List.getElem?_cons_zero] at f0
          have flt := X14.out.f.lt
          clear hb14 HHO
          go_wp2
          go_ret
          exact ⟨rfl, X14.out.b.bel⟩
 ·by_cases hz : z = 0
  ·subst hz
   have hv : ev ≠ 0 := fun h => hgood ⟨rfl, h⟩
   have hvb : (ev == 0) = false := by simpa using hv
   have hvn : (ev != 0) = true := by unfold bne; rw [hvb]; rfl
   go_upto_region 4 with (first | (go_at_call 14; refine HO4.out.mono ?_; rintro e w5 ⟨rfl, hb5⟩; refine Hid.out ?_))
   refine qh ?_
   have X5 := qh (X4.out.move hb5)
   have HO5 := qh (Hrd.out _ X5.out.b.bel)
   clear hb5 HO4
   go_wp2_with (first | (go_at_call 14; refine HO5.out.mono ?_; rintro e w6 ⟨rfl, hb6⟩; refine Hid.out ?_))
   refine qh ?_
   have X6 := qh (X5.out.move hb6)
   clear hb6
   go_wp2
   go_ret
   exact ⟨rfl, X6.out.b.bel⟩
  ·have hzb : (z == 0) = false := by simpa using hz
   have hzn : (z != 0) = true := by unfold bne; rw [hzb]; rfl
   go_upto_region 4 with (first | (go_at_call 14; refine HO4.out.mono ?_; rintro e w5 ⟨rfl, hb5⟩; refine Hid.out ?_))
   refine qh ?_
   have X5 := qh (X4.out.move hb5)
   have HO5 := qh (Hrd.out _ X5.out.b.bel)
   clear hb5 HO4
   go_wp2_with (first | (go_at_call 14; refine HO5.out.mono ?_; rintro e w6 ⟨rfl, hb6⟩; refine Hid.out ?_))
   refine qh ?_
   have X6 := qh (X5.out.move hb6)
   clear hb6
   go_wp2
   go_ret
   exact ⟨rfl, X6.out.b.bel⟩
end Go.Proofs.YtedbhlgjcnnknaaGreatDoor

/- Arguments that can be read as data, opened into the words of these proofs. -/
namespace Go.Proofs.YtedbhlgjcnnknaaGreatDoor
open Go.ChangeShapes Go.WideShapes Go.ChangeAt Go.RowKit Go.Joins Go.Deep

theorem spot_add {w : World} {a : Addr} {n : Nat} {f : Nat → Value} (hn : 0 < n) (h : ∀ i, i < n → w.cell? (a.add i) = some (f i)) : ∃ b o, a = ⟨b, o, none⟩ ∧ b < w.heap.size ∧ ∀ j, j < n → w.cell? ⟨b, o + j, none⟩ = some (f j) := by
 obtain ⟨b, o, spot⟩ := a
 have h0 := h 0 hn
 have hs : spot = none := by simpa [Addr.add] using World.cell?_spot h0
 subst hs
 have ha : ∀ j, (⟨b, o, none⟩ : Addr).add j = ⟨b, o + j, none⟩ := by
  intro j; unfold Addr.add; by_cases hj : j = 0 <;> simp [hj]
 refine ⟨b, o, rfl, ?_, fun j hj => by rw [← ha]; exact h j hj⟩
 have := World.block_lt_of_cell? w _ h0
 rw [ha] at this; exact this

theorem row_of_cells {w : World} {a : Addr} {n : Nat} {vs : List Value} (hl : vs.length = n) (h : ∀ i (_ : i < n), w.cell? (a.add i) = vs[i]?) : Row w (fun k => k < w.heap.size) (some a) n vs := by
 refine ⟨hl, fun hn => ?_⟩
 obtain ⟨b, o, rfl, hb, hc⟩ := spot_add (f := fun i => (vs[i]?).getD undef) hn (fun i hi => by rw [h i hi, List.getElem?_eq_getElem (by omega)]; rfl)
 exact ⟨b, o, rfl, hb, fun j hj => by rw [hc j hj, List.getElem?_eq_getElem (by omega)]; rfl⟩

section
variable {H : Type} {enc : TypeId × Value → H} {P : Program} {w : World} {base : Nat} {held : Bool}
def InI64 (xs : List Int) : Prop := ∀ x ∈ xs, -9223372036854775808 ≤ x ∧ x ≤ 9223372036854775807
theorem i64_bd {x : Int} (h : (Lit.int .i64 x).wf = true) : -9223372036854775808 ≤ x ∧ x ≤ 9223372036854775807 := by
 simp [Lit.wf, IntKind.min, IntKind.max, IntKind.bits, IntKind.signed] at h; omega
theorem rints_of_trod {t e : TypeId} {fuel : Nat} {v : Value} {x : DataW H × List MemPlace} (ht : P.underlying t = some (.slice e)) (he : P.underlying e = some (.int .i64)) (hc : P.cellsOf e = 1)
  (h : DataW.trod enc P w base (fun _ => true) held fuel t [v] = some x) : ∃ (A : Option Addr) (n c : Nat) (xs : List Int), v = .slice A n c ∧ n ≤ c ∧ c ≤ maxLen ∧ RInts w (fun k => k < w.heap.size) A n xs ∧ InI64 xs := by
 rcases open_ints ht he hc h with ⟨hcs, _⟩ | ⟨a, len, cap, zs, hcs, _, hl, hm, hz, _, hcell, hwf⟩
 ·simp at hcs
  exact ⟨none, 0, 0, [], hcs, qr _, Nat.zero_le _, RInts.nil_, fun x hx => by simp at hx⟩
 ·simp at hcs hz
  refine ⟨some a, len, cap, zs.take len, hcs, hl, hm, row_of_cells (by simp; omega) (fun i hi => ?_), fun x hx => i64_bd (hwf x (List.mem_of_mem_take hx))⟩
  rw [hcell i (by omega), List.getElem?_map, List.getElem?_take_of_lt hi, List.getD_eq_getElem?_getD, List.getElem?_eq_getElem (by omega)]; rfl
end
end Go.Proofs.YtedbhlgjcnnknaaGreatDoor

/- Arguments that can be read as data, opened: atoms, strings; what the listed variables hold. -/
namespace Go.Proofs.YtedbhlgjcnnknaaGreatDoor
open Go.ChangeShapes Go.WideShapes Go.ChangeAt Go.RowKit Qm

section
variable {H : Type} {enc : TypeId × Value → H} {w : World} {base : Nat} {sp : Nat → Bool} {held : Bool}
theorem field_cell {P : Program} {t : TypeId} {fs : Array Field} {fuel : Nat} {cs : List Value} {x : DataW H × List MemPlace} (ht : P.underlying t = some (.struct fs)) (h : DataW.trod enc P w base sp held fuel t cs = some x)
  (i : Nat) {f : Field} (hf : fs[i]? = some f) (hc : P.cellsOf f.type = 1) (hlt : f.offset < P.cellsOf t) : ∃ c n y, cs[f.offset]? = some c ∧ DataW.trod enc P w base sp held n f.type [c] = some y := by
 obtain ⟨xs, n, _, _, hl, hxl, hx⟩ := DataW.trod_struct ht h
 have h1 := hx i f hf
 have hlt' : f.offset < cs.length := by omega
 have hi : i < fs.size := (Array.getElem?_eq_some_iff.1 hf).1
 rw [hc, List.drop_eq_getElem_cons hlt'] at h1
 refine ⟨cs[f.offset], n, xs[i]'(by omega), List.getElem?_eq_getElem hlt', ?_⟩
 rw [List.getElem?_eq_getElem (by omega)] at h1
 have e : (cs[f.offset] :: List.drop (f.offset + 1) cs).take 1 = [cs[f.offset]] := rfl
 rw [e] at h1
 exact h1
def In64 (x : Int) : Prop := -9223372036854775808 ≤ x ∧ x ≤ 9223372036854775807
theorem i64_le {x : Int} (h : (Lit.int .i64 x).wf = true) : In64 x := by
 unfold In64
 simp [Lit.wf, IntKind.min, IntKind.max, IntKind.bits, IntKind.signed] at h; omega
theorem six_of {α : Type} {cs : List α} {a b c d e f : α} (hl : cs.length = 6) (h0 : cs[0]? = some a) (h1 : cs[1]? = some b) (h2 : cs[2]? = some c) (h3 : cs[3]? = some d) (h4 : cs[4]? = some e) (h5 : cs[5]? = some f) : cs = [a, b, c, d, e, f] := by
 match cs, hl with
 | [_, _, _, _, _, _], _ => simp at h0 h1 h2 h3 h4 h5; simp [h0, h1, h2, h3, h4, h5]
theorem str_one {P : Program} {t : TypeId} {n : Nat} {c : Value} {y : DataW H × List MemPlace} (ht : P.underlying t = some .string) (h : DataW.trod enc P w base sp held n t [c] = some y) : ∃ s : ByteArray, c = .string s ∧ s.size ≤ maxLen := by
 obtain ⟨s, e, _, hs⟩ := DataW.trod_string ht h
 simp at e
 exact ⟨s, e, hs⟩
theorem int_oneA {P : Program} {t : TypeId} {n : Nat} {c : Value} {y : DataW H × List MemPlace} (ht : P.underlying t = some (.int .i64)) (h : DataW.trod enc P w base sp held n t [c] = some y) : ∃ x : Int, c = .int .i64 x ∧ In64 x := by
 obtain ⟨x, e, _, hs⟩ := DataW.trod_int ht h
 simp at e
 exact ⟨x, e, i64_le hs⟩
theorem bool_one_ {P : Program} {t : TypeId} {n : Nat} {c : Value} {y : DataW H × List MemPlace} (ht : P.underlying t = some .bool) (h : DataW.trod enc P w base sp held n t [c] = some y) : ∃ x : Bool, c = .bool x := by
 obtain ⟨x, e, _⟩ := DataW.trod_bool ht h
 simp at e
 exact ⟨x, e⟩
theorem atom_cells {fuel : Nat} {cs : List Value} {x : DataW H × List MemPlace} (h : DataW.trod enc Tryz.prog w base sp held fuel 75 cs = some x) :
  ∃ (s f : ByteArray) (op ver slot : Int) (on : Bool), cs = [.string s, .int .i64 op, .int .i64 ver, .int .i64 slot, .string f, .bool on] ∧ s.size ≤ maxLen ∧ f.size ≤ maxLen ∧ In64 op ∧
   In64 ver ∧ In64 slot := by
 have hT := Tryz.underlying75
 have hl : cs.length = 6 := by
  obtain ⟨_, _, _, _, hl, _⟩ := DataW.trod_struct hT h
  rw [hl]; kernel_rfl
 obtain ⟨c0, n0, y0, e0, k0⟩ := field_cell hT h 0 rfl (by kernel_rfl) (of_decide_eq_true (by kernel_rfl))
 obtain ⟨c1, n1, y1, e1, k1⟩ := field_cell hT h 1 rfl (by kernel_rfl) (of_decide_eq_true (by kernel_rfl))
 obtain ⟨c2, n2, y2, e2, k2⟩ := field_cell hT h 2 rfl (by kernel_rfl) (of_decide_eq_true (by kernel_rfl))
 obtain ⟨c3, n3, y3, e3, k3⟩ := field_cell hT h 3 rfl (by kernel_rfl) (of_decide_eq_true (by kernel_rfl))
 obtain ⟨c4, n4, y4, e4, k4⟩ := field_cell hT h 4 rfl (by kernel_rfl) (of_decide_eq_true (by kernel_rfl))
 obtain ⟨c5, n5, y5, e5, k5⟩ := field_cell hT h 5 rfl (by kernel_rfl) (of_decide_eq_true (by kernel_rfl))
 obtain ⟨s, rfl, hs⟩ := str_one Tryz.underlying9 k0
 obtain ⟨op, rfl, ho⟩ := int_oneA Tryz.underlying3 k1
 obtain ⟨ver, rfl, hv⟩ := int_oneA Tryz.underlying3 k2
 obtain ⟨slot, rfl, hsl⟩ := int_oneA Tryz.underlying3 k3
 obtain ⟨f, rfl, hf⟩ := str_one Tryz.underlying9 k4
 obtain ⟨on, rfl⟩ := bool_one_ Tryz.underlying4 k5
 exact ⟨s, f, op, ver, slot, on, six_of hl e0 e1 e2 e3 e4 e5, hs, hf, ho, hv, hsl⟩
end

/-! what the listed variables hold -/
theorem laid_at {P : Program} {w : World} : ∀ {l : List (String × DataW Unit)} {k : Nat} {x : String × DataW Unit}, laidMet P l w → l[k]? = some x → ∃ r, laidMet P (x :: r) w
 | [], _, _, _, h => by simp at h
 | y :: r, 0, x, h, hk => by
  simp only [List.getElem?_cons_zero, Option.some.injEq] at hk
  subst hk
  exact ⟨r, h⟩
 | y :: r, k + 1, x, h, hk => laid_at h.tail (by simpa using hk)
theorem gPow : Tryz.prog.globalNamed "internal/strconv.uint64pow10" = some 1 := by kernel_rfl
theorem gRng : Tryz.prog.globalNamed "strconv.ErrRange" = some 3 := by kernel_rfl
theorem gSyn : Tryz.prog.globalNamed "strconv.ErrSyntax" = some 2 := by kernel_rfl
theorem tPow : (Tryz.prog.globals[1]?).map (·.type) = some 240 := by kernel_rfl
theorem tRng : (Tryz.prog.globals[3]?).map (·.type) = some 176 := by kernel_rfl
theorem tSyn : (Tryz.prog.globals[2]?).map (·.type) = some 176 := by kernel_rfl
theorem rowErr : ∀ u, Tryz.prog.typeName? 3 u = some "*errors.errorString" → u = 263 := fun _ h => typeName_ptr_named (nm := "errors.errorString") (by kernel_rfl) (by kernel_rfl) (by decide) _ h
theorem laidV_of {w : World} {l : List (String × DataW Unit)} (h : laidMet Tryz.prog l w) {i j k : Nat} (hi : l[i]? = some ("internal/strconv.uint64pow10", Rows.laid_internal_strconv_uint64pow10)) (hj : l[j]? = some ("strconv.ErrRange", Rows.laid_strconv_ErrRange)) (hk : l[k]? = some ("strconv.ErrSyntax", Rows.laid_strconv_ErrSyntax)) : LaidV w := by
 obtain ⟨_, h1⟩ := laid_at h hi
 obtain ⟨_, h2⟩ := laid_at h hj
 obtain ⟨_, h3⟩ := laid_at h hk
 obtain ⟨a2, s2, e2, _⟩ := laid_sentinel h2 gRng tRng Tryz.underlying176 rowErr Tryz.underlying263 Tryz.underlying265 rfl rfl Tryz.underlying9 (by kernel_rfl) (by kernel_rfl)
 obtain ⟨a3, s3, e3, _⟩ := laid_sentinel h3 gSyn tSyn Tryz.underlying176 rowErr Tryz.underlying263 Tryz.underlying265 rfl rfl Tryz.underlying9 (by kernel_rfl) (by kernel_rfl)
 exact ⟨⟨_, _, e3⟩, ⟨_, _, e2⟩, Lib.tabIs_of_head gPow tPow Tryz.underlying240 Tryz.underlying213 (by kernel_rfl) (by kernel_rfl) h1⟩
end Go.Proofs.YtedbhlgjcnnknaaGreatDoor
