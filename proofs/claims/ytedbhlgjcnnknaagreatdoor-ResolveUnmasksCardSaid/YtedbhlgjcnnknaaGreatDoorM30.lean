/- Parts of the proof: walks and plain laws, side by side. -/
import Derived.Test.YtedbhlgjcnnknaaGreatDoorM29
import Derived.Test.YtedbhlgjcnnknaaGreatDoorM28
import Derived.Test.YtedbhlgjcnnknaaGreatDoorM7
import Derived.Test.YtedbhlgjcnnknaaGreatDoorRows
import Derived.Test.YtedbhlgjcnnknaaGreatDoorM12
import Derived.ProofKit
import Derived.LaidMore
import Derived.OpenShut
import Derived.Stop.Joined
import Derived.Stop.LaidErr
import Derived.Lib.LaidTab
import Derived.Test.YtedbhlgjcnnknaaGreatDoorM1
import Derived.ChangeOld
import Derived.Lib.SmallJoins
import Derived.Deep.Matrix
import Derived.Deep.Grids
import Derived.Test.YtedbhlgjcnnknaaGreatDoorM9
import Derived.Test.YtedbhlgjcnnknaaGreatDoorM11
set_option linter.unusedVariables false
set_option linter.unusedSimpArgs false
set_option linter.unusedSectionVars false
namespace Go.Proofs.YtedbhlgjcnnknaaGreatDoor
/- ResolveUnmasks, walked: it returns true. -/
section
open Go.RowKit Qm

theorem runmD_any (x but : Int) (bb ub : Nat) (U : Option Addr) (un uc : Nat) (us : List Int) (S : Nat → Prop) (w : World) (hb : w.cell? ⟨bb, 0, none⟩ = some (.int .i64 but)) (hu : w.cell? ⟨ub, 0, none⟩ = some (.slice U un uc)) (hr : RInts w S U un us) (hun : un ≤ maxLen) :
  Calls Tryz.prog 42 #[.int .i64 x, .pointer (some ⟨bb, 0, none⟩), .pointer (some ⟨ub, 0, none⟩)] w fun e w' => e = .returned (.bool (decide (x ≠ but) && us.contains x)) ∧ ∃ q, w' = w.drewN q := by
 have Hco := qh (containsI_any U un uc us x w S hr hun)
 clear hr
 obtain ⟨cb, hcb⟩ : ∃ b, us.contains x = b := ⟨_, rfl⟩
 rw [hcb] at Hco ⊢
 clear hcb
 go_enter Tryz.func42, Tryz.ntmps42
 by_cases h : x = but
 ·subst h
  have hx : (x == x) = true := beq_self_eq_true x
  have hxn : (x != x) = false := by unfold bne; rw [hx]; rfl
  go_wp2_with (first | (go_at_call 43; refine Hco.out.mono ?_; rintro e w6 ⟨rfl, hw4⟩; have hw5 := hw4.symm; subst hw5; refine Hid.out ?_))
  go_ret
  exact ⟨ret_bool (by simp), 0, rfl⟩
 ·have hx : (x == but) = false := by simpa using h
  have hxn : (x != but) = true := by unfold bne; rw [hx]; rfl
  have hd : decide (x ≠ but) = true := decide_eq_true h
  rw [hd]
  clear hd h
  go_wp2_with (first | (go_at_call 43; refine Hco.out.mono ?_; rintro e w6 ⟨rfl, hw4⟩; have hw5 := hw4.symm; subst hw5; refine Hid.out ?_))
  refine qh ?_
  go_wp2
  go_ret
  exact ⟨ret_bool (by simp), 0, rfl⟩
set_option maxRecDepth 100000 in
set_option maxHeartbeats 3200000 in
theorem runmW_any (ps : List Pk) (v : Ws) (but : Int) (S : Nat → Prop) (A : Option Addr) (n c : Nat) (A1 A2 A3 A4 : Option Addr) (n1 c1 n2 c2 n3 c3 n4 c4 : Nat) (tb wb ub : Nat) (U : Option Addr) (un uc : Nat) (us : List Int) (w : World) (hT : RTree w S A n ps) (hnc : n ≤ c) (hc : c ≤ maxLen) (hV : WsAt w S A1 n1 c1 A2 n2 c2 A3 n3 c3 A4 n4 c4 v) (hS : ∀ k, S k → k < w.heap.size)
  (ht : Whole w tb 24 [.slice A n c]) (hw : Whole w wb 30 [.slice A1 n1 c1, .slice A2 n2 c2, .slice A3 n3 c3, .slice A4 n4 c4]) (hu : Whole w ub 27 [.slice U un uc]) (hr : RInts w S U un us) (hun : un ≤ maxLen) (hn3 : n3 ≤ 8) :
  Calls Tryz.prog 40 #[.int .i64 but, .pointer (some ⟨wb, 0, none⟩), .pointer (some ⟨ub, 0, none⟩), .pointer (some ⟨tb, 0, none⟩)] w fun e w' => e = .returned (.int .i64 (resE ps { v with ms := without v.ms us but } 40000)) ∧ Below w.heap.size w w' := by
 have HT := qh hT; have HV := qh hV; have HS := qh hS; have HR := qh hr; have HWb := qh hw; have HTb := qh ht; have HU := qh hu
 clear hT hV hS hr hw ht hu
 have hb2 : Below w.heap.size w ((w.alloc (.cells #[.int .i64 but] 3)).alloc (.cells #[.slice A1 n1 c1, .slice A2 n2 c2, .slice A3 n3 c3, .slice A4 n4 c4] 30)) := ((Below.refl _ w).alloc (qr _) _).alloc (by simp) _
 have HB2 := qh hb2
 have u0 := HWb.out.cell 0; have u1 := HWb.out.cell 1; have u2 := HWb.out.cell 2; have u3 := HWb.out.cell 3; have ul := HWb.out.lt
 have t0 := HTb.out.cell 0; have tl := HTb.out.lt
 simp only [qgz, qgs] at u0 u1 u2 u3 t0
 clear hb2
 go_enter Tryz.func40, Tryz.ntmps40
 go_upto_region 2 with fail
 have BB3 := qh ((Whole.new w w.heap.size 3 [.int .i64 but] rfl).alloc (.cells #[.slice A1 n1 c1, .slice A2 n2 c2, .slice A3 n3 c3, .slice A4 n4 c4] 30))
 have XB3 := qh (Whole.new (w.alloc (.cells #[.int .i64 but] 3)) (w.heap.size + 1) 30 [.slice A1 n1 c1, .slice A2 n2 c2, .slice A3 n3 c3, .slice A4 n4 c4] (by simp))
 have hs3 : ((w.alloc (.cells #[.int .i64 but] 3)).alloc (.cells #[.slice A1 n1 c1, .slice A2 n2 c2, .slice A3 n3 c3, .slice A4 n4 c4] 30)).heap.size = w.heap.size + 1 + 1 := by simp
 have HTB3 := qh (HTb.out.below HB2.out tl)
 have HWB3 := qh (HWb.out.below HB2.out ul)
 have HUB3 := qh (HU.out.below HB2.out HU.out.lt)
 generalize (w.alloc (.cells #[.int .i64 but] 3)).alloc (.cells #[.slice A1 n1 c1, .slice A2 n2 c2, .slice A3 n3 c3, .slice A4 n4 c4] 30) = w3 at *
 have HS3 := qh hs3
 have HV3 := qh (HV.out.under HB2.out HS.out)
 have HR3 := qh (HR.out.below HB2.out HS.out)
 have HCl := qh (cloneInts_any A3 n3 c3 (v.ms.map (.int .i64)) w3 S HV3.out.ms (fun u hu => by obtain ⟨x, _, rfl⟩ := List.mem_map.1 hu; rfl) (fun k hk => ql (HS.out k hk) HB2.out.size) (by omega))
 clear u0 u1 u2 u3 t0 hs3
 have u2 := HWB3.out.cell 2; have x2 := XB3.out.cell 2
 simp only [qgz, qgs] at u2 x2
 have hmf : ∀ (wx : World), (Instr.makeFunc (.func 42) #[] #[.pointer (some ⟨w.heap.size, 0, none⟩), .pointer (some ⟨ub, 0, none⟩)]).run Tryz.prog wx = .ok (.func (.func 42) #[] #[.pointer (some ⟨w.heap.size, 0, none⟩), .pointer (some ⟨ub, 0, none⟩)]) wx := fun wx => by kernel_rfl
 go_wp2_with (first | (go_at_call 39; refine HCl.out.mono ?_; rintro e w4 ⟨C, cc, rfl, hcc1, hcc2, hown, hb4⟩; refine Hid.out ?_))
 refine qh ?_
 have HOB := qh (fun i (h : (Value.slice C n3 cc).ownBlock = some i) => (hown.lt i h).1)
 have HOL := qh (fun i (h : (Value.slice C n3 cc).ownBlock = some i) => (hown.lt i h).2)
 have HB4 := qh hb4
 have HDF := qh (deleteFuncI_any C n3 cc v.ms 42 #[.pointer (some ⟨w.heap.size, 0, none⟩), .pointer (some ⟨ub, 0, none⟩)] (fun x => decide (x ≠ but) && us.contains x) w3.heap.size w4 hown (fun args W => by kernel_rfl) (fun wx hfar x hx => by
  have b0 := (hfar.whole (BB3.out.below hb4 BB3.out.lt) (fun e => by have := HOB.out _ e; have := BB3.out.lt; omega)).cell 0
  have b1 := (hfar.whole (HUB3.out.below hb4 HUB3.out.lt) (fun e => by have := HOB.out _ e; have := HUB3.out.lt; omega)).cell 0
  simp only [List.getElem?_cons_zero] at b0 b1
  exact runmD_any x but w.heap.size ub U un uc us S wx b0 b1 (hfar.ints (HR3.out.below hb4 fun k hk => ql (HS.out k hk) HB2.out.size) (fun k hk => ⟨ql (HS.out k hk) (Nat.le_trans HB2.out.size hb4.size), fun e => by have := HOB.out _ e; have := HS.out k hk; have := HB2.out.size; omega⟩)) hun))
 clear hown hb4
 go_wp2_with (first | (go_at_call 41; refine HDF.out.mono ?_; rintro e w5 ⟨m, mc, rfl, hrm, hm1, hm2, hfar⟩; refine Hid.out ?_))
 refine qh ?_
 have XB5 := qh (hfar.whole (XB3.out.below HB4.out XB3.out.lt) (fun e => by have := HOB.out _ e; have := XB3.out.lt; omega))
 have hb5 : Below w.heap.size w w5 := (HB2.out.trans (HB4.out.mono HB2.out.size)).trans (hfar.below (Nat.le_trans HB2.out.size HB4.out.size) fun i e => Nat.le_trans HB2.out.size (HOB.out _ e))
 have X2 := qh (XB5.out.set_ 2 (.slice C m mc))
 have HB6 := qh (hb5.setCell (p := ⟨w.heap.size + 1, 2, none⟩) (Nat.le_succ _) (.slice C m mc))
 have hms : (v.ms.filter fun x => !(decide (x ≠ but) && us.contains x)) = without v.ms us but := rfl
 rw [hms] at hrm
 have hne : ∀ i, (Value.slice C n3 cc).ownBlock = some i → i ≠ w.heap.size + 1 ∧ i < (w5.setCell ⟨w.heap.size + 1, 2, none⟩ (.slice C m mc)).heap.size := fun i e => by
  have h1 := HOB.out _ e
  have h2 := HS3.out
  have h3 := HOL.out _ e
  have h4 := hfar.size
  refine ⟨by omega, ?_⟩
  have h5 := ((Below.refl 0 w5).setCell (p := ⟨w.heap.size + 1, 2, none⟩) (Nat.zero_le _) (.slice C m mc)).size
  omega
 have hrm6 : RInts (w5.setCell ⟨w.heap.size + 1, 2, none⟩ (.slice C m mc)) (fun k => k < (w5.setCell ⟨w.heap.size + 1, 2, none⟩ (.slice C m mc)).heap.size) C m (without v.ms us but) :=
  RInts.more (RInts.keep hrm fun p hp => World.cell?_setCell_other _ _ _ _ (fun e => (hne _ hp).1 (by rw [← e]))) fun k hk => (hne k hk).2
 have HRM := qh hrm6
 have y2 := XB5.out.cell 2; have y2f := XB5.out.free 2; have y2l := XB5.out.lt
 simp only [qgz, qgs] at y2
 clear hrm hfar hb5 hms hne hrm6 u2 x2 hmf HDF XB5
 go_upto_region 3 with fail
 generalize w5.setCell ⟨w.heap.size + 1, 2, none⟩ (.slice C m mc) = w6 at *
 have HRS := qh (resolve_any ps { v with ms := without v.ms us but } 40000 (fun k => k < w6.heap.size) A n c A1 A2 C A4 n1 c1 n2 c2 m mc n4 c4 w6 ((HT.out.under HB6.out HS.out).more fun k hk => ql (HS.out k hk) HB6.out.size) hnc hc
  (WsAt.mask ((HV.out.under HB6.out HS.out).more (S' := fun k => k < w6.heap.size) fun k hk => ql (HS.out k hk) HB6.out.size) HRM.out hm1 hm2) (fun k hk => hk) (by omega) (by omega))
 have t0 := (HTb.out.below HB6.out HTb.out.lt).cell 0
 have x0 := X2.out.cell 0; have x1 := X2.out.cell 1; have x2 := X2.out.cell 2; have x3 := X2.out.cell 3; have xl := X2.out.lt
 simp only [List.set_cons_succ, List.set_cons_zero, List.getElem?_cons_zero, List.getElem?_cons_succ] at t0 x0 x1 x2 x3
 clear y2 y2f y2l
 go_wp2_with (first | (go_at_call 27; refine HRS.out.mono ?_; rintro e w7 ⟨Aa, na, ca, Ba, ka, da, rfl, -, -, -, -, -, -, hb7⟩; refine Hid.out ?_))
 refine qh ?_
 have HB7 := qh (HB6.out.trans (hb7.mono HB6.out.size))
 clear hb7 HRS t0 x0 x1 x2 x3
 go_wp2
 go_ret
 exact ⟨rfl, HB7.out⟩
theorem unm_same {ps : List Pk} {v : Ws} (h : unmE ps v ≠ 0) : resE ps v 40000 = unmE ps v := by
 unfold unmE at h ⊢
 by_cases hc : ckWish ps v ≠ 0
 ·rw [if_pos hc]; exact (res_bad hc).1
 ·rw [if_neg hc] at h ⊢
  have hc0 : ckWish ps v = 0 := by simpa using hc
  have hw : ckWish ps { v with ms := [] } = 0 := wish_mask hc0 (List.nil_sublist _)
  rcases res_max hw with ⟨h0, _⟩ | ⟨h7, hn, _⟩
  ·exact absurd h0 h
  ·rw [h7, res_none hc0]
   exact fun ⟨l, g1, g2⟩ => hn ⟨l, g1, validP_mono (fun _ h => h) (fun k hk => by cases hk) g2⟩
theorem unm_facts {ps : List Pk} {v : Ws} (h : unmE ps v = 0) : ckWish ps v = 0 ∧ (unmL ps v = [] ↔ resE ps v 40000 = 0) ∧ resE ps { v with ms := without v.ms (unmL ps v) (-1) } 40000 = 0 ∧
  ∀ k ∈ unmL ps v, v.ms.contains k = true ∧ resE ps { v with ms := without v.ms (unmL ps v) k } 40000 = 7 := by
 have hck := (unmE_zero h).1
 have U := unm_told h
 have e : unmL ps v = (unmAll (qMay ps v) v.ms).2 := by unfold unmL; rw [if_pos h]
 rw [e]
 refine ⟨hck, ?_, ?_, fun k hk => ⟨List.contains_iff_mem.2 (U.s2.subset hk), ?_⟩⟩
 ·rw [U.nil_iff (qMay_mono hck)]; exact qMay_res hck (List.Sublist.refl _)
 ·refine (qMay_res hck List.filter_sublist).1 (U.without_all (qMay_mono hck) fun hm => ?_)
  have := (ckMask_iff.1 (wish_parts hck).ms).1 _ hm
  omega
 ·have h1 := U.without_one hk
  rw [res_none (wish_mask (ms := without v.ms (unmAll (qMay ps v) v.ms).2 k) hck List.filter_sublist), ← qMay_iff hck fun x hx => (mem_without.1 hx).1, h1]
  decide
structure Ux (w : World) (A : Option Addr) (n c : Nat) (wv : List Value) (ub : Nat) (uv : Value) (wx : World) : Prop where
 b : Wb w A n c wv wx
 u : Whole wx ub 27 [uv]
theorem Ux.move {w : World} {A : Option Addr} {n c : Nat} {wv : List Value} {ub : Nat} {uv : Value} {wx wy : World} (h : Ux w A n c wv ub uv wx) (hb : Below wx.heap.size wx wy) : Ux w A n c wv ub uv wy := ⟨h.b.move hb, h.u.below hb h.u.lt⟩
set_option maxRecDepth 100000 in
set_option maxHeartbeats 6400000 in
theorem runmasks_any (ps : List Pk) (v : Ws) (S : Nat → Prop) (A : Option Addr) (n c : Nat) (A1 A2 A3 A4 : Option Addr) (n1 c1 n2 c2 n3 c3 n4 c4 : Nat) (w : World) (hT : RTree w S A n ps) (hnc : n ≤ c) (hc : c ≤ maxLen) (hV : WsAt w S A1 n1 c1 A2 n2 c2 A3 n3 c3 A4 n4 c4 v) (hS : ∀ k, S k → k < w.heap.size) (hLV : LaidV w) (hMW : MaxW w) :
  Calls Tryz.prog 9 #[.agg #[.slice A n c], .agg #[.slice A1 n1 c1, .slice A2 n2 c2, .slice A3 n3 c3, .slice A4 n4 c4]] w fun e w' => e = .returned (.bool true) ∧ Below w.heap.size w w' := by
 have X0 := qh (Wb.new w A n c [.slice A1 n1 c1, .slice A2 n2 c2, .slice A3 n3 c3, .slice A4 n4 c4])
 have HT := qh hT; have HV := qh hV; have HS := qh hS; have HLV := qh hLV; have HMW := qh hMW; clear hT hV hS hLV hMW
 have Hlt := qh (fun (wx : World) (hb : Below w.heap.size w wx) k hk => ql (HS.out k hk) hb.size)
 have HRS := qh (fun wx (hb : Below w.heap.size w wx) => resolve_any ps v 40000 S A n c A1 A2 A3 A4 n1 c1 n2 c2 n3 c3 n4 c4 wx (HT.out.under hb HS.out) hnc hc (HV.out.under hb HS.out) (Hlt.out _ hb) (by omega) (by omega))
 have HU0 := qh (unmask_any ps v S A n c A1 A2 A3 A4 n1 c1 n2 c2 n3 c3 n4 c4 _ (HT.out.under X0.out.bel HS.out) hnc hc (HV.out.under X0.out.bel HS.out) (Hlt.out _ X0.out.bel))
 have Hrd := qh (fun wx (hb : Below w.heap.size w wx) => resolved_any wx (HLV.out.below hb) (HMW.out.below hb))
 have HSM : Hid (unmE ps v ≠ 0 → resE ps v 40000 = unmE ps v) := qh unm_same
 have HFA : Hid (unmE ps v = 0 → ckWish ps v = 0 ∧ (unmL ps v = [] ↔ resE ps v 40000 = 0) ∧ resE ps { v with ms := without v.ms (unmL ps v) (-1) } 40000 = 0 ∧ ∀ k ∈ unmL ps v, v.ms.contains k = true ∧ resE ps { v with ms := without v.ms (unmL ps v) k } 40000 = 7) := qh unm_facts
 have hu0 := HU0.out
 unfold UnmaskP at hu0
 have HRS := qh (fun wx hb => by have h := HRS.out wx hb; unfold ResolveP at h; exact h)
 obtain ⟨z, hz⟩ : ∃ z, unmE ps v = z := ⟨_, rfl⟩
 obtain ⟨f, hf⟩ : ∃ z, resE ps v 40000 = z := ⟨_, rfl⟩
 obtain ⟨us, hus⟩ : ∃ z, unmL ps v = z := ⟨_, rfl⟩
 rw [hz] at HSM HFA hu0
 rw [hf] at HSM HFA HRS
 rw [hus] at HFA hu0
 have HU := qh hu0
 have t0 := X0.out.t.cell 0; have u0 := X0.out.v.cell 0; have u1 := X0.out.v.cell 1; have u2 := X0.out.v.cell 2; have u3 := X0.out.v.cell 3
 simp only [qgz, qgs] at t0 u0 u1 u2 u3
 clear hz hf hus hu0 HU0
 go_enter Tryz.func9, Tryz.ntmps9
 go_upto_region 2 with (first | (go_at_call 28; refine HU.out.mono ?_; rintro e w2 ⟨U, un, uc, rfl, hru, hun1, hun2, hb2⟩; refine Hid.out ?_))
 refine qh ?_
 have X2 := qh (X0.out.move hb2)
 have HRU := qh (RInts.more (S' := fun k => k < w2.heap.size) hru fun k hk => hk.2)
 clear hru hb2 X0 HU t0 u0 u1 u2 u3
 go_upto_region 2 with fail
 have hal : Below w2.heap.size w2 (w2.alloc (.cells #[.slice U un uc] 27)) := (Below.refl _ w2).alloc (qr _) _
 have X3 : Hid (Ux w A n c [.slice A1 n1 c1, .slice A2 n2 c2, .slice A3 n3 c3, .slice A4 n4 c4] w2.heap.size (.slice U un uc) (w2.alloc (.cells #[.slice U un uc] 27))) := qh ⟨X2.out.move hal, Whole.new w2 _ _ [.slice U un uc] rfl⟩
 have HB3 := qh hal
 have HR3 := qh (HRS.out _ X3.out.b.bel)
 have t0 := X3.out.b.t.cell 0; have u0 := X3.out.b.v.cell 0; have u1 := X3.out.b.v.cell 1; have u2 := X3.out.b.v.cell 2; have u3 := X3.out.b.v.cell 3
 simp only [qgz, qgs] at t0 u0 u1 u2 u3
 clear hal X2
 go_upto_region 3 with (first | (go_at_call 27; refine HR3.out.mono ?_; rintro e w4 ⟨Aa, na, ca, Ba, ka, da, rfl, -, -, -, -, -, -, hb4⟩; refine Hid.out ?_))
 refine qh ?_
 have X4 := qh (X3.out.move hb4)
 have HB4 := qh (HB3.out.trans (hb4.mono HB3.out.size))
 have HO4 := qh (Hrd.out _ X4.out.b.bel)
 clear hb4 X3 HB3 HR3 HRS t0 u0 u1 u2 u3
 unfold maxLen at hun2
 by_cases hz0 : z = 0
 ·subst hz0
  obtain ⟨hck, hnil, hm1, hks⟩ := HFA.out rfl
  have HCK := qh hck; have HM1 := qh hm1; have HKS := qh hks
  have hlu := HRU.out.len
  have hnf : (un = 0 ∧ f = 0) ∨ (un ≠ 0 ∧ f ≠ 0) := by
   by_cases h : us = []
   ·exact .inl ⟨by rw [← hlu, h]; rfl, hnil.1 h⟩
   ·exact .inr ⟨fun e => h (List.length_eq_zero_iff.1 (hlu.trans e)), fun e => h (hnil.2 e)⟩
  have hn8 : n3 ≤ 8 := by
   have h1 := ckMask_short (wish_parts hck).ms
   have h2 := (tree_parts (wish_parts hck).tree).1
   have h3 := HV.out.ms.len
   omega
  have HN8 := qh hn8
  clear hck hnil hm1 hks hlu HFA HSM hn8
  go_upto_region 5 with (first | (go_at_call 29; refine HO4.out.mono ?_; rintro e w5 ⟨rfl, hb5⟩; refine Hid.out ?_))
  refine qh ?_
  have X5 := qh (X4.out.move hb5)
  have HB5 := qh (HB4.out.trans (hb5.mono HB4.out.size))
  clear hb5 X4 HB4 HO4 Hrd
  have HWI := qh (fun (but : Int) wx (X : Ux w A n c [.slice A1 n1 c1, .slice A2 n2 c2, .slice A3 n3 c3, .slice A4 n4 c4] w2.heap.size (.slice U un uc) wx) (hb : Below w2.heap.size w2 wx) => runmW_any ps v but (fun k => k < wx.heap.size) A n c A1 A2 A3 A4 n1 c1 n2 c2 n3 c3 n4 c4 w.heap.size (w.heap.size + 1) w2.heap.size U un uc us wx ((HT.out.under X.b.bel HS.out).more fun k hk => Hlt.out _ X.b.bel k hk) hnc hc ((HV.out.under X.b.bel HS.out).more fun k hk => Hlt.out _ X.b.bel k hk) (fun k hk => hk) X.b.t X.b.v X.u (RInts.more (RInts.below HRU.out hb fun k hk => hk) fun k hk => ql hk hb.size) (by unfold maxLen; omega) HN8.out)
  have v0 := X5.out.u.cell 0
  simp only [List.getElem?_cons_zero] at v0
  have hw1 := HWI.out (-1) _ X5.out HB5.out
  rw [HM1.out] at hw1
  have HW1 := qh hw1
  clear hw1
  have hmf : ∀ (wx : World), (Instr.makeFunc (.func 40) #[] #[.pointer (some ⟨w.heap.size + 1, 0, none⟩), .pointer (some ⟨w2.heap.size, 0, none⟩), .pointer (some ⟨w.heap.size, 0, none⟩)]).run Tryz.prog wx = .ok (.func (.func 40) #[] #[.pointer (some ⟨w.heap.size + 1, 0, none⟩), .pointer (some ⟨w2.heap.size, 0, none⟩), .pointer (some ⟨w.heap.size, 0, none⟩)]) wx := fun wx => by kernel_rfl
  go_upto_region 5 with fail
  go_cut [51] (fun s51 wx => s51 = .bool false ∧ wx = w5)
  case first =>
   rcases hnf with ⟨h1, h2⟩ | ⟨h1, h2⟩
   ·subst h1 h2
    go_wp2
    go_meet
    case rel => exact ⟨rfl, rfl⟩
   ·have h1b : ((un : Int) == 0) = false := by rw [beq_eq_false_iff_ne]; omega
    have h2b : (f == 0) = false := by simpa using h2
    go_wp2
    go_meet
    case rel => exact ⟨rfl, rfl⟩
  case rest =>
   obtain ⟨rfl, rfl⟩ := hcut
   clear hnf
   go_upto_region 9 with (first | (go_at_call 40; refine HW1.out.mono ?_; rintro e w6 ⟨rfl, hb6⟩; refine Hid.out ?_))
   refine qh ?_
   have X6 := qh (X5.out.move hb6)
   have HB6 := qh (HB5.out.trans (hb6.mono HB5.out.size))
   clear hb6 X5 HB5 HW1 v0
   have v0 := X6.out.u.cell 0
   simp only [List.getElem?_cons_zero] at v0
   go_upto_region 11 with fail
   clear v0
   go_loopg [58] un (fun g iv wr => ∃ k : Nat, Hid (k + g = un) ∧ iv = .int .i64 k ∧ Hid (Ux w A n c [.slice A1 n1 c1, .slice A2 n2 c2, .slice A3 n3 c3, .slice A4 n4 c4] w2.heap.size (.slice U un uc) wr) ∧ Hid (Below w2.heap.size w2 wr))
   case atStart => exact ⟨0, qh (Nat.zero_add _), rfl, X6, HB6⟩
   case round =>
    obtain ⟨k, Hk, rfl, XR, HBR⟩ := hrel
    by_cases hk : k < un
    ·have hul := HRU.out.len
     obtain ⟨bu, ou, rfl, hbS, g0⟩ := (RInts.below HRU.out HBR.out fun k hk => hk).at_ hk
     have hmem : us.getD k 0 ∈ us := by rw [List.getD_eq_getElem?_getD, List.getElem?_eq_getElem (by omega)]; exact List.getElem_mem _
     have hin := HKS.out _ hmem
     generalize us.getD k 0 = x at g0 hmem hin
     have hco := containsI_any A3 n3 c3 v.ms x wr S (HV.out.under XR.out.b.bel HS.out).ms (by unfold maxLen; have := HN8.out; omega)
     rw [hin.1] at hco
     have hwi := HWI.out x wr XR.out HBR.out
     rw [hin.2] at hwi
     have HCO := qh hco; have HWX := qh hwi
     have u2 := XR.out.b.v.cell 2
     simp only [qgz, qgs] at u2
     have hk1 : (k : Int) < un := by omega
     have hk0 : (0 : Int) ≤ (k : Int) := by omega
     clear hul hmem hin hco hwi
     go_wp2_with (first | (go_at_call 43; refine HCO.out.mono ?_; rintro e w6 ⟨rfl, hw4⟩; have hw5 := hw4.symm; subst hw5; refine Hid.out ?_))
     refine qh ?_
     go_wp2_with (first | (go_at_call 40; refine HWX.out.mono ?_; rintro e w7 ⟨rfl, hb7⟩; refine Hid.out ?_))
     refine qh ?_
     have X7 := qh (XR.out.move hb7)
     have HB7 := qh (HBR.out.trans (hb7.mono HBR.out.size))
     clear hb7
     go_wp2
     go_roundg (gk - 1)
     case measure => have := Hk.out; omega
     case rel => exact ⟨k + 1, qh (by have := Hk.out; omega), by go_num, X7, HB7⟩
    ·obtain rfl : k = un := by have := Hk.out; omega
     go_wp2
     go_ret
     exact ⟨rfl, XR.out.b.bel⟩
 ·have hfz := HSM.out hz0
  subst hfz
  have hzb : (f == 0) = false := by simpa using hz0
  have hzn : (f != 0) = true := by unfold bne; rw [hzb]; rfl
  have hzz : (f == f) = true := beq_self_eq_true f
  go_upto_region 4 with (first | (go_at_call 29; refine HO4.out.mono ?_; rintro e w5 ⟨rfl, hb5⟩; refine Hid.out ?_))
  refine qh ?_
  have X5 := qh (X4.out.move hb5)
  have HO5 := qh (Hrd.out _ X5.out.b.bel)
  clear hb5 HO4
  go_wp2_with (first | (go_at_call 29; refine HO5.out.mono ?_; rintro e w6 ⟨rfl, hb6⟩; refine Hid.out ?_))
  refine qh ?_
  have X6 := qh (X5.out.move hb6)
  clear hb6
  go_wp2
  go_ret
  exact ⟨rfl, X6.out.b.bel⟩
end
/- Arguments that can be read as data, opened: atoms, strings; what the listed variables hold. -/
section
open Go.ChangeShapes Go.WideShapes Go.ChangeAt Go.RowKit Qm

section
variable {H : Type} {enc : TypeId × Value → H} {w : World} {base : Nat} {sp : Nat → Bool} {held : Bool}
theorem field_cell {P : Program} {t : TypeId} {fs : Array Field} {fuel : Nat} {cs : List Value} {x : DataW H × List MemPlace} (ht : P.underlying t = some (.struct fs)) (h : DataW.trod enc P w base sp held fuel t cs = some x)
  (i : Nat) {f : Field} (hf : fs[i]? = some f) (hc : P.cellsOf f.type = 1) (hlt : f.offset < P.cellsOf t) : ∃ c n y, cs[f.offset]? = some c ∧ DataW.trod enc P w base sp held n f.type [c] = some y := by
 obtain ⟨xs, n, _, _, hl, hxl, hx⟩ := DataW.trod_struct ht h
 have h1 := hx i f hf
 have hlt' : f.offset < cs.length := by omega
 have hi : i < fs.size := (Array.getElem?_eq_some_iff.1 hf).1
 rw [hc, List.drop_eq_getElem_cons hlt'] at h1
 refine ⟨cs[f.offset], n, xs[i]'(by omega), List.getElem?_eq_getElem hlt', ?_⟩
 rw [List.getElem?_eq_getElem (by omega)] at h1
 have e : (cs[f.offset] :: List.drop (f.offset + 1) cs).take 1 = [cs[f.offset]] := rfl
 rw [e] at h1
 exact h1
def In64 (x : Int) : Prop := -9223372036854775808 ≤ x ∧ x ≤ 9223372036854775807
theorem i64_le {x : Int} (h : (Lit.int .i64 x).wf = true) : In64 x := by
 unfold In64
 simp [Lit.wf, IntKind.min, IntKind.max, IntKind.bits, IntKind.signed] at h; omega
theorem six_of {α : Type} {cs : List α} {a b c d e f : α} (hl : cs.length = 6) (h0 : cs[0]? = some a) (h1 : cs[1]? = some b) (h2 : cs[2]? = some c) (h3 : cs[3]? = some d) (h4 : cs[4]? = some e) (h5 : cs[5]? = some f) : cs = [a, b, c, d, e, f] := by
 match cs, hl with
 | [_, _, _, _, _, _], _ => simp at h0 h1 h2 h3 h4 h5; simp [h0, h1, h2, h3, h4, h5]
theorem str_one {P : Program} {t : TypeId} {n : Nat} {c : Value} {y : DataW H × List MemPlace} (ht : P.underlying t = some .string) (h : DataW.trod enc P w base sp held n t [c] = some y) : ∃ s : ByteArray, c = .string s ∧ s.size ≤ maxLen := by
 obtain ⟨s, e, _, hs⟩ := DataW.trod_string ht h
 simp at e
 exact ⟨s, e, hs⟩
theorem int_oneA {P : Program} {t : TypeId} {n : Nat} {c : Value} {y : DataW H × List MemPlace} (ht : P.underlying t = some (.int .i64)) (h : DataW.trod enc P w base sp held n t [c] = some y) : ∃ x : Int, c = .int .i64 x ∧ In64 x := by
 obtain ⟨x, e, _, hs⟩ := DataW.trod_int ht h
 simp at e
 exact ⟨x, e, i64_le hs⟩
theorem bool_one_ {P : Program} {t : TypeId} {n : Nat} {c : Value} {y : DataW H × List MemPlace} (ht : P.underlying t = some .bool) (h : DataW.trod enc P w base sp held n t [c] = some y) : ∃ x : Bool, c = .bool x := by
 obtain ⟨x, e, _⟩ := DataW.trod_bool ht h
 simp at e
 exact ⟨x, e⟩
theorem atom_cells {fuel : Nat} {cs : List Value} {x : DataW H × List MemPlace} (h : DataW.trod enc Tryz.prog w base sp held fuel 75 cs = some x) :
  ∃ (s f : ByteArray) (op ver slot : Int) (on : Bool), cs = [.string s, .int .i64 op, .int .i64 ver, .int .i64 slot, .string f, .bool on] ∧ s.size ≤ maxLen ∧ f.size ≤ maxLen ∧ In64 op ∧
   In64 ver ∧ In64 slot := by
 have hT := Tryz.underlying75
 have hl : cs.length = 6 := by
  obtain ⟨_, _, _, _, hl, _⟩ := DataW.trod_struct hT h
  rw [hl]; kernel_rfl
 obtain ⟨c0, n0, y0, e0, k0⟩ := field_cell hT h 0 rfl (by kernel_rfl) (of_decide_eq_true (by kernel_rfl))
 obtain ⟨c1, n1, y1, e1, k1⟩ := field_cell hT h 1 rfl (by kernel_rfl) (of_decide_eq_true (by kernel_rfl))
 obtain ⟨c2, n2, y2, e2, k2⟩ := field_cell hT h 2 rfl (by kernel_rfl) (of_decide_eq_true (by kernel_rfl))
 obtain ⟨c3, n3, y3, e3, k3⟩ := field_cell hT h 3 rfl (by kernel_rfl) (of_decide_eq_true (by kernel_rfl))
 obtain ⟨c4, n4, y4, e4, k4⟩ := field_cell hT h 4 rfl (by kernel_rfl) (of_decide_eq_true (by kernel_rfl))
 obtain ⟨c5, n5, y5, e5, k5⟩ := field_cell hT h 5 rfl (by kernel_rfl) (of_decide_eq_true (by kernel_rfl))
 obtain ⟨s, rfl, hs⟩ := str_one Tryz.underlying9 k0
 obtain ⟨op, rfl, ho⟩ := int_oneA Tryz.underlying3 k1
 obtain ⟨ver, rfl, hv⟩ := int_oneA Tryz.underlying3 k2
 obtain ⟨slot, rfl, hsl⟩ := int_oneA Tryz.underlying3 k3
 obtain ⟨f, rfl, hf⟩ := str_one Tryz.underlying9 k4
 obtain ⟨on, rfl⟩ := bool_one_ Tryz.underlying4 k5
 exact ⟨s, f, op, ver, slot, on, six_of hl e0 e1 e2 e3 e4 e5, hs, hf, ho, hv, hsl⟩
end

/-! what the listed variables hold -/
theorem laid_at {P : Program} {w : World} : ∀ {l : List (String × DataW Unit)} {k : Nat} {x : String × DataW Unit}, laidMet P l w → l[k]? = some x → ∃ r, laidMet P (x :: r) w
 | [], _, _, _, h => by simp at h
 | y :: r, 0, x, h, hk => by
  simp only [List.getElem?_cons_zero, Option.some.injEq] at hk
  subst hk
  exact ⟨r, h⟩
 | y :: r, k + 1, x, h, hk => laid_at h.tail (by simpa using hk)
theorem gPow : Tryz.prog.globalNamed "internal/strconv.uint64pow10" = some 1 := by kernel_rfl
theorem gRng : Tryz.prog.globalNamed "strconv.ErrRange" = some 3 := by kernel_rfl
theorem gSyn : Tryz.prog.globalNamed "strconv.ErrSyntax" = some 2 := by kernel_rfl
theorem tPow : (Tryz.prog.globals[1]?).map (·.type) = some 240 := by kernel_rfl
theorem tRng : (Tryz.prog.globals[3]?).map (·.type) = some 176 := by kernel_rfl
theorem tSyn : (Tryz.prog.globals[2]?).map (·.type) = some 176 := by kernel_rfl
theorem rowErr : ∀ u, Tryz.prog.typeName? 3 u = some "*errors.errorString" → u = 263 := fun _ h => typeName_ptr_named (nm := "errors.errorString") (by kernel_rfl) (by kernel_rfl) (by decide) _ h
theorem laidV_of {w : World} {l : List (String × DataW Unit)} (h : laidMet Tryz.prog l w) {i j k : Nat} (hi : l[i]? = some ("internal/strconv.uint64pow10", Rows.laid_internal_strconv_uint64pow10)) (hj : l[j]? = some ("strconv.ErrRange", Rows.laid_strconv_ErrRange)) (hk : l[k]? = some ("strconv.ErrSyntax", Rows.laid_strconv_ErrSyntax)) : LaidV w := by
 obtain ⟨_, h1⟩ := laid_at h hi
 obtain ⟨_, h2⟩ := laid_at h hj
 obtain ⟨_, h3⟩ := laid_at h hk
 obtain ⟨a2, s2, e2, _⟩ := laid_sentinel h2 gRng tRng Tryz.underlying176 rowErr Tryz.underlying263 Tryz.underlying265 rfl rfl Tryz.underlying9 (by kernel_rfl) (by kernel_rfl)
 obtain ⟨a3, s3, e3, _⟩ := laid_sentinel h3 gSyn tSyn Tryz.underlying176 rowErr Tryz.underlying263 Tryz.underlying265 rfl rfl Tryz.underlying9 (by kernel_rfl) (by kernel_rfl)
 exact ⟨⟨_, _, e3⟩, ⟨_, _, e2⟩, Lib.tabIs_of_head gPow tPow Tryz.underlying240 Tryz.underlying213 (by kernel_rfl) (by kernel_rfl) h1⟩
end
/- Arguments that can be read as data, opened into the words of these proofs. -/
section
open Go.ChangeShapes Go.WideShapes Go.ChangeAt Go.RowKit Go.Joins Go.Deep

theorem spot_add {w : World} {a : Addr} {n : Nat} {f : Nat → Value} (hn : 0 < n) (h : ∀ i, i < n → w.cell? (a.add i) = some (f i)) : ∃ b o, a = ⟨b, o, none⟩ ∧ b < w.heap.size ∧ ∀ j, j < n → w.cell? ⟨b, o + j, none⟩ = some (f j) := by
 obtain ⟨b, o, spot⟩ := a
 have h0 := h 0 hn
 have hs : spot = none := by simpa [Addr.add] using World.cell?_spot h0
 subst hs
 have ha : ∀ j, (⟨b, o, none⟩ : Addr).add j = ⟨b, o + j, none⟩ := by
  intro j; unfold Addr.add; by_cases hj : j = 0 <;> simp [hj]
 refine ⟨b, o, rfl, ?_, fun j hj => by rw [← ha]; exact h j hj⟩
 have := World.block_lt_of_cell? w _ h0
 rw [ha] at this; exact this

theorem row_of_cells {w : World} {a : Addr} {n : Nat} {vs : List Value} (hl : vs.length = n) (h : ∀ i (_ : i < n), w.cell? (a.add i) = vs[i]?) : Row w (fun k => k < w.heap.size) (some a) n vs := by
 refine ⟨hl, fun hn => ?_⟩
 obtain ⟨b, o, rfl, hb, hc⟩ := spot_add (f := fun i => (vs[i]?).getD undef) hn (fun i hi => by rw [h i hi, List.getElem?_eq_getElem (by omega)]; rfl)
 exact ⟨b, o, rfl, hb, fun j hj => by rw [hc j hj, List.getElem?_eq_getElem (by omega)]; rfl⟩

section
variable {H : Type} {enc : TypeId × Value → H} {P : Program} {w : World} {base : Nat} {held : Bool}
end
end
/- Arguments that can be read as needs, opened. -/
section
open Go.ChangeShapes Go.WideShapes Go.ChangeAt Go.RowKit Qm

theorem flatK {K : Nat} {cs : List (List Value)} (h : ∀ x ∈ cs, x.length = K) : ∀ {j : Nat} {x : List Value}, cs[j]? = some x → ∀ i, i < K → cs.flatten[j * K + i]? = x[i]? := by
 induction cs with
 | nil => intro j x hj; simp at hj
 | cons c r ih =>
  intro j x hj i hi
  have hc := h c (List.mem_cons_self ..)
  rw [List.flatten_cons]
  cases j with
  | zero =>
   simp only [List.getElem?_cons_zero, Option.some.injEq] at hj
   subst hj
   rw [List.getElem?_append_left (by omega)]; congr 1; omega
  | succ j =>
   rw [List.getElem?_cons_succ] at hj
   have he : (j + 1) * K = j * K + K := Nat.succ_mul j K
   rw [List.getElem?_append_right (by omega)]
   rw [← ih (fun y hy => h y (List.mem_cons_of_mem _ hy)) hj i hi]
   congr 1; omega
theorem flatK_len {K : Nat} {cs : List (List Value)} (h : ∀ x ∈ cs, x.length = K) : cs.flatten.length = cs.length * K := by
 induction cs with
 | nil => simp
 | cons c r ih =>
  have hc := h c (List.mem_cons_self ..)
  have := ih fun y hy => h y (List.mem_cons_of_mem _ hy)
  simp only [List.flatten_cons, List.length_append, List.length_cons, Nat.succ_mul]
  omega

section
variable {H : Type} {enc : TypeId × Value → H} {P : Program} {w : World} {base : Nat} {sp : Nat → Bool} {held : Bool}
theorem slice_items {t e : TypeId} {K fuel : Nat} {v : Value} {x : DataW H × List MemPlace} (ht : P.underlying t = some (.slice e)) (hK : P.cellsOf e = K) (hK0 : 0 < K) (h : DataW.trod enc P w base sp held fuel t [v] = some x) :
  ∃ (A : Option Addr) (n c : Nat) (cs : List (List Value)), v = .slice A n c ∧ n ≤ c ∧ c ≤ maxLen ∧ cs.length = n ∧ Row w (fun k => k < w.heap.size) A (n * K) cs.flatten ∧
   ∀ x ∈ cs, x.length = K ∧ ∃ m y, m < fuel ∧ DataW.trod enc P w base sp held m e x = some y := by
 rcases DataW.trod_slice ht h with ⟨hcs, _⟩ | ⟨a, len, cap, elems, rest, n, hfuel, hcs, _, hb, hl, hm, hlen, hel, _, _⟩
 ·simp at hcs
  exact ⟨none, 0, 0, [], hcs, qr _, Nat.zero_le _, rfl, by simpa using Row.nil_, fun x hx => by cases hx⟩
 ·simp at hcs
  subst hcs hK
  have key : ∀ i, i < len → ∃ cs', w.cells? base (a.add (i * P.cellsOf e)) (P.cellsOf e) = some cs' ∧ ∃ y, DataW.trod enc P w base sp held n e cs' = some y := fun i hi => by
   have h1 := hel i hi
   rw [List.getElem?_eq_getElem (by omega)] at h1
   obtain ⟨cs', h2, h3⟩ := Option.bind_eq_some_iff.1 h1
   exact ⟨cs', h2, _, h3⟩
  have hget : ∀ j, j < len → ((List.range len).map fun i => (w.cells? base (a.add (i * P.cellsOf e)) (P.cellsOf e)).getD [])[j]? = some ((w.cells? base (a.add (j * P.cellsOf e)) (P.cellsOf e)).getD []) := fun j hj => by
   rw [List.getElem?_map, List.getElem?_range hj]; rfl
  have hmem : ∀ x ∈ (List.range len).map fun i => (w.cells? base (a.add (i * P.cellsOf e)) (P.cellsOf e)).getD [], x.length = P.cellsOf e ∧ ∃ m y, m < fuel ∧ DataW.trod enc P w base sp held m e x = some y := by
   intro x hx
   obtain ⟨i, hi, rfl⟩ := List.mem_map.1 hx
   rw [List.mem_range] at hi
   obtain ⟨cs', h1, y, h2⟩ := key i hi
   rw [h1]
   exact ⟨(World.cells?_some h1).2.1, n, y, by omega, h2⟩
  refine ⟨some a, len, cap, (List.range len).map fun i => (w.cells? base (a.add (i * P.cellsOf e)) (P.cellsOf e)).getD [], rfl, hl, hm, by simp, ?_, hmem⟩
  refine row_of_cells (by rw [flatK_len fun x hx => (hmem x hx).1]; simp) fun p hp => ?_
  obtain ⟨i, r, hr, rfl⟩ : ∃ i r, r < P.cellsOf e ∧ p = i * P.cellsOf e + r := ⟨p / P.cellsOf e, p % P.cellsOf e, Nat.mod_lt _ hK0, by rw [Nat.mul_comm]; exact (Nat.div_add_mod p _).symm⟩
  have hi : i < len := by
   apply Classical.byContradiction
   intro hni
   have : len * P.cellsOf e ≤ i * P.cellsOf e := Nat.mul_le_mul_right _ (by omega)
   omega
  rw [flatK (fun x hx => (hmem x hx).1) (hget i hi) r hr]
  obtain ⟨cs', h1, _⟩ := key i hi
  rw [h1, ← Go.Deep.add_add]
  exact (World.cells?_some h1).2.2 r hr
end
section
variable {H : Type} {enc : TypeId × Value → H} {w : World} {base : Nat} {sp : Nat → Bool} {held : Bool}
theorem bs_list (s : ByteArray) : s = ⟨s.data.toList.toArray⟩ := by obtain ⟨⟨l⟩⟩ := s; rfl
set_option maxRecDepth 100000 in
theorem need_cells : ∀ (fuel : Nat) (cs : List Value) (x : DataW H × List MemPlace), DataW.trod enc Tryz.prog w base sp held fuel 99 cs = some x →
  ∃ y, RNd w (fun k => k < w.heap.size) cs y := by
 intro fuel
 induction fuel using Nat.strongRecOn with
 | _ fuel ih =>
  intro cs x h
  have hT := Tryz.underlying99
  obtain ⟨xs, n, hfu, _, hlen, hxl, hx⟩ := DataW.trod_struct hT h
  have hl : cs.length = 10 := by rw [hlen]; kernel_rfl
  obtain ⟨c0, n0, y0, e0, k0⟩ := field_cell hT h 0 rfl (by kernel_rfl) (of_decide_eq_true (by kernel_rfl))
  obtain ⟨c7, n7, y7, e7, k7⟩ := field_cell hT h 2 rfl (by kernel_rfl) (of_decide_eq_true (by kernel_rfl))
  obtain ⟨c8, n8, y8, e8, k8⟩ := field_cell hT h 3 rfl (by kernel_rfl) (of_decide_eq_true (by kernel_rfl))
  have h1 := hx 1 _ rfl
  have h4 := hx 4 _ rfl
  have hxs : xs.length = 5 := hxl
  rw [List.getElem?_eq_getElem (by omega)] at h1 h4
  obtain ⟨k, rfl, _⟩ := int_oneA Tryz.underlying3 k0
  obtain ⟨f, rfl, hf⟩ := str_one Tryz.underlying9 k7
  obtain ⟨no, rfl⟩ := bool_one_ Tryz.underlying4 k8
  obtain ⟨s, g, op, ver, slot, on, ea, hs, hg, _, _, _⟩ := atom_cells h1
  match cs, hl with
  | [d0, d1, d2, d3, d4, d5, d6, d7, d8, d9], _ =>
   have h4' : DataW.trod enc Tryz.prog w base sp held n 97 [d9] = some xs[4] := h4
   obtain ⟨A, m, c, rows, rfl, hnc, hc, hrl, hrow, hit⟩ := slice_items Tryz.underlying97 (K := 10) (by kernel_rfl) (by decide) h4'
   have e0' : d0 = .int .i64 k := by simpa using e0
   have e7' : d7 = .string f := by simpa using e7
   have e8' : d8 = .bool no := by simpa using e8
   have ea' : [d1, d2, d3, d4, d5, d6] = [.string s, .int .i64 op, .int .i64 ver, .int .i64 slot, .string g, .bool on] := ea
   simp only [List.cons.injEq, and_true] at ea'
   obtain ⟨rfl, rfl, rfl, rfl, rfl, rfl⟩ := ea'
   subst e0' e7' e8'
   have hkid : ∀ x ∈ rows, ∃ y, RNd w (fun k => k < w.heap.size) x y := fun x hx => by
    obtain ⟨_, m, y, hm, hy⟩ := hit x hx
    exact ih m (by omega) x y hy
   obtain ⟨ks, hkl, hks⟩ : ∃ ks : List Nd, ks.length = rows.length ∧ ∀ (j : Nat) (x : List Value) (y : Nd), rows[j]? = some x → ks[j]? = some y → RNd w (fun k => k < w.heap.size) x y := by
    clear hrow hit hrl
    induction rows with
    | nil => exact ⟨[], rfl, fun j x y h => by simp at h⟩
    | cons r rs ihr =>
     obtain ⟨y, hy⟩ := hkid r (List.mem_cons_self ..)
     obtain ⟨ks, h1, h2⟩ := ihr fun x hx => hkid x (List.mem_cons_of_mem _ hx)
     refine ⟨y :: ks, by simp [h1], fun j x' y' h3 h4 => ?_⟩
     cases j with
     | zero =>
      simp only [List.getElem?_cons_zero, Option.some.injEq] at h3 h4
      subst h3 h4; exact hy
     | succ j => rw [List.getElem?_cons_succ] at h3 h4; exact h2 j x' y' h3 h4
   refine ⟨.mk k ⟨s.data.toList, op, ver, slot, g.data.toList, on⟩ f.data.toList no ks, ?_⟩
   have hr := RNd.shut (w := w) (S := fun k => k < w.heap.size) (k := k) (a := ⟨s.data.toList, op, ver, slot, g.data.toList, on⟩) (f := f.data.toList) (no := no) (ks := ks) hnc hc (by rw [← Lib.size_eq]; exact hs) (by rw [← Lib.size_eq]; exact hg) (by rw [← Lib.size_eq]; exact hf) ⟨rows, by omega, hrl, hrow, hks⟩
   unfold ndRow at hr
   simp only [] at hr
   rw [← bs_list, ← bs_list, ← bs_list] at hr
   exact hr
end
end
/- Arguments that can be read as trees, opened. -/
section
open Go.ChangeShapes Go.WideShapes Go.ChangeAt Go.RowKit Qm

theorem rows_of {α : Type} {R : List Value → α → Prop} : ∀ {rows : List (List Value)}, (∀ x ∈ rows, ∃ y, R x y) → ∃ ys : List α, ys.length = rows.length ∧ ∀ (j : Nat) (x : List Value) (y : α), rows[j]? = some x → ys[j]? = some y → R x y
 | [], _ => ⟨[], rfl, fun j x y h => by simp at h⟩
 | r :: rs, h => by
  obtain ⟨y, hy⟩ := h r (List.mem_cons_self ..)
  obtain ⟨ks, h1, h2⟩ := rows_of (rows := rs) fun x hx => h x (List.mem_cons_of_mem _ hx)
  refine ⟨y :: ks, by simp [h1], fun j x' y' h3 h4 => ?_⟩
  cases j with
  | zero =>
   simp only [List.getElem?_cons_zero, Option.some.injEq] at h3 h4
   subst h3 h4; exact hy
  | succ j => rw [List.getElem?_cons_succ] at h3 h4; exact h2 j x' y' h3 h4
theorem strs_flat : ∀ {cs : List (List Value)} {ys : List Qm.W}, cs.length = ys.length → (∀ (j : Nat) (x : List Value) (y : Qm.W), cs[j]? = some x → ys[j]? = some y → x = [.string ⟨y.toArray⟩]) → cs.flatten = strs ys
 | [], [], _, _ => rfl
 | [], _ :: _, h, _ => by simp at h
 | _ :: _, [], h, _ => by simp at h
 | r :: rs, y :: ys, h, hR => by
  rw [List.flatten_cons, hR 0 r y rfl rfl, strs_flat (cs := rs) (ys := ys) (by simpa using h) fun j x z h1 h2 => hR (j + 1) x z (by simpa using h1) (by simpa using h2)]; rfl
section
variable {H : Type} {enc : TypeId × Value → H} {w : World} {base : Nat} {sp : Nat → Bool} {held : Bool}
theorem open_seq {α : Type} {R : List Value → α → Prop} {t e : TypeId} {K fuel : Nat} {v : Value} {x : DataW H × List MemPlace} (ht : Tryz.prog.underlying t = some (.slice e)) (hK : Tryz.prog.cellsOf e = K) (hK0 : 0 < K)
  (h : DataW.trod enc Tryz.prog w base sp held fuel t [v] = some x) (hR : ∀ m (x : List Value) y, m < fuel → DataW.trod enc Tryz.prog w base sp held m e x = some y → ∃ z, R x z) :
  ∃ (A : Option Addr) (n c : Nat) (ys : List α), v = .slice A n c ∧ n ≤ c ∧ c ≤ maxLen ∧ RSeq K R w (fun k => k < w.heap.size) A n ys := by
 obtain ⟨A, n, c, cs, rfl, h1, h2, h3, h4, h5⟩ := slice_items ht hK hK0 h
 obtain ⟨ys, k1, k2⟩ := rows_of (R := R) (rows := cs) fun x hx => by
  obtain ⟨_, m, y, hm, hy⟩ := h5 x hx
  exact hR m x y hm hy
 exact ⟨A, n, c, ys, rfl, h1, h2, cs, by omega, h3, h4, fun x hx => (h5 x hx).1, k2⟩
theorem open_words {fuel : Nat} {v : Value} {x : DataW H × List MemPlace} (h : DataW.trod enc Tryz.prog w base sp held fuel 96 [v] = some x) :
  ∃ (A : Option Addr) (n c : Nat) (fs : List Qm.W), v = .slice A n c ∧ n ≤ c ∧ c ≤ maxLen ∧ RWords w (fun k => k < w.heap.size) A n fs := by
 obtain ⟨A, n, c, ys, rfl, h1, h2, cs, hy, hc, hrow, hK, hR⟩ := open_seq (R := fun x (f : Qm.W) => x = [.string ⟨f.toArray⟩] ∧ f.length ≤ maxLen) Tryz.underlying96 (K := 1) (by kernel_rfl) (by decide) h fun m x y _ hxy => by
  obtain ⟨s, e, _, hs⟩ := DataW.trod_string Tryz.underlying9 hxy
  exact ⟨s.data.toList, by rw [e, ← bs_list], by rw [← Lib.size_eq]; exact hs⟩
 refine ⟨A, n, c, ys, rfl, h1, h2, ?_, fun f hf => ?_⟩
 ·have e : cs.flatten = strs ys := strs_flat (by omega) fun j x y h1 h2 => (hR j x y h1 h2).1
  rw [← e]
  simpa using hrow
 ·obtain ⟨j, hj, rfl⟩ := List.mem_iff_getElem.1 hf
  exact (hR j (cs[j]'(by omega)) _ (List.getElem?_eq_getElem (by omega)) (List.getElem?_eq_getElem hj)).2
set_option maxRecDepth 100000 in
theorem package_cells {fuel : Nat} {cs : List Value} {x : DataW H × List MemPlace} (h : DataW.trod enc Tryz.prog w base sp held fuel 101 cs = some x) :
  ∃ p, RPk w (fun k => k < w.heap.size) cs p := by
 have hT := Tryz.underlying101
 obtain ⟨xs, n, hfu, _, hlen, hxl, hx⟩ := DataW.trod_struct hT h
 have hl : cs.length = 14 := by rw [hlen]; kernel_rfl
 obtain ⟨c0, n0, y0, e0, k0⟩ := field_cell hT h 0 rfl (by kernel_rfl) (of_decide_eq_true (by kernel_rfl))
 obtain ⟨c1, n1, y1, e1, k1⟩ := field_cell hT h 1 rfl (by kernel_rfl) (of_decide_eq_true (by kernel_rfl))
 obtain ⟨c2, n2, y2, e2, k2⟩ := field_cell hT h 2 rfl (by kernel_rfl) (of_decide_eq_true (by kernel_rfl))
 obtain ⟨c3, n3, y3, e3, k3⟩ := field_cell hT h 3 rfl (by kernel_rfl) (of_decide_eq_true (by kernel_rfl))
 have h4 := hx 4 _ rfl
 have hxs : xs.length = 5 := hxl
 rw [List.getElem?_eq_getElem (by omega)] at h4
 obtain ⟨s, rfl, hs⟩ := str_one Tryz.underlying9 k0
 obtain ⟨ver, rfl, _⟩ := int_oneA Tryz.underlying3 k1
 obtain ⟨slot, rfl, _⟩ := int_oneA Tryz.underlying3 k2
 obtain ⟨A, m, c, fs, rfl, hm, hc, hfs⟩ := open_words k3
 obtain ⟨nd, hnd⟩ := need_cells _ _ _ h4
 refine ⟨⟨s.data.toList, ver, slot, fs, nd⟩, A, m, c, (cs.drop 4).take 10, ?_, hm, hc, by rw [← Lib.size_eq]; exact hs, hfs, hnd⟩
 match cs, hl with
 | [d0, d1, d2, d3, d4, d5, d6, d7, d8, d9, d10, d11, d12, d13], _ =>
  have e0' : d0 = .string s := by simpa using e0
  have e1' : d1 = .int .i64 ver := by simpa using e1
  have e2' : d2 = .int .i64 slot := by simpa using e2
  have e3' : d3 = .slice A m c := by simpa using e3
  subst e0' e1' e2' e3'
  simp [pkRow, ← bs_list]
set_option maxRecDepth 100000 in
theorem tree_cells {fuel : Nat} {cs : List Value} {x : DataW H × List MemPlace} (h : DataW.trod enc Tryz.prog w base sp held fuel 24 cs = some x) :
  ∃ (A : Option Addr) (n c : Nat) (ps : List Pk), cs = [.slice A n c] ∧ n ≤ c ∧ c ≤ maxLen ∧ RTree w (fun k => k < w.heap.size) A n ps := by
 have hT := Tryz.underlying24
 obtain ⟨xs, n, hfu, _, hlen, hxl, hx⟩ := DataW.trod_struct hT h
 have hl : cs.length = 1 := by rw [hlen]; kernel_rfl
 obtain ⟨c0, n0, y0, e0, k0⟩ := field_cell hT h 0 rfl (by kernel_rfl) (of_decide_eq_true (by kernel_rfl))
 obtain ⟨A, m, c, ps, rfl, hm, hc, hps⟩ := open_seq (R := RPk w (fun k => k < w.heap.size)) Tryz.underlying22 (K := 14) (by kernel_rfl) (by decide) k0 fun m x y _ hxy => package_cells hxy
 refine ⟨A, m, c, ps, ?_, hm, hc, hps⟩
 match cs, hl with
 | [d0], _ => simp at e0; rw [e0]
set_option maxRecDepth 100000 in
theorem open_tree {r : Reach} {b0 : Nat} {v : Value} {d : DataW H} {p : List MemPlace} (hv : Value.okWide Tryz.prog w r b0 24 v) (h : DataW.Trod enc Tryz.prog w base sp held 24 v d p) :
  ∃ (A : Option Addr) (n c : Nat) (ps : List Pk), v = .agg #[.slice A n c] ∧ n ≤ c ∧ c ≤ maxLen ∧ RTree w (fun k => k < w.heap.size) A n ps := by
 obtain ⟨cs, rfl, _⟩ := okWide_struct Tryz.underlying24 hv
 obtain ⟨fuel, hf⟩ := h
 obtain ⟨A, n, c, ps, e, h1, h2, h3⟩ := tree_cells hf
 refine ⟨A, n, c, ps, ?_, h1, h2, h3⟩
 obtain ⟨l⟩ := cs
 simp only [Value.cells] at e
 subst e
 rfl
end
end
end Go.Proofs.YtedbhlgjcnnknaaGreatDoor
