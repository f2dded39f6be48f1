/- Parts of the proof: walks and plain laws, side by side. -/
import Derived.Test.YtedbhlgjcnnknaaGreatDoorM29
import Derived.Test.YtedbhlgjcnnknaaGreatDoorM30
import Derived.Test.YtedbhlgjcnnknaaGreatDoorRows
import Derived.Test.YtedbhlgjcnnknaaGreatDoorM11
import Derived.ProofKit
import Derived.LaidMore
import Derived.OpenShut
import Derived.Stop.Joined
import Derived.Stop.LaidErr
import Derived.Lib.LaidTab
import Derived.Test.YtedbhlgjcnnknaaGreatDoorM1
import Derived.ChangeOld
import Derived.Lib.SmallJoins
import Derived.Deep.Matrix
import Derived.Deep.Grids
import Derived.Test.YtedbhlgjcnnknaaGreatDoorM9
import Derived.Test.YtedbhlgjcnnknaaGreatDoorM10
import Derived.Test.YtedbhlgjcnnknaaGreatDoorM18
set_option linter.unusedVariables false
set_option linter.unusedSimpArgs false
set_option linter.unusedSectionVars false
namespace Go.Proofs.YtedbhlgjcnnknaaGreatDoor
/- ResolveBest, walked: it returns true. -/
section
open Go.RowKit Qm

theorem litsB_at {m : List Bool} {k : Nat} (hk : k < m.length) : (litsB m).getD k 0 = if m.getD k false = true then (k : Int) + 1 else -((k : Int) + 1) := by
 unfold litsB
 rw [List.getD_eq_getElem?_getD, List.getElem?_map, List.getElem?_range hk]; rfl
theorem litsB_len (m : List Bool) : (litsB m).length = m.length := by unfold litsB; rw [List.length_map, List.length_range]
theorem litL_ok {ps : List Pk} {v : Ws} {l : List Mem} (h : validE ps v l = 0) : litL ps v l = litsB (chVec ps v l) := by unfold litL; rw [if_pos h]
set_option maxRecDepth 100000 in
set_option maxHeartbeats 6400000 in
theorem rbest_any (ps : List Pk) (v : Ws) (lo : List Mem) (S : Nat → Prop) (A B : Option Addr) (n c q d : Nat) (A1 A2 A3 A4 : Option Addr) (n1 c1 n2 c2 n3 c3 n4 c4 : Nat) (w : World) (hT : RTree w S A n ps) (hnc : n ≤ c) (hc : c ≤ maxLen) (hV : WsAt w S A1 n1 c1 A2 n2 c2 A3 n3 c3 A4 n4 c4 v) (hLo : RSet w S B q lo) (hqd : q ≤ d) (hd : d ≤ maxLen) (hS : ∀ k, S k → k < w.heap.size) (hLV : LaidV w) (hMW : MaxW w) :
  Calls Tryz.prog 11 #[.agg #[.slice A n c], .agg #[.slice A1 n1 c1, .slice A2 n2 c2, .slice A3 n3 c3, .slice A4 n4 c4], .slice B q d] w fun e w' => e = .returned (.bool true) ∧ Below w.heap.size w w' := by
 have X0 := qh (Wb.new w A n c [.slice A1 n1 c1, .slice A2 n2 c2, .slice A3 n3 c3, .slice A4 n4 c4])
 have HT := qh hT; have HV := qh hV; have HS := qh hS; have HLo := qh hLo; have HLV := qh hLV; have HMW := qh hMW; clear hT hV hS hLo hLV hMW
 have Hlt := qh (fun (wx : World) (hb : Below w.heap.size w wx) k hk => ql (HS.out k hk) hb.size)
 have HRS := qh (fun (v : Ws) (A1 A2 A3 A4 : Option Addr) (n1 c1 n2 c2 n3 c3 n4 c4 : Nat) wx (hb : Below w.heap.size w wx) (hw : WsAt wx (fun k => k < wx.heap.size) A1 n1 c1 A2 n2 c2 A3 n3 c3 A4 n4 c4 v) => resolve_any ps v 40000 (fun k => k < wx.heap.size) A n c A1 A2 A3 A4 n1 c1 n2 c2 n3 c3 n4 c4 wx ((HT.out.under hb HS.out).more fun k hk => Hlt.out _ hb k hk) hnc hc hw (fun k hk => hk) (by omega) (by omega))
 have HWS := qh (fun wx (hb : Below w.heap.size w wx) => (HV.out.under hb HS.out).more (S' := fun k => k < wx.heap.size) fun k hk => Hlt.out _ hb k hk)
 have HVA := qh (fun wx (hb : Below w.heap.size w wx) => valid_any ps v lo S A B n c q d A1 A2 A3 A4 n1 c1 n2 c2 n3 c3 n4 c4 wx (HT.out.under hb HS.out) hnc hc (HV.out.under hb HS.out) (HLo.out.under hb HS.out) hqd hd (Hlt.out _ hb))
 have HLI := qh (fun (l : List Mem) (Bl : Option Addr) (ql dl : Nat) wx (hb : Below w.heap.size w wx) (hl : RSet wx (fun k => k < wx.heap.size) Bl ql l) (h1 : ql ≤ dl) (h2 : dl ≤ maxLen) => literals_any ps v l (fun k => k < wx.heap.size) A Bl n c ql dl A1 A2 A3 A4 n1 c1 n2 c2 n3 c3 n4 c4 wx ((HT.out.under hb HS.out).more fun k hk => Hlt.out _ hb k hk) hnc hc (HWS.out _ hb) hl h1 h2 (fun k hk => hk))
 have Hrd := qh (fun wx (hb : Below w.heap.size w wx) => resolved_any wx (HLV.out.below hb) (HMW.out.below hb))
 have hr0 := HRS.out v A1 A2 A3 A4 n1 c1 n2 c2 n3 c3 n4 c4 _ X0.out.bel (HWS.out _ X0.out.bel)
 unfold ResolveP at hr0
 obtain ⟨z, hz⟩ : ∃ z, resE ps v 40000 = z := ⟨_, rfl⟩
 obtain ⟨L, hL⟩ : ∃ L, resM ps v 40000 = L := ⟨_, rfl⟩
 rw [hz, hL] at hr0
 have HR0 := qh hr0
 have HZ := qh hz; have HL := qh hL
 have t0 := X0.out.t.cell 0; have u0 := X0.out.v.cell 0; have u1 := X0.out.v.cell 1; have u2 := X0.out.v.cell 2; have u3 := X0.out.v.cell 3
 simp only [qgz, qgs] at t0 u0 u1 u2 u3
 clear hr0 hz hL
 go_enter Tryz.func11, Tryz.ntmps11
 go_upto_region 2 with (first | (go_at_call 27; refine HR0.out.mono ?_; rintro e w2 ⟨Aa, na, ca, Ba, ka, da, rfl, hSa, ha1, ha2, -, -, -, hb2⟩; refine Hid.out ?_))
 refine qh ?_
 have X2 := qh (X0.out.move hb2)
 have SA2 := qh (hSa.more (S' := fun k => k < w2.heap.size) fun k hk => hk.2)
 have HO2 := qh (Hrd.out _ X2.out.bel)
 have HA2 := qh ha2
 unfold maxLen at ha2
 clear hb2 X0 HR0 hSa t0 u0 u1 u2 u3
 by_cases hz0 : z = 0
 ·subst hz0
  obtain ⟨hck, _, _⟩ := res_zero HZ.out
  have hbest : Best ps v L := by
   rcases res_max hck with ⟨_, h, _⟩ | ⟨h, _⟩
   ·rw [HL.out] at h; exact h
   ·rw [HZ.out] at h; cases h
  have HCK := qh hck; have HBE := qh hbest
  clear hck hbest HZ HL
  go_upto_region 4 with (first | (go_at_call 29; refine HO2.out.mono ?_; rintro e w3 ⟨rfl, hb3⟩; refine Hid.out ?_))
  refine qh ?_
  have X3 := qh (X2.out.move hb3)
  have SA3 := qh ((SA2.out.under hb3 fun k hk => hk).more (S' := fun k => k < w3.heap.size) fun k hk => ql hk hb3.size)
  have HV3 := qh (HVA.out _ X3.out.bel)
  have HVI : Hid (validV ps v lo = true → validP ps v.ts v.ms lo = true) := qh fun h2 => by unfold validV at h2; rw [Bool.and_eq_true] at h2; exact h2.2
  have HVZ : Hid (validE ps v lo = 0 → ckWish ps v = 0 ∧ ckTree ps = 0 ∧ ckMs ps none lo = 0) := qh valid_zero
  have HLL := qh (@litL_ok ps v lo)
  have t0 := X3.out.t.cell 0; have u0 := X3.out.v.cell 0; have u1 := X3.out.v.cell 1; have u2 := X3.out.v.cell 2; have u3 := X3.out.v.cell 3
  simp only [qgz, qgs] at t0 u0 u1 u2 u3
  obtain ⟨ov, hov⟩ : ∃ x, validV ps v lo = x := ⟨_, rfl⟩
  obtain ⟨ev, hev⟩ : ∃ x, validE ps v lo = x := ⟨_, rfl⟩
  rw [hov] at HVI HV3
  rw [hev] at HVZ HV3 HLL
  have HEV := qh hev
  clear hov hev hb3 X2 SA2 HO2 Hrd HVA
  go_upto_region 5 with (first | (go_at_call 18; refine HV3.out.mono ?_; rintro e w4 ⟨rfl, hb4⟩; refine Hid.out ?_))
  refine qh ?_
  have X4 := qh (X3.out.move hb4)
  have SA4 := qh ((SA3.out.under hb4 fun k hk => hk).more (S' := fun k => k < w4.heap.size) fun k hk => ql hk hb4.size)
  clear hb4 X3 SA3 HV3 t0 u0 u1 u2 u3
  go_upto_region 5 with fail
  go_cut [48] (fun s48 wx => s48 = .bool ((ev == 0) && ov) ∧ wx = w4)
  case first =>
   by_cases hy : ev = 0
   ·subst hy
    go_wp2
    go_meet
    case rel => exact ⟨rfl, rfl⟩
   ·have hyb : (ev == 0) = false := by simpa using hy
    go_wp2
    go_meet
    case rel => exact ⟨by rw [hyb]; rfl, rfl⟩
  case rest =>
   obtain ⟨rfl, rfl⟩ := hcut
   go_upto_if 48 with fail
   go_cut [15] (fun _ wx => Hid (Wb w A n c [.slice A1 n1 c1, .slice A2 n2 c2, .slice A3 n3 c3, .slice A4 n4 c4] wx) ∧ Hid (RSet wx (fun k => k < wx.heap.size) Aa na L))
   case first =>
    by_cases hy : ev = 0 ∧ ov = true
    ·obtain ⟨hy, hv⟩ := hy
     subst hy hv
     obtain ⟨_, _, hlo⟩ := HVZ.out (by trivial)
     have hle := HBE.out.first lo hlo (HVI.out (by trivial))
     obtain ⟨hve, _⟩ := valid_of HCK.out HBE.out.ck HBE.out.ok
     have hl1 := HLI.out L Aa na ca _ X4.out.bel SA4.out ha1 HA2.out
     have hl2 := fun wx hb => HLI.out lo B q d wx hb ((HLo.out.under hb HS.out).more fun k hk => Hlt.out _ hb k hk) hqd hd
     unfold LiteralsP at hl1 hl2
     rw [litL_ok hve, hve, litsB_len, chVec_len] at hl1
     rw [HLL.out (by trivial), HEV.out, litsB_len, chVec_len] at hl2
     have hm1 : (chVec ps v L).length = manyC ps := chVec_len
     have hm2 : (chVec ps v lo).length = manyC ps := chVec_len
     have hM := (tree_parts (wish_parts HCK.out).tree).2.1
     generalize chVec ps v L = m1 at hl1 hm1 hle
     generalize chVec ps v lo = m2 at hl2 hm2 hle
     generalize manyC ps = M at hl1 hl2 hm1 hm2 hM
     have H1 := qh hl1; have H2 := qh hl2; have HLE := qh hle; have HM1 := qh hm1; have HM2 := qh hm2
     have t0 := X4.out.t.cell 0; have u0 := X4.out.v.cell 0; have u1 := X4.out.v.cell 1; have u2 := X4.out.v.cell 2; have u3 := X4.out.v.cell 3
     simp only [qgz, qgs] at t0 u0 u1 u2 u3
     clear hlo hle hve hl1 hl2 hm1 hm2
     go_upto_region 7 with (first | (go_at_call 13; refine H1.out.mono ?_; rintro e w6 ⟨Ia, ia, rfl, hra, hia, hia2, hb6⟩; refine Hid.out ?_))
     refine qh ?_
     have X6 := qh (X4.out.move hb6)
     have SA6 := qh ((SA4.out.under hb6 fun k hk => hk).more (S' := fun k => k < w6.heap.size) fun k hk => ql hk hb6.size)
     have IA6 := qh (RInts.more (S' := fun k => k < w6.heap.size) hra fun k hk => hk.2)
     have H2' := qh (H2.out _ X6.out.bel)
     clear X4 SA4 hra hb6 H1 H2 t0 u0 u1 u2 u3
     have t0 := X6.out.t.cell 0; have u0 := X6.out.v.cell 0; have u1 := X6.out.v.cell 1; have u2 := X6.out.v.cell 2; have u3 := X6.out.v.cell 3
     simp only [qgz, qgs] at t0 u0 u1 u2 u3
     go_upto_region 8 with (first | (go_at_call 13; refine H2'.out.mono ?_; rintro e w7 ⟨Ib, ib, rfl, hrb, hib, hib2, hb7⟩; refine Hid.out ?_))
     refine qh ?_
     have X7 := qh (X6.out.move hb7)
     have SA7 := qh ((SA6.out.under hb7 fun k hk => hk).more (S' := fun k => k < w7.heap.size) fun k hk => ql hk hb7.size)
     have IA7 := qh (RInts.more (S' := fun k => k < w7.heap.size) (RInts.below IA6.out hb7 fun k hk => hk) fun k hk => ql hk hb7.size)
     have IB7 := qh (RInts.more (S' := fun k => k < w7.heap.size) hrb fun k hk => hk.2)
     clear X6 SA6 IA6 hrb hb7 H2' t0 u0 u1 u2 u3
     have hMM : ((M : Int) == M) = true := beq_self_eq_true _
     have hMN : ((M : Int) != M) = false := by unfold bne; rw [hMM]; rfl
     go_upto_region 11 with fail
     go_loopg [78] M (fun g iv wr => ∃ k : Nat, Hid (k + g = M) ∧ iv = .int .i64 k ∧ Hid (∀ j, j < k → m1.getD j false = m2.getD j false) ∧ Hid (Below w7.heap.size w7 wr))
     case atStart => exact ⟨0, qh (Nat.zero_add _), rfl, qh (fun j hj => absurd hj (by omega)), qh (Below.refl _ _)⟩
     case round =>
      obtain ⟨k, Hk, rfl, HE, HBR⟩ := hrel
      by_cases hk : k < M
      ·obtain ⟨b1, o1, rfl, hb1S, g1⟩ := (RInts.below IA7.out HBR.out fun k hk => hk).at_ hk
       obtain ⟨b2, o2, rfl, hb2S, g2⟩ := (RInts.below IB7.out HBR.out fun k hk => hk).at_ hk
       rw [litsB_at (by rw [HM1.out]; exact hk)] at g1
       rw [litsB_at (by rw [HM2.out]; exact hk)] at g2
       have hk1 : (k : Int) < M := by omega
       have hk0 : (0 : Int) ≤ (k : Int) := by omega
       by_cases heq : m1.getD k false = m2.getD k false
       ·rw [← heq] at g2
        generalize (if m1.getD k false = true then (k : Int) + 1 else -((k : Int) + 1)) = x at g1 g2
        have hx : (x == x) = true := beq_self_eq_true x
        have hxn : (x != x) = false := by unfold bne; rw [hx]; rfl
        have HE2 : Hid (∀ j, j < k + 1 → m1.getD j false = m2.getD j false) := qh fun j hj => by
         by_cases e : j = k
         ·subst e; exact heq
         ·exact HE.out j (by omega)
        clear heq
        go_wp2
        go_quiet (fail)
        rename_i nq
        have HB9 := qh (below_drewN HBR.out nq)
        go_wp2
        go_roundg (gk - 1)
        case measure => have := Hk.out; omega
        case rel => exact ⟨k + 1, qh (by have := Hk.out; omega), by go_num, HE2, HB9⟩
       ·have h1f : m1.getD k false = false := HLE.out k HE.out heq
        have h2t : m2.getD k false = true := by
         cases h : m2.getD k false
         ·exact absurd (h1f.trans h.symm) heq
         ·rfl
        rw [h1f, if_neg (by decide)] at g1
        rw [h2t, if_pos rfl] at g2
        obtain ⟨x, hx⟩ : ∃ x : Int, x = -((k : Int) + 1) := ⟨_, rfl⟩
        obtain ⟨y, hy⟩ : ∃ y : Int, y = (k : Int) + 1 := ⟨_, rfl⟩
        rw [← hx] at g1
        rw [← hy] at g2
        have hxy : (x == y) = false := by rw [beq_eq_false_iff_ne]; omega
        have hxn : (x != y) = true := by unfold bne; rw [hxy]; rfl
        have hx0 : ¬ (0 < x) := by omega
        have hx1 : decide (0 < x) = false := decide_eq_false hx0
        clear hx hy h1f h2t heq
        go_wp2
        go_quiet (fail)
        rename_i nq
        have HB9 := qh (below_drewN HBR.out nq)
        go_wp2
        go_meet
        case rel => exact ⟨qh (X7.out.move HB9.out), qh ((SA7.out.under HB9.out fun k hk => hk).more fun k hk => ql hk HB9.out.size)⟩
      ·go_wp2
       go_meet
       case rel => exact ⟨qh (X7.out.move HBR.out), qh ((SA7.out.under HBR.out fun k hk => hk).more fun k hk => ql hk HBR.out.size)⟩
    ·have hyb : ((ev == 0) && ov) = false := by
      by_cases h : ev = 0
      ·subst h
       cases ov
       ·rfl
       ·exact absurd ⟨rfl, rfl⟩ hy
      ·rw [show (ev == 0) = false by simpa using h]; rfl
     rw [hyb]
     go_wp2
     go_meet
     case rel => exact ⟨X4, SA4⟩
   case rest =>
    obtain ⟨X5, SA5⟩ := hcut
    clear X4 SA4 HVI HVZ HLL HEV HLI
    have t0 := X5.out.t.cell 0; have u0 := X5.out.v.cell 0; have u1 := X5.out.v.cell 1; have u2 := X5.out.v.cell 2; have u3 := X5.out.v.cell 3
    simp only [qgz, qgs] at t0 u0 u1 u2 u3
    go_upto_region 20 with fail
    have RO5 : Hid (Ro wc.heap.size wc.heap.size (.slice A1 n1 c1) (.slice Aa na ca) (.slice A3 n3 c3) (.slice none 0 0) [] wc (wc.alloc (.cells #[.slice A1 n1 c1, .slice Aa na ca, .slice A3 n3 c3, .slice none 0 0] 30))) :=
     qh ⟨(Below.refl _ wc).alloc (qr _) _, Whole.new wc _ _ [.slice A1 n1 c1, .slice Aa na ca, .slice A3 n3 c3, .slice none 0 0] rfl, World.ownsRow_nil _ _ _ _, qr _⟩
    have HT0 := qh (wish_parts HCK.out).tree
    have HL0 := qh HBE.out.ck
    clear t0 u0 u1 u2 u3
    obtain ⟨j0, hj0, hy0, hy1, hy2⟩ := info_parts pair_info
    have Hj0 := qh hj0; have Hy0 := qh hy0; have Hy1 := qh hy1; have Hy2 := qh hy2
    clear hj0 hy0 hy1 hy2
    go_upto_region 21 with fail
    go_loopg [102] na (fun g iv wr => ∃ (i : Nat) (vo : Value), Hid (i + g = na) ∧ iv = .int .i64 i ∧ Hid (Ro wc.heap.size wc.heap.size (.slice A1 n1 c1) (.slice Aa na ca) (.slice A3 n3 c3) vo (onsOf (L.take i)) wc wr))
    case atStart => exact ⟨0, _, qh (Nat.zero_add _), rfl, RO5⟩
    case round =>
     obtain ⟨i, vo, Hi, rfl, RR⟩ := hrel
     have XR := qh (X5.out.move RR.out.b)
     by_cases hi : i < na
     ·have hbr := RR.out.b
      obtain ⟨b, o, m, E, u, v0, rfl, hbS, hm, huv, hv, hbo, g0', g1'⟩ := SA5.out.at_ hi
      have hbl : b < wc.heap.size := hbS
      have g0 := (hbr.cell (p := ⟨b, o + i * 2, none⟩) hbl).trans g0'
      have g1 := (hbr.cell (p := ⟨b, o + i * 2 + 1, none⟩) hbl).trans g1'
      have hi1 : (i : Int) < na := by omega
      have hi0 : (0 : Int) ≤ (i : Int) := by omega
      have HM := qh hm
      have HU := qh hbo.len
      have HBO := qh hbo
      have hb1 : Below wr.heap.size wr (wr.alloc (.cells #[.int .i64 m.pl, .slice E u v0] 85)) := (Below.refl _ wr).alloc (qr _) _
      have M4 := qh (Whole.new wr wr.heap.size 85 [.int .i64 m.pl, .slice E u v0] rfl)
      have R4 := qh (RR.out.move hb1)
      have HNE : Hid (vo.ownBlock ≠ some wr.heap.size) := qh fun e => by have := (RR.out.o.lt _ e).2; omega
      have HGE : Hid (wc.heap.size < wr.heap.size) := qh (by have h1 := RR.out.wi.lt; omega)
      unfold maxLen at hv
      clear hm hbo hb1 XR g0' g1' hbl
      have m0 := M4.out.cell 0; have m1 := M4.out.cell 1
      simp only [qgz, qgs] at m0 m1
      go_upto_region 24 with fail
      clear m0 m1 g0 g1
      obtain ⟨gO, rfl⟩ : ∃ x, x = gk := ⟨_, rfl⟩
      go_loopg [109] u (fun g iv wi => ∃ (k : Nat) (vk : Value), Hid (k + g = u) ∧ iv = .int .i64 k ∧ Hid (Whole wi wr.heap.size 85 [.int .i64 m.pl, .slice E u v0]) ∧ Hid (vk.ownBlock ≠ some wr.heap.size) ∧ Hid (Ro wc.heap.size wc.heap.size (.slice A1 n1 c1) (.slice (some ⟨b, o, none⟩) na ca) (.slice A3 n3 c3) vk (onsOf (L.take i) ++ onsTo m k) wc wi))
      case atStart => exact ⟨0, vo, qh (Nat.zero_add _), rfl, M4, HNE, by rw [onsTo_zero, List.append_nil]; exact R4⟩
      case round =>
       obtain ⟨k, vk, Hk, rfl, MI, HN, RI⟩ := hrel
       by_cases hk : k < u
       ·have hbi := RI.out.b
        obtain ⟨b2, o2, rfl, hb2S, hc2⟩ := (RBools.below HBO.out hbi fun k hk => hk).at_ hk
        have hk1 : (k : Int) < u := by omega
        have hk0 : (0 : Int) ≤ (k : Int) := by omega
        have HFW := qh (ons_few HT0.out HL0.out HM.out (k := k) (by have := HU.out; omega))
        have hsu := onsTo_succ m k
        rw [show onOf m.on k = m.on.getD k false from rfl] at hsu
        generalize m.on.getD k false = bb at hc2 hsu
        have HSU := qh hsu
        clear hsu
        cases bb
        ·go_wp2
         go_roundg (gk - 1)
         case measure => have := Hk.out; omega
         case rel => exact ⟨k + 1, vk, qh (by have := Hk.out; omega), by go_num, MI, HN, by rw [HSU.out, if_neg (by decide), List.append_nil]; exact RI⟩
        ·have m0 := MI.out.cell 0; have y3 := RI.out.wi.cell 3; have y3f := RI.out.wi.free 3; have y3l := RI.out.wi.lt
         simp only [qgz, qgs] at m0 y3
         have HCN := qh (cells_newE wr wr.heap.size [.int .i64 m.pl, .int .i64 (k : Int)] 86 rfl)
         have HOW := qh RI.out.o
         have hfw := HFW.out
         rw [List.length_append] at hfw
         go_wp2_with (at_builtin; refine wpList_append_own_at _ rfl _ _ 28 rfl (wc.heap.size + 1) 86 j0 (.agg #[.int .i64 0, .int .i64 0]) 2 16 Tryz.underlying28 Hj0.out Hy0.out Hy1.out Hy2.out rfl (by decide) _ _ _ rfl (HOW.out.alloc _) ⟨wr.heap.size, 0, none⟩ 1 1 [.int .i64 m.pl, .int .i64 (k : Int)] rfl rfl ?d1 ?d2 ?d3 ?d4 ?d5 ?_)
         try (case d1 => exact HCN.out)
         try (case d2 => simp [Value.oneCell'])
         try (case d3 => unfold maxLen; omega)
         try (case d4 => omega)
         try (case d5 => first | omega | (simp; omega))
         intro lv' w9 hown9 hg9 _ hat9
         obtain ⟨lA, lc, hlv, _, _, _⟩ := own_formK hown9
         have MI9 := fun ov' => RI.out.other (ov' := ov') MI.out HN.out (by have := HGE.out; omega) hg9
         have RI9 := RI.out.push (p := (m.pl, (k : Int))) (by rw [List.length_append]; exact hown9) hg9
         have HN9 : Hid (lv'.ownBlock ≠ some _) := qh (hat9.elim (fun e => e ▸ HN.out) fun e h => by
          rw [e] at h
          injection h with h
          have h1 := MI.out.lt
          (try simp at h)
          omega)
         rw [List.append_assoc] at RI9
         have hsu2 := HSU.out
         rw [if_pos (by trivial)] at hsu2
         rw [← hsu2] at RI9
         have RI9 := qh RI9
         have MI9 := qh (MI9 lv')
         clear y3 y3f y3l
         have WM := RI.out.mid hg9
         have y3 := WM.cell 3; have y3f := WM.free 3; have y3l := WM.lt
         simp only [qgz, qgs] at y3
         subst hlv
         clear WM hown9 hg9 hat9 hsu2 hfw HOW HCN m0
         go_wp2
         go_roundg (gk - 1)
         case measure => have := Hk.out; omega
         case rel => exact ⟨k + 1, _, qh (by have := Hk.out; omega), by go_num, MI9, HN9, RI9⟩
       ·obtain rfl : k = u := by have := Hk.out; omega
        have RI2 := RI.out
        rw [← HU.out, ← onsOf_step HM.out] at RI2
        have RI2 := qh RI2
        clear RI MI HN
        go_wp2
        go_roundg (gO - 1)
        case measure => have := Hi.out; omega
        case rel => exact ⟨i + 1, vk, qh (by have := Hi.out; omega), by go_num, RI2⟩
     ·obtain rfl : i = na := by have := Hi.out; omega
      have RR2 := RR.out
      rw [List.take_of_length_le (by rw [SA5.out.len]; exact qr _)] at RR2
      obtain ⟨Oa, oc, rfl, ho1, ho2, hor⟩ := own_formK RR2.o
      have hps : RSeq 2 RPair wr (fun k => k < wr.heap.size) Oa (onsOf L).length (onsOf L) := (pairs_row hor rfl).more (fun k hk => (RR2.o.lt k hk).2) fun _ _ h => h
      have hck : ckWish ps ⟨v.ts, L, v.ms, onsOf L⟩ = 0 := wish_kept HCK.out HL0.out
      have hrs := res_set hck (best_kept (wish_parts hck).ok HL0.out rfl rfl HBE.out.ok)
      have hlr := (SA5.out.under RR2.b fun k hk => hk).more (S' := fun k => k < wr.heap.size) fun k hk => ql hk RR2.b.size
      have hW := HWS.out _ XR.out.bel
      have hws : WsAt wr (fun k => k < wr.heap.size) A1 n1 c1 Aa i ca A3 n3 c3 Oa (onsOf L).length oc ⟨v.ts, L, v.ms, onsOf L⟩ :=
       ⟨hW.h1, ⟨ha1, HA2.out⟩, hW.h3, ⟨ho1, ho2⟩, hW.ts, hlr, hW.ms, hps⟩
      have hr := HRS.out ⟨v.ts, L, v.ms, onsOf L⟩ A1 Aa A3 Oa n1 c1 i ca n3 c3 (onsOf L).length oc _ XR.out.bel hws
      unfold ResolveP at hr
      rw [hrs.1, hrs.2] at hr
      have HR := qh hr
      have t0 := XR.out.t.cell 0
      have w0 := RR2.wi.cell 0; have w1 := RR2.wi.cell 1; have w2 := RR2.wi.cell 2; have w3 := RR2.wi.cell 3; have wl := RR2.wi.lt
      simp only [qgz, qgs] at t0 w0 w1 w2 w3
      have HLR := qh hlr
      clear RR2 RR hor hps hck hrs hlr hws hr hW
      go_upto_region 31 with (first | (go_at_call 27; refine HR.out.mono ?_; rintro e w5 ⟨Ab, nb, cb, Bb, kb, db, rfl, hSb, hb1, hb2, -, -, -, hb5⟩; refine Hid.out ?_))
      refine qh ?_
      have X6 := qh (XR.out.move hb5)
      have hss := sameSett_any L L (fun k => k < w5.heap.size) Aa Ab i ca nb cb w5 ((HLR.out.under hb5 fun k hk => hk).more fun k hk => ql hk hb5.size) (hSb.more fun k hk => hk.2) (fun k hk => hk) (Nat.le_trans ha1 HA2.out) (Nat.le_trans hb1 hb2)
      rw [eqL_self] at hss
      have HSS := qh hss
      clear HLR hSb hb5 t0 w0 w1 w2 w3 HR XR hss
      go_wp2_with (first | (go_at_call 16; refine HSS.out.mono ?_; rintro e w6 ⟨rfl, hb6⟩; refine Hid.out ?_))
      refine qh ?_
      have X7 := qh (X6.out.move hb6)
      clear hb6
      go_wp2
      go_ret
      exact ⟨rfl, X7.out.bel⟩
 ·have hzb : (z == 0) = false := by simpa using hz0
  have hzn : (z != 0) = true := by unfold bne; rw [hzb]; rfl
  go_upto_region 3 with (first | (go_at_call 29; refine HO2.out.mono ?_; rintro e w3 ⟨rfl, hb3⟩; refine Hid.out ?_))
  refine qh ?_
  have X3 := qh (X2.out.move hb3)
  have HO3 := qh (Hrd.out _ X3.out.bel)
  clear hb3 HO2
  go_wp2_with (first | (go_at_call 29; refine HO3.out.mono ?_; rintro e w4 ⟨rfl, hb4⟩; refine Hid.out ?_))
  refine qh ?_
  have X4 := qh (X3.out.move hb4)
  clear hb4
  go_wp2
  go_ret
  exact ⟨rfl, X4.out.bel⟩
end
/- Arguments that can be read as data, opened: atoms, strings; what the listed variables hold. -/
section
open Go.ChangeShapes Go.WideShapes Go.ChangeAt Go.RowKit Qm

section
variable {H : Type} {enc : TypeId × Value → H} {w : World} {base : Nat} {sp : Nat → Bool} {held : Bool}
theorem field_cell {P : Program} {t : TypeId} {fs : Array Field} {fuel : Nat} {cs : List Value} {x : DataW H × List MemPlace} (ht : P.underlying t = some (.struct fs)) (h : DataW.trod enc P w base sp held fuel t cs = some x)
  (i : Nat) {f : Field} (hf : fs[i]? = some f) (hc : P.cellsOf f.type = 1) (hlt : f.offset < P.cellsOf t) : ∃ c n y, cs[f.offset]? = some c ∧ DataW.trod enc P w base sp held n f.type [c] = some y := by
 obtain ⟨xs, n, _, _, hl, hxl, hx⟩ := DataW.trod_struct ht h
 have h1 := hx i f hf
 have hlt' : f.offset < cs.length := by omega
 have hi : i < fs.size := (Array.getElem?_eq_some_iff.1 hf).1
 rw [hc, List.drop_eq_getElem_cons hlt'] at h1
 refine ⟨cs[f.offset], n, xs[i]'(by omega), List.getElem?_eq_getElem hlt', ?_⟩
 rw [List.getElem?_eq_getElem (by omega)] at h1
 have e : (cs[f.offset] :: List.drop (f.offset + 1) cs).take 1 = [cs[f.offset]] := rfl
 rw [e] at h1
 exact h1
def In64 (x : Int) : Prop := -9223372036854775808 ≤ x ∧ x ≤ 9223372036854775807
theorem i64_le {x : Int} (h : (Lit.int .i64 x).wf = true) : In64 x := by
 unfold In64
 simp [Lit.wf, IntKind.min, IntKind.max, IntKind.bits, IntKind.signed] at h; omega
theorem six_of {α : Type} {cs : List α} {a b c d e f : α} (hl : cs.length = 6) (h0 : cs[0]? = some a) (h1 : cs[1]? = some b) (h2 : cs[2]? = some c) (h3 : cs[3]? = some d) (h4 : cs[4]? = some e) (h5 : cs[5]? = some f) : cs = [a, b, c, d, e, f] := by
 match cs, hl with
 | [_, _, _, _, _, _], _ => simp at h0 h1 h2 h3 h4 h5; simp [h0, h1, h2, h3, h4, h5]
theorem str_one {P : Program} {t : TypeId} {n : Nat} {c : Value} {y : DataW H × List MemPlace} (ht : P.underlying t = some .string) (h : DataW.trod enc P w base sp held n t [c] = some y) : ∃ s : ByteArray, c = .string s ∧ s.size ≤ maxLen := by
 obtain ⟨s, e, _, hs⟩ := DataW.trod_string ht h
 simp at e
 exact ⟨s, e, hs⟩
theorem int_oneA {P : Program} {t : TypeId} {n : Nat} {c : Value} {y : DataW H × List MemPlace} (ht : P.underlying t = some (.int .i64)) (h : DataW.trod enc P w base sp held n t [c] = some y) : ∃ x : Int, c = .int .i64 x ∧ In64 x := by
 obtain ⟨x, e, _, hs⟩ := DataW.trod_int ht h
 simp at e
 exact ⟨x, e, i64_le hs⟩
theorem bool_one_ {P : Program} {t : TypeId} {n : Nat} {c : Value} {y : DataW H × List MemPlace} (ht : P.underlying t = some .bool) (h : DataW.trod enc P w base sp held n t [c] = some y) : ∃ x : Bool, c = .bool x := by
 obtain ⟨x, e, _⟩ := DataW.trod_bool ht h
 simp at e
 exact ⟨x, e⟩
theorem atom_cells {fuel : Nat} {cs : List Value} {x : DataW H × List MemPlace} (h : DataW.trod enc Tryz.prog w base sp held fuel 75 cs = some x) :
  ∃ (s f : ByteArray) (op ver slot : Int) (on : Bool), cs = [.string s, .int .i64 op, .int .i64 ver, .int .i64 slot, .string f, .bool on] ∧ s.size ≤ maxLen ∧ f.size ≤ maxLen ∧ In64 op ∧
   In64 ver ∧ In64 slot := by
 have hT := Tryz.underlying75
 have hl : cs.length = 6 := by
  obtain ⟨_, _, _, _, hl, _⟩ := DataW.trod_struct hT h
  rw [hl]; kernel_rfl
 obtain ⟨c0, n0, y0, e0, k0⟩ := field_cell hT h 0 rfl (by kernel_rfl) (of_decide_eq_true (by kernel_rfl))
 obtain ⟨c1, n1, y1, e1, k1⟩ := field_cell hT h 1 rfl (by kernel_rfl) (of_decide_eq_true (by kernel_rfl))
 obtain ⟨c2, n2, y2, e2, k2⟩ := field_cell hT h 2 rfl (by kernel_rfl) (of_decide_eq_true (by kernel_rfl))
 obtain ⟨c3, n3, y3, e3, k3⟩ := field_cell hT h 3 rfl (by kernel_rfl) (of_decide_eq_true (by kernel_rfl))
 obtain ⟨c4, n4, y4, e4, k4⟩ := field_cell hT h 4 rfl (by kernel_rfl) (of_decide_eq_true (by kernel_rfl))
 obtain ⟨c5, n5, y5, e5, k5⟩ := field_cell hT h 5 rfl (by kernel_rfl) (of_decide_eq_true (by kernel_rfl))
 obtain ⟨s, rfl, hs⟩ := str_one Tryz.underlying9 k0
 obtain ⟨op, rfl, ho⟩ := int_oneA Tryz.underlying3 k1
 obtain ⟨ver, rfl, hv⟩ := int_oneA Tryz.underlying3 k2
 obtain ⟨slot, rfl, hsl⟩ := int_oneA Tryz.underlying3 k3
 obtain ⟨f, rfl, hf⟩ := str_one Tryz.underlying9 k4
 obtain ⟨on, rfl⟩ := bool_one_ Tryz.underlying4 k5
 exact ⟨s, f, op, ver, slot, on, six_of hl e0 e1 e2 e3 e4 e5, hs, hf, ho, hv, hsl⟩
end

/-! what the listed variables hold -/
theorem laid_at {P : Program} {w : World} : ∀ {l : List (String × DataW Unit)} {k : Nat} {x : String × DataW Unit}, laidMet P l w → l[k]? = some x → ∃ r, laidMet P (x :: r) w
 | [], _, _, _, h => by simp at h
 | y :: r, 0, x, h, hk => by
  simp only [List.getElem?_cons_zero, Option.some.injEq] at hk
  subst hk
  exact ⟨r, h⟩
 | y :: r, k + 1, x, h, hk => laid_at h.tail (by simpa using hk)
theorem gPow : Tryz.prog.globalNamed "internal/strconv.uint64pow10" = some 1 := by kernel_rfl
theorem gRng : Tryz.prog.globalNamed "strconv.ErrRange" = some 3 := by kernel_rfl
theorem gSyn : Tryz.prog.globalNamed "strconv.ErrSyntax" = some 2 := by kernel_rfl
theorem tPow : (Tryz.prog.globals[1]?).map (·.type) = some 240 := by kernel_rfl
theorem tRng : (Tryz.prog.globals[3]?).map (·.type) = some 176 := by kernel_rfl
theorem tSyn : (Tryz.prog.globals[2]?).map (·.type) = some 176 := by kernel_rfl
theorem rowErr : ∀ u, Tryz.prog.typeName? 3 u = some "*errors.errorString" → u = 263 := fun _ h => typeName_ptr_named (nm := "errors.errorString") (by kernel_rfl) (by kernel_rfl) (by decide) _ h
theorem laidV_of {w : World} {l : List (String × DataW Unit)} (h : laidMet Tryz.prog l w) {i j k : Nat} (hi : l[i]? = some ("internal/strconv.uint64pow10", Rows.laid_internal_strconv_uint64pow10)) (hj : l[j]? = some ("strconv.ErrRange", Rows.laid_strconv_ErrRange)) (hk : l[k]? = some ("strconv.ErrSyntax", Rows.laid_strconv_ErrSyntax)) : LaidV w := by
 obtain ⟨_, h1⟩ := laid_at h hi
 obtain ⟨_, h2⟩ := laid_at h hj
 obtain ⟨_, h3⟩ := laid_at h hk
 obtain ⟨a2, s2, e2, _⟩ := laid_sentinel h2 gRng tRng Tryz.underlying176 rowErr Tryz.underlying263 Tryz.underlying265 rfl rfl Tryz.underlying9 (by kernel_rfl) (by kernel_rfl)
 obtain ⟨a3, s3, e3, _⟩ := laid_sentinel h3 gSyn tSyn Tryz.underlying176 rowErr Tryz.underlying263 Tryz.underlying265 rfl rfl Tryz.underlying9 (by kernel_rfl) (by kernel_rfl)
 exact ⟨⟨_, _, e3⟩, ⟨_, _, e2⟩, Lib.tabIs_of_head gPow tPow Tryz.underlying240 Tryz.underlying213 (by kernel_rfl) (by kernel_rfl) h1⟩
end
/- Arguments that can be read as data, opened into the words of these proofs. -/
section
open Go.ChangeShapes Go.WideShapes Go.ChangeAt Go.RowKit Go.Joins Go.Deep

theorem spot_add {w : World} {a : Addr} {n : Nat} {f : Nat → Value} (hn : 0 < n) (h : ∀ i, i < n → w.cell? (a.add i) = some (f i)) : ∃ b o, a = ⟨b, o, none⟩ ∧ b < w.heap.size ∧ ∀ j, j < n → w.cell? ⟨b, o + j, none⟩ = some (f j) := by
 obtain ⟨b, o, spot⟩ := a
 have h0 := h 0 hn
 have hs : spot = none := by simpa [Addr.add] using World.cell?_spot h0
 subst hs
 have ha : ∀ j, (⟨b, o, none⟩ : Addr).add j = ⟨b, o + j, none⟩ := by
  intro j; unfold Addr.add; by_cases hj : j = 0 <;> simp [hj]
 refine ⟨b, o, rfl, ?_, fun j hj => by rw [← ha]; exact h j hj⟩
 have := World.block_lt_of_cell? w _ h0
 rw [ha] at this; exact this

theorem row_of_cells {w : World} {a : Addr} {n : Nat} {vs : List Value} (hl : vs.length = n) (h : ∀ i (_ : i < n), w.cell? (a.add i) = vs[i]?) : Row w (fun k => k < w.heap.size) (some a) n vs := by
 refine ⟨hl, fun hn => ?_⟩
 obtain ⟨b, o, rfl, hb, hc⟩ := spot_add (f := fun i => (vs[i]?).getD undef) hn (fun i hi => by rw [h i hi, List.getElem?_eq_getElem (by omega)]; rfl)
 exact ⟨b, o, rfl, hb, fun j hj => by rw [hc j hj, List.getElem?_eq_getElem (by omega)]; rfl⟩

section
variable {H : Type} {enc : TypeId × Value → H} {P : Program} {w : World} {base : Nat} {held : Bool}
end
end
/- Arguments that can be read as needs, opened. -/
section
open Go.ChangeShapes Go.WideShapes Go.ChangeAt Go.RowKit Qm

theorem flatK {K : Nat} {cs : List (List Value)} (h : ∀ x ∈ cs, x.length = K) : ∀ {j : Nat} {x : List Value}, cs[j]? = some x → ∀ i, i < K → cs.flatten[j * K + i]? = x[i]? := by
 induction cs with
 | nil => intro j x hj; simp at hj
 | cons c r ih =>
  intro j x hj i hi
  have hc := h c (List.mem_cons_self ..)
  rw [List.flatten_cons]
  cases j with
  | zero =>
   simp only [List.getElem?_cons_zero, Option.some.injEq] at hj
   subst hj
   rw [List.getElem?_append_left (by omega)]; congr 1; omega
  | succ j =>
   rw [List.getElem?_cons_succ] at hj
   have he : (j + 1) * K = j * K + K := Nat.succ_mul j K
   rw [List.getElem?_append_right (by omega)]
   rw [← ih (fun y hy => h y (List.mem_cons_of_mem _ hy)) hj i hi]
   congr 1; omega
theorem flatK_len {K : Nat} {cs : List (List Value)} (h : ∀ x ∈ cs, x.length = K) : cs.flatten.length = cs.length * K := by
 induction cs with
 | nil => simp
 | cons c r ih =>
  have hc := h c (List.mem_cons_self ..)
  have := ih fun y hy => h y (List.mem_cons_of_mem _ hy)
  simp only [List.flatten_cons, List.length_append, List.length_cons, Nat.succ_mul]
  omega

section
variable {H : Type} {enc : TypeId × Value → H} {P : Program} {w : World} {base : Nat} {sp : Nat → Bool} {held : Bool}
theorem slice_items {t e : TypeId} {K fuel : Nat} {v : Value} {x : DataW H × List MemPlace} (ht : P.underlying t = some (.slice e)) (hK : P.cellsOf e = K) (hK0 : 0 < K) (h : DataW.trod enc P w base sp held fuel t [v] = some x) :
  ∃ (A : Option Addr) (n c : Nat) (cs : List (List Value)), v = .slice A n c ∧ n ≤ c ∧ c ≤ maxLen ∧ cs.length = n ∧ Row w (fun k => k < w.heap.size) A (n * K) cs.flatten ∧
   ∀ x ∈ cs, x.length = K ∧ ∃ m y, m < fuel ∧ DataW.trod enc P w base sp held m e x = some y := by
 rcases DataW.trod_slice ht h with ⟨hcs, _⟩ | ⟨a, len, cap, elems, rest, n, hfuel, hcs, _, hb, hl, hm, hlen, hel, _, _⟩
 ·simp at hcs
  exact ⟨none, 0, 0, [], hcs, qr _, Nat.zero_le _, rfl, by simpa using Row.nil_, fun x hx => by cases hx⟩
 ·simp at hcs
  subst hcs hK
  have key : ∀ i, i < len → ∃ cs', w.cells? base (a.add (i * P.cellsOf e)) (P.cellsOf e) = some cs' ∧ ∃ y, DataW.trod enc P w base sp held n e cs' = some y := fun i hi => by
   have h1 := hel i hi
   rw [List.getElem?_eq_getElem (by omega)] at h1
   obtain ⟨cs', h2, h3⟩ := Option.bind_eq_some_iff.1 h1
   exact ⟨cs', h2, _, h3⟩
  have hget : ∀ j, j < len → ((List.range len).map fun i => (w.cells? base (a.add (i * P.cellsOf e)) (P.cellsOf e)).getD [])[j]? = some ((w.cells? base (a.add (j * P.cellsOf e)) (P.cellsOf e)).getD []) := fun j hj => by
   rw [List.getElem?_map, List.getElem?_range hj]; rfl
  have hmem : ∀ x ∈ (List.range len).map fun i => (w.cells? base (a.add (i * P.cellsOf e)) (P.cellsOf e)).getD [], x.length = P.cellsOf e ∧ ∃ m y, m < fuel ∧ DataW.trod enc P w base sp held m e x = some y := by
   intro x hx
   obtain ⟨i, hi, rfl⟩ := List.mem_map.1 hx
   rw [List.mem_range] at hi
   obtain ⟨cs', h1, y, h2⟩ := key i hi
   rw [h1]
   exact ⟨(World.cells?_some h1).2.1, n, y, by omega, h2⟩
  refine ⟨some a, len, cap, (List.range len).map fun i => (w.cells? base (a.add (i * P.cellsOf e)) (P.cellsOf e)).getD [], rfl, hl, hm, by simp, ?_, hmem⟩
  refine row_of_cells (by rw [flatK_len fun x hx => (hmem x hx).1]; simp) fun p hp => ?_
  obtain ⟨i, r, hr, rfl⟩ : ∃ i r, r < P.cellsOf e ∧ p = i * P.cellsOf e + r := ⟨p / P.cellsOf e, p % P.cellsOf e, Nat.mod_lt _ hK0, by rw [Nat.mul_comm]; exact (Nat.div_add_mod p _).symm⟩
  have hi : i < len := by
   apply Classical.byContradiction
   intro hni
   have : len * P.cellsOf e ≤ i * P.cellsOf e := Nat.mul_le_mul_right _ (by omega)
   omega
  rw [flatK (fun x hx => (hmem x hx).1) (hget i hi) r hr]
  obtain ⟨cs', h1, _⟩ := key i hi
  rw [h1, ← Go.Deep.add_add]
  exact (World.cells?_some h1).2.2 r hr
end
section
variable {H : Type} {enc : TypeId × Value → H} {w : World} {base : Nat} {sp : Nat → Bool} {held : Bool}
theorem bs_list (s : ByteArray) : s = ⟨s.data.toList.toArray⟩ := by obtain ⟨⟨l⟩⟩ := s; rfl
set_option maxRecDepth 100000 in
theorem need_cells : ∀ (fuel : Nat) (cs : List Value) (x : DataW H × List MemPlace), DataW.trod enc Tryz.prog w base sp held fuel 99 cs = some x →
  ∃ y, RNd w (fun k => k < w.heap.size) cs y := by
 intro fuel
 induction fuel using Nat.strongRecOn with
 | _ fuel ih =>
  intro cs x h
  have hT := Tryz.underlying99
  obtain ⟨xs, n, hfu, _, hlen, hxl, hx⟩ := DataW.trod_struct hT h
  have hl : cs.length = 10 := by rw [hlen]; kernel_rfl
  obtain ⟨c0, n0, y0, e0, k0⟩ := field_cell hT h 0 rfl (by kernel_rfl) (of_decide_eq_true (by kernel_rfl))
  obtain ⟨c7, n7, y7, e7, k7⟩ := field_cell hT h 2 rfl (by kernel_rfl) (of_decide_eq_true (by kernel_rfl))
  obtain ⟨c8, n8, y8, e8, k8⟩ := field_cell hT h 3 rfl (by kernel_rfl) (of_decide_eq_true (by kernel_rfl))
  have h1 := hx 1 _ rfl
  have h4 := hx 4 _ rfl
  have hxs : xs.length = 5 := hxl
  rw [List.getElem?_eq_getElem (by omega)] at h1 h4
  obtain ⟨k, rfl, _⟩ := int_oneA Tryz.underlying3 k0
  obtain ⟨f, rfl, hf⟩ := str_one Tryz.underlying9 k7
  obtain ⟨no, rfl⟩ := bool_one_ Tryz.underlying4 k8
  obtain ⟨s, g, op, ver, slot, on, ea, hs, hg, _, _, _⟩ := atom_cells h1
  match cs, hl with
  | [d0, d1, d2, d3, d4, d5, d6, d7, d8, d9], _ =>
   have h4' : DataW.trod enc Tryz.prog w base sp held n 97 [d9] = some xs[4] := h4
   obtain ⟨A, m, c, rows, rfl, hnc, hc, hrl, hrow, hit⟩ := slice_items Tryz.underlying97 (K := 10) (by kernel_rfl) (by decide) h4'
   have e0' : d0 = .int .i64 k := by simpa using e0
   have e7' : d7 = .string f := by simpa using e7
   have e8' : d8 = .bool no := by simpa using e8
   have ea' : [d1, d2, d3, d4, d5, d6] = [.string s, .int .i64 op, .int .i64 ver, .int .i64 slot, .string g, .bool on] := ea
   simp only [List.cons.injEq, and_true] at ea'
   obtain ⟨rfl, rfl, rfl, rfl, rfl, rfl⟩ := ea'
   subst e0' e7' e8'
   have hkid : ∀ x ∈ rows, ∃ y, RNd w (fun k => k < w.heap.size) x y := fun x hx => by
    obtain ⟨_, m, y, hm, hy⟩ := hit x hx
    exact ih m (by omega) x y hy
   obtain ⟨ks, hkl, hks⟩ : ∃ ks : List Nd, ks.length = rows.length ∧ ∀ (j : Nat) (x : List Value) (y : Nd), rows[j]? = some x → ks[j]? = some y → RNd w (fun k => k < w.heap.size) x y := by
    clear hrow hit hrl
    induction rows with
    | nil => exact ⟨[], rfl, fun j x y h => by simp at h⟩
    | cons r rs ihr =>
     obtain ⟨y, hy⟩ := hkid r (List.mem_cons_self ..)
     obtain ⟨ks, h1, h2⟩ := ihr fun x hx => hkid x (List.mem_cons_of_mem _ hx)
     refine ⟨y :: ks, by simp [h1], fun j x' y' h3 h4 => ?_⟩
     cases j with
     | zero =>
      simp only [List.getElem?_cons_zero, Option.some.injEq] at h3 h4
      subst h3 h4; exact hy
     | succ j => rw [List.getElem?_cons_succ] at h3 h4; exact h2 j x' y' h3 h4
   refine ⟨.mk k ⟨s.data.toList, op, ver, slot, g.data.toList, on⟩ f.data.toList no ks, ?_⟩
   have hr := RNd.shut (w := w) (S := fun k => k < w.heap.size) (k := k) (a := ⟨s.data.toList, op, ver, slot, g.data.toList, on⟩) (f := f.data.toList) (no := no) (ks := ks) hnc hc (by rw [← Lib.size_eq]; exact hs) (by rw [← Lib.size_eq]; exact hg) (by rw [← Lib.size_eq]; exact hf) ⟨rows, by omega, hrl, hrow, hks⟩
   unfold ndRow at hr
   simp only [] at hr
   rw [← bs_list, ← bs_list, ← bs_list] at hr
   exact hr
end
end
/- Arguments that can be read as trees, opened. -/
section
open Go.ChangeShapes Go.WideShapes Go.ChangeAt Go.RowKit Qm

theorem rows_of {α : Type} {R : List Value → α → Prop} : ∀ {rows : List (List Value)}, (∀ x ∈ rows, ∃ y, R x y) → ∃ ys : List α, ys.length = rows.length ∧ ∀ (j : Nat) (x : List Value) (y : α), rows[j]? = some x → ys[j]? = some y → R x y
 | [], _ => ⟨[], rfl, fun j x y h => by simp at h⟩
 | r :: rs, h => by
  obtain ⟨y, hy⟩ := h r (List.mem_cons_self ..)
  obtain ⟨ks, h1, h2⟩ := rows_of (rows := rs) fun x hx => h x (List.mem_cons_of_mem _ hx)
  refine ⟨y :: ks, by simp [h1], fun j x' y' h3 h4 => ?_⟩
  cases j with
  | zero =>
   simp only [List.getElem?_cons_zero, Option.some.injEq] at h3 h4
   subst h3 h4; exact hy
  | succ j => rw [List.getElem?_cons_succ] at h3 h4; exact h2 j x' y' h3 h4
theorem strs_flat : ∀ {cs : List (List Value)} {ys : List Qm.W}, cs.length = ys.length → (∀ (j : Nat) (x : List Value) (y : Qm.W), cs[j]? = some x → ys[j]? = some y → x = [.string ⟨y.toArray⟩]) → cs.flatten = strs ys
 | [], [], _, _ => rfl
 | [], _ :: _, h, _ => by simp at h
 | _ :: _, [], h, _ => by simp at h
 | r :: rs, y :: ys, h, hR => by
  rw [List.flatten_cons, hR 0 r y rfl rfl, strs_flat (cs := rs) (ys := ys) (by simpa using h) fun j x z h1 h2 => hR (j + 1) x z (by simpa using h1) (by simpa using h2)]; rfl
section
variable {H : Type} {enc : TypeId × Value → H} {w : World} {base : Nat} {sp : Nat → Bool} {held : Bool}
theorem open_seq {α : Type} {R : List Value → α → Prop} {t e : TypeId} {K fuel : Nat} {v : Value} {x : DataW H × List MemPlace} (ht : Tryz.prog.underlying t = some (.slice e)) (hK : Tryz.prog.cellsOf e = K) (hK0 : 0 < K)
  (h : DataW.trod enc Tryz.prog w base sp held fuel t [v] = some x) (hR : ∀ m (x : List Value) y, m < fuel → DataW.trod enc Tryz.prog w base sp held m e x = some y → ∃ z, R x z) :
  ∃ (A : Option Addr) (n c : Nat) (ys : List α), v = .slice A n c ∧ n ≤ c ∧ c ≤ maxLen ∧ RSeq K R w (fun k => k < w.heap.size) A n ys := by
 obtain ⟨A, n, c, cs, rfl, h1, h2, h3, h4, h5⟩ := slice_items ht hK hK0 h
 obtain ⟨ys, k1, k2⟩ := rows_of (R := R) (rows := cs) fun x hx => by
  obtain ⟨_, m, y, hm, hy⟩ := h5 x hx
  exact hR m x y hm hy
 exact ⟨A, n, c, ys, rfl, h1, h2, cs, by omega, h3, h4, fun x hx => (h5 x hx).1, k2⟩
theorem open_words {fuel : Nat} {v : Value} {x : DataW H × List MemPlace} (h : DataW.trod enc Tryz.prog w base sp held fuel 96 [v] = some x) :
  ∃ (A : Option Addr) (n c : Nat) (fs : List Qm.W), v = .slice A n c ∧ n ≤ c ∧ c ≤ maxLen ∧ RWords w (fun k => k < w.heap.size) A n fs := by
 obtain ⟨A, n, c, ys, rfl, h1, h2, cs, hy, hc, hrow, hK, hR⟩ := open_seq (R := fun x (f : Qm.W) => x = [.string ⟨f.toArray⟩] ∧ f.length ≤ maxLen) Tryz.underlying96 (K := 1) (by kernel_rfl) (by decide) h fun m x y _ hxy => by
  obtain ⟨s, e, _, hs⟩ := DataW.trod_string Tryz.underlying9 hxy
  exact ⟨s.data.toList, by rw [e, ← bs_list], by rw [← Lib.size_eq]; exact hs⟩
 refine ⟨A, n, c, ys, rfl, h1, h2, ?_, fun f hf => ?_⟩
 ·have e : cs.flatten = strs ys := strs_flat (by omega) fun j x y h1 h2 => (hR j x y h1 h2).1
  rw [← e]
  simpa using hrow
 ·obtain ⟨j, hj, rfl⟩ := List.mem_iff_getElem.1 hf
  exact (hR j (cs[j]'(by omega)) _ (List.getElem?_eq_getElem (by omega)) (List.getElem?_eq_getElem hj)).2
set_option maxRecDepth 100000 in
theorem package_cells {fuel : Nat} {cs : List Value} {x : DataW H × List MemPlace} (h : DataW.trod enc Tryz.prog w base sp held fuel 101 cs = some x) :
  ∃ p, RPk w (fun k => k < w.heap.size) cs p := by
 have hT := Tryz.underlying101
 obtain ⟨xs, n, hfu, _, hlen, hxl, hx⟩ := DataW.trod_struct hT h
 have hl : cs.length = 14 := by rw [hlen]; kernel_rfl
 obtain ⟨c0, n0, y0, e0, k0⟩ := field_cell hT h 0 rfl (by kernel_rfl) (of_decide_eq_true (by kernel_rfl))
 obtain ⟨c1, n1, y1, e1, k1⟩ := field_cell hT h 1 rfl (by kernel_rfl) (of_decide_eq_true (by kernel_rfl))
 obtain ⟨c2, n2, y2, e2, k2⟩ := field_cell hT h 2 rfl (by kernel_rfl) (of_decide_eq_true (by kernel_rfl))
 obtain ⟨c3, n3, y3, e3, k3⟩ := field_cell hT h 3 rfl (by kernel_rfl) (of_decide_eq_true (by kernel_rfl))
 have h4 := hx 4 _ rfl
 have hxs : xs.length = 5 := hxl
 rw [List.getElem?_eq_getElem (by omega)] at h4
 obtain ⟨s, rfl, hs⟩ := str_one Tryz.underlying9 k0
 obtain ⟨ver, rfl, _⟩ := int_oneA Tryz.underlying3 k1
 obtain ⟨slot, rfl, _⟩ := int_oneA Tryz.underlying3 k2
 obtain ⟨A, m, c, fs, rfl, hm, hc, hfs⟩ := open_words k3
 obtain ⟨nd, hnd⟩ := need_cells _ _ _ h4
 refine ⟨⟨s.data.toList, ver, slot, fs, nd⟩, A, m, c, (cs.drop 4).take 10, ?_, hm, hc, by rw [← Lib.size_eq]; exact hs, hfs, hnd⟩
 match cs, hl with
 | [d0, d1, d2, d3, d4, d5, d6, d7, d8, d9, d10, d11, d12, d13], _ =>
  have e0' : d0 = .string s := by simpa using e0
  have e1' : d1 = .int .i64 ver := by simpa using e1
  have e2' : d2 = .int .i64 slot := by simpa using e2
  have e3' : d3 = .slice A m c := by simpa using e3
  subst e0' e1' e2' e3'
  simp [pkRow, ← bs_list]
set_option maxRecDepth 100000 in
theorem tree_cells {fuel : Nat} {cs : List Value} {x : DataW H × List MemPlace} (h : DataW.trod enc Tryz.prog w base sp held fuel 24 cs = some x) :
  ∃ (A : Option Addr) (n c : Nat) (ps : List Pk), cs = [.slice A n c] ∧ n ≤ c ∧ c ≤ maxLen ∧ RTree w (fun k => k < w.heap.size) A n ps := by
 have hT := Tryz.underlying24
 obtain ⟨xs, n, hfu, _, hlen, hxl, hx⟩ := DataW.trod_struct hT h
 have hl : cs.length = 1 := by rw [hlen]; kernel_rfl
 obtain ⟨c0, n0, y0, e0, k0⟩ := field_cell hT h 0 rfl (by kernel_rfl) (of_decide_eq_true (by kernel_rfl))
 obtain ⟨A, m, c, ps, rfl, hm, hc, hps⟩ := open_seq (R := RPk w (fun k => k < w.heap.size)) Tryz.underlying22 (K := 14) (by kernel_rfl) (by decide) k0 fun m x y _ hxy => package_cells hxy
 refine ⟨A, m, c, ps, ?_, hm, hc, hps⟩
 match cs, hl with
 | [d0], _ => simp at e0; rw [e0]
set_option maxRecDepth 100000 in
theorem open_tree {r : Reach} {b0 : Nat} {v : Value} {d : DataW H} {p : List MemPlace} (hv : Value.okWide Tryz.prog w r b0 24 v) (h : DataW.Trod enc Tryz.prog w base sp held 24 v d p) :
  ∃ (A : Option Addr) (n c : Nat) (ps : List Pk), v = .agg #[.slice A n c] ∧ n ≤ c ∧ c ≤ maxLen ∧ RTree w (fun k => k < w.heap.size) A n ps := by
 obtain ⟨cs, rfl, _⟩ := okWide_struct Tryz.underlying24 hv
 obtain ⟨fuel, hf⟩ := h
 obtain ⟨A, n, c, ps, e, h1, h2, h3⟩ := tree_cells hf
 refine ⟨A, n, c, ps, ?_, h1, h2, h3⟩
 obtain ⟨l⟩ := cs
 simp only [Value.cells] at e
 subst e
 rfl
end
end
/- Arguments that can be read as sets of members, as wishes, opened. -/
section
open Go.ChangeShapes Go.WideShapes Go.ChangeAt Go.RowKit Qm

theorem flat_ones {α : Type} {f : α → Value} : ∀ {cs : List (List Value)} {ys : List α}, cs.length = ys.length → (∀ (j : Nat) (x : List Value) (y : α), cs[j]? = some x → ys[j]? = some y → x = [f y]) → cs.flatten = ys.map f
 | [], [], _, _ => rfl
 | [], _ :: _, h, _ => by simp at h
 | _ :: _, [], h, _ => by simp at h
 | r :: rs, y :: ys, h, hR => by
  rw [List.flatten_cons, hR 0 r y rfl rfl, flat_ones (f := f) (cs := rs) (ys := ys) (by simpa using h) fun j x z h1 h2 => hR (j + 1) x z (by simpa using h1) (by simpa using h2)]; rfl
section
variable {H : Type} {enc : TypeId × Value → H} {w : World} {base : Nat} {sp : Nat → Bool} {held : Bool}
theorem open_ones {α : Type} {f : α → Value} {t e : TypeId} {fuel : Nat} {v : Value} {x : DataW H × List MemPlace} (ht : Tryz.prog.underlying t = some (.slice e)) (hK : Tryz.prog.cellsOf e = 1)
  (h : DataW.trod enc Tryz.prog w base sp held fuel t [v] = some x) (hR : ∀ m (x : List Value) y, m < fuel → DataW.trod enc Tryz.prog w base sp held m e x = some y → ∃ z, x = [f z]) :
  ∃ (A : Option Addr) (n c : Nat) (ys : List α), v = .slice A n c ∧ n ≤ c ∧ c ≤ maxLen ∧ Row w (fun k => k < w.heap.size) A n (ys.map f) := by
 obtain ⟨A, n, c, ys, rfl, h1, h2, cs, hy, hc, hrow, _, hr⟩ := open_seq (R := fun x z => x = [f z]) ht hK (by decide) h hR
 refine ⟨A, n, c, ys, rfl, h1, h2, ?_⟩
 rw [← flat_ones (by omega) hr]
 simpa using hrow
theorem open_boolsV {fuel : Nat} {v : Value} {x : DataW H × List MemPlace} (h : DataW.trod enc Tryz.prog w base sp held fuel 40 [v] = some x) :
  ∃ (A : Option Addr) (n c : Nat) (ys : List Bool), v = .slice A n c ∧ n ≤ c ∧ c ≤ maxLen ∧ RBools w (fun k => k < w.heap.size) A n ys :=
 open_ones (f := Value.bool) Tryz.underlying40 (by kernel_rfl) h fun m x y _ hxy => by
  obtain ⟨b, e, _⟩ := DataW.trod_bool Tryz.underlying4 hxy
  exact ⟨b, e⟩
theorem open_intsV {fuel : Nat} {v : Value} {x : DataW H × List MemPlace} (h : DataW.trod enc Tryz.prog w base sp held fuel 27 [v] = some x) :
  ∃ (A : Option Addr) (n c : Nat) (ys : List Int), v = .slice A n c ∧ n ≤ c ∧ c ≤ maxLen ∧ RInts w (fun k => k < w.heap.size) A n ys :=
 open_ones (f := Value.int .i64) Tryz.underlying27 (by kernel_rfl) h fun m x y _ hxy => by
  obtain ⟨b, e, _⟩ := DataW.trod_int Tryz.underlying3 hxy
  exact ⟨b, e⟩
set_option maxRecDepth 100000 in
theorem member_cells {fuel : Nat} {cs : List Value} {x : DataW H × List MemPlace} (h : DataW.trod enc Tryz.prog w base sp held fuel 85 cs = some x) :
  ∃ m, RMem w (fun k => k < w.heap.size) cs m := by
 have hT := Tryz.underlying85
 obtain ⟨xs, n, hfu, _, hlen, hxl, hx⟩ := DataW.trod_struct hT h
 have hl : cs.length = 2 := by rw [hlen]; kernel_rfl
 obtain ⟨c0, n0, y0, e0, k0⟩ := field_cell hT h 0 rfl (by kernel_rfl) (of_decide_eq_true (by kernel_rfl))
 obtain ⟨c1, n1, y1, e1, k1⟩ := field_cell hT h 1 rfl (by kernel_rfl) (of_decide_eq_true (by kernel_rfl))
 obtain ⟨pl, rfl, _⟩ := int_oneA Tryz.underlying3 k0
 obtain ⟨A, m, c, on, rfl, hm, hc, hon⟩ := open_boolsV k1
 refine ⟨⟨pl, on⟩, A, m, c, ?_, hm, hc, hon⟩
 match cs, hl with
 | [d0, d1], _ =>
  have e0' : d0 = .int .i64 pl := by simpa using e0
  have e1' : d1 = .slice A m c := by simpa using e1
  subst e0' e1'; rfl
set_option maxRecDepth 100000 in
theorem open_setV {fuel : Nat} {v : Value} {x : DataW H × List MemPlace} (h : DataW.trod enc Tryz.prog w base sp held fuel 26 [v] = some x) :
  ∃ (A : Option Addr) (n c : Nat) (l : List Mem), v = .slice A n c ∧ n ≤ c ∧ c ≤ maxLen ∧ RSet w (fun k => k < w.heap.size) A n l := by
 obtain ⟨A, n, c, l, e, h1, h2, h3⟩ := open_seq (R := RMem w (fun k => k < w.heap.size)) Tryz.underlying26 (K := 2) (by kernel_rfl) (by decide) h fun m x y _ hxy => member_cells hxy
 exact ⟨A, n, c, l, e, h1, h2, h3⟩
set_option maxRecDepth 100000 in
theorem open_set {r : Reach} {b0 : Nat} {v : Value} {d : DataW H} {p : List MemPlace} (hv : Value.okWide Tryz.prog w r b0 26 v) (h : DataW.Trod enc Tryz.prog w base sp held 26 v d p) :
  ∃ (A : Option Addr) (n c : Nat) (l : List Mem), v = .slice A n c ∧ n ≤ c ∧ c ≤ maxLen ∧ RSet w (fun k => k < w.heap.size) A n l := by
 obtain ⟨A, n, c, rfl, -⟩ := okWide_slice Tryz.underlying26 hv
 obtain ⟨fuel, hf⟩ := h
 exact open_setV (v := .slice A n c) hf
set_option maxRecDepth 100000 in
theorem pair_cells {fuel : Nat} {cs : List Value} {x : DataW H × List MemPlace} (h : DataW.trod enc Tryz.prog w base sp held fuel 86 cs = some x) : ∃ q, RPair cs q := by
 obtain ⟨xs, m, _, ex, hlen, hl, hel⟩ := DataW.trod_array Tryz.underlying86 h
 have c1 : Tryz.prog.cellsOf 3 = 1 := by kernel_rfl
 have c2 : Tryz.prog.cellsOf 86 = 2 := by kernel_rfl
 rw [c2] at hlen
 have h0 := hel 0 (by decide)
 have h1 := hel 1 (by decide)
 rw [c1, List.getElem?_eq_getElem (by omega)] at h0 h1
 match cs, hlen with
 | [a, b], _ =>
  obtain ⟨x0, rfl, _⟩ := int_oneA Tryz.underlying3 (c := a) h0
  obtain ⟨x1, rfl, _⟩ := int_oneA Tryz.underlying3 (c := b) h1
  exact ⟨(x0, x1), rfl⟩
set_option maxRecDepth 100000 in
theorem wish_cells {fuel : Nat} {cs : List Value} {x : DataW H × List MemPlace} (h : DataW.trod enc Tryz.prog w base sp held fuel 30 cs = some x) :
  ∃ v, RWs w (fun k => k < w.heap.size) cs v := by
 have hT := Tryz.underlying30
 obtain ⟨xs, n, hfu, _, hlen, hxl, hx⟩ := DataW.trod_struct hT h
 have hl : cs.length = 4 := by rw [hlen]; kernel_rfl
 obtain ⟨d0, n0, y0, e0, k0⟩ := field_cell hT h 0 rfl (by kernel_rfl) (of_decide_eq_true (by kernel_rfl))
 obtain ⟨d1, n1, y1, e1, k1⟩ := field_cell hT h 1 rfl (by kernel_rfl) (of_decide_eq_true (by kernel_rfl))
 obtain ⟨d2, n2, y2, e2, k2⟩ := field_cell hT h 2 rfl (by kernel_rfl) (of_decide_eq_true (by kernel_rfl))
 obtain ⟨d3, n3, y3, e3, k3⟩ := field_cell hT h 3 rfl (by kernel_rfl) (of_decide_eq_true (by kernel_rfl))
 obtain ⟨A1, m1, c1, ts, rfl, a1, a2, a3⟩ := open_seq (R := RAt) Tryz.underlying25 (K := 6) (by kernel_rfl) (by decide) k0 fun m x y _ hxy => by
  obtain ⟨s, f, op, ver, slot, on, rfl, hs, hf, _⟩ := atom_cells hxy
  exact ⟨⟨s.data.toList, op, ver, slot, f.data.toList, on⟩, by unfold atRow; rw [← bs_list, ← bs_list], by rw [← Lib.size_eq]; exact hs, by rw [← Lib.size_eq]; exact hf⟩
 obtain ⟨A2, m2, c2, ins, rfl, b1, b2, b3⟩ := open_setV k1
 obtain ⟨A3, m3, c3, ms, rfl, g1, g2, g3⟩ := open_intsV k2
 obtain ⟨A4, m4, c4, on, rfl, f1, f2, f3⟩ := open_seq (R := RPair) Tryz.underlying28 (K := 2) (by kernel_rfl) (by decide) k3 fun m x y _ hxy => pair_cells hxy
 refine ⟨⟨ts, ins, ms, on⟩, A1, m1, c1, A2, m2, c2, A3, m3, c3, A4, m4, c4, ?_, ⟨⟨a1, a2⟩, ⟨b1, b2⟩, ⟨g1, g2⟩, ⟨f1, f2⟩, a3, b3, g3, f3⟩⟩
 match cs, hl with
 | [z0, z1, z2, z3], _ =>
  have e0' : z0 = .slice A1 m1 c1 := by simpa using e0
  have e1' : z1 = .slice A2 m2 c2 := by simpa using e1
  have e2' : z2 = .slice A3 m3 c3 := by simpa using e2
  have e3' : z3 = .slice A4 m4 c4 := by simpa using e3
  subst e0' e1' e2' e3'; rfl
set_option maxRecDepth 100000 in
theorem open_wish {r : Reach} {b0 : Nat} {v : Value} {d : DataW H} {p : List MemPlace} (hv : Value.okWide Tryz.prog w r b0 30 v) (h : DataW.Trod enc Tryz.prog w base sp held 30 v d p) :
  ∃ A1 n1 c1 A2 n2 c2 A3 n3 c3 A4 n4 c4 u, v = .agg #[.slice A1 n1 c1, .slice A2 n2 c2, .slice A3 n3 c3, .slice A4 n4 c4] ∧ WsAt w (fun k => k < w.heap.size) A1 n1 c1 A2 n2 c2 A3 n3 c3 A4 n4 c4 u := by
 obtain ⟨cs, rfl, _⟩ := okWide_struct Tryz.underlying30 hv
 obtain ⟨fuel, hf⟩ := h
 obtain ⟨u, A1, n1, c1, A2, n2, c2, A3, n3, c3, A4, n4, c4, e, hu⟩ := wish_cells hf
 refine ⟨A1, n1, c1, A2, n2, c2, A3, n3, c3, A4, n4, c4, u, ?_, hu⟩
 obtain ⟨l⟩ := cs
 simp only [Value.cells, wsRow] at e
 subst e
 rfl
end
end
end Go.Proofs.YtedbhlgjcnnknaaGreatDoor
