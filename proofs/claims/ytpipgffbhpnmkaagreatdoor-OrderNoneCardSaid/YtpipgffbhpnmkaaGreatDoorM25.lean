/- Parts of the proof: walks and plain laws, side by side. -/
import Derived.Test.YtpipgffbhpnmkaaGreatDoorM24
import Derived.Test.YtpipgffbhpnmkaaGreatDoorRows
import Derived.Test.YtpipgffbhpnmkaaGreatDoorM6
import Derived.ProofKit
import Derived.LaidMore
import Derived.OpenShut
import Derived.Stop.Joined
import Derived.Stop.LaidErr
import Derived.Lib.LaidTab
import Derived.Test.YtpipgffbhpnmkaaGreatDoorM3
import Derived.ChangeOld
import Derived.Lib.SmallJoins
import Derived.Deep.Matrix
import Derived.Deep.Grids
set_option linter.unusedVariables false
set_option linter.unusedSimpArgs false
set_option linter.unusedSectionVars false
/- OrderNone, walked: it returns true. -/
namespace Go.Proofs.YtpipgffbhpnmkaaGreatDoor
open Go.RowKit Qm

def inB (m : Mem) (x : Ac) : Bool := !x.out && decide (x.m = m)
set_option maxRecDepth 100000 in
set_option maxHeartbeats 3200000 in
theorem onone1_any (S : Nat → Prop) (w0 : World) (x : Ac) (m : Mem) (cx : List Value) (hx : RAct w0 S cx x) (A : Option Addr) (n c : Nat) (hA : RBools w0 S A n m.on) (hn : n ≤ maxLen) (hS : ∀ k, S k → k < w0.heap.size) (mb : Nat) (w : World) (hb : Below w0.heap.size w0 w)
    (h0 : w.cell? ⟨mb, 0, none⟩ = some (.int .i64 m.pl)) (h1 : w.cell? ⟨mb, 1, none⟩ = some (.slice A n c)) :
    Calls Tryz.prog 13 #[.agg cx.toArray, .pointer (some ⟨mb, 0, none⟩)] w fun e w' => e = .returned (.bool (inB m x)) ∧ Below w.heap.size w w' := by
  obtain ⟨B, k, d, rfl, hk, hd, hB⟩ := hx
  obtain ⟨o, m2, z⟩ := x
  have hlt := World.block_lt_of_cell? _ _ h0
  dsimp only at hlt
  have hlt1 : mb < w.heap.size + 1 := by omega
  have hb2 : Below w.heap.size w (w.alloc (.cells #[.bool o, .int .i64 m2.pl, .slice B k d, .int .i64 z] 48)) := (Below.refl _ w).alloc (Nat.le_refl _) _
  have HB := Lib.hid hb2
  have hb3 := hb.trans (hb2.mono hb.size)
  have Hs := Lib.hid (rsameM_any m2 m S B A k d n c _ (Row.below hB hb3 hS) (Row.below hA hb3 hS) (Nat.le_trans hk hd) hn (fun k hk => Nat.lt_of_lt_of_le (hS k hk) hb3.size))
  have M0 := Lib.hid (Whole.new w w.heap.size 48 [.bool o, .int .i64 m2.pl, .slice B k d, .int .i64 z] rfl)
  have HR : Hid (inB m ⟨o, m2, z⟩ = (!o && decide (m2 = m))) := Lib.hid rfl
  generalize inB m ⟨o, m2, z⟩ = R at HR ⊢
  generalize decide (m2 = m) = q at HR Hs
  have x0 := M0.out.cell 0; have x1 := M0.out.cell 1; have x2 := M0.out.cell 2; have x3 := M0.out.cell 3
  simp only [List.getElem?_cons_zero, List.getElem?_cons_succ] at x0 x1 x2 x3
  clear hA hB hb hb2 hb3 hS
  cases o
  · have HE : Hid (R = q) := Lib.hid HR.out
    go_enter Tryz.func13, Tryz.ntmps13
    go_wp2_with (first | (go_at_call 11; refine Hs.out.mono ?_; rintro e w2 ⟨rfl, hb2⟩; refine Hid.out ?_))
    refine Lib.hid ?_
    have HB2 := Lib.hid (HB.out.trans (hb2.mono HB.out.size))
    clear hb2
    go_wp2
    go_ret
    exact ⟨ret_bool HE.out.symm, HB2.out⟩
  · have HE : Hid (R = false) := Lib.hid HR.out
    go_enter Tryz.func13, Tryz.ntmps13
    go_wp2
    go_ret
    exact ⟨ret_bool HE.out.symm, HB.out⟩
/-- In the round: the acts' world below, the member's box. -/
structure On (w6 : World) (mb : Nat) (mv : List Value) (wx : World) : Prop where
  b : Below w6.heap.size w6 wx
  m : Whole wx mb 33 mv
theorem On.move {w6 : World} {mb : Nat} {mv : List Value} {wx wy : World} (h : On w6 mb mv wx) (hb : Below wx.heap.size wx wy) : On w6 mb mv wy := ⟨h.b.trans (hb.mono h.b.size), h.m.below hb h.m.lt⟩
theorem ckSet_nilO {ps : List Pk} {l : List Mem} (h : ckSet ps l = 0) : ckSet ps [] = 0 := by
  unfold ckSet
  rw [if_neg (by simpa using (ckSet_zero h).1)]; rfl

set_option maxRecDepth 100000 in
set_option maxHeartbeats 6400000 in
theorem onone_any (ps : List Pk) (l : List Mem) (S : Nat → Prop) (A B : Option Addr) (n c q d : Nat) (w : World) (hT : RTree w S A n ps) (hnc : n ≤ c) (hc : c ≤ maxLen) (hL : RSet w S B q l) (hqd : q ≤ d) (hd : d ≤ maxLen) (hS : ∀ k, S k → k < w.heap.size) (hLV : LaidV w) (hMW : MaxW w) :
    Calls Tryz.prog 4 #[.agg #[.slice A n c], .slice B q d] w fun e w' => e = .returned (.bool true) ∧ Below w.heap.size w w' := by
  have X0 := Lib.hid (Tx.new w A n c)
  have HT := Lib.hid hT; have HS := Lib.hid hS; have HL := Lib.hid hL; have HLV := Lib.hid hLV; have HMW := Lib.hid hMW; clear hT hS hL hLV hMW
  have Hlt := Lib.hid (fun (wx : World) (hb : Below w.heap.size w wx) k hk => Nat.lt_of_lt_of_le (HS.out k hk) hb.size)
  have HP1 := Lib.hid (fun wx (hb : Below w.heap.size w wx) => oplan_any ps l l S A B B n c q d q d wx (HT.out.under hb HS.out) hnc hc (HL.out.under hb HS.out) hqd hd (HL.out.under hb HS.out) hqd hd (Hlt.out _ hb))
  have HP2 := Lib.hid (fun wx (hb : Below w.heap.size w wx) => oplan_any ps l [] S A B none n c q d 0 0 wx (HT.out.under hb HS.out) hnc hc (HL.out.under hb HS.out) hqd hd RSet.nil_ (Nat.le_refl _) (by decide) (Hlt.out _ hb))
  have HP3 := Lib.hid (fun wx (hb : Below w.heap.size w wx) => oplan_any ps [] l S A none B n c 0 0 q d wx (HT.out.under hb HS.out) hnc hc RSet.nil_ (Nat.le_refl _) (by decide) (HL.out.under hb HS.out) hqd hd (Hlt.out _ hb))
  have Hor := Lib.hid (fun wx (hb : Below w.heap.size w wx) => ordered_any wx (HLV.out.below hb) (HMW.out.below hb))
  have HLL := Lib.hid HL.out.len
  obtain ⟨z, hz⟩ : ∃ z, planE ps l l = z := ⟨_, rfl⟩
  have HZ := Lib.hid hz; clear hz
  have HA1 := Lib.hid (HP1.out _ X0.out.below)
  unfold maxLen at hc hd
  clear HP1
  go_enter Tryz.func4, Tryz.ntmps4
  go_upto_region 2 with (first | (go_at_call 8; refine HA1.out.mono ?_; rintro e w2 ⟨v2, cs2, B2, rfl, _, hG2, hb2⟩; rw [HZ.out]; refine Hid.out ?_))
  refine Lib.hid ?_
  have X2 := Lib.hid (X0.out.move hb2)
  obtain ⟨A2, c2, rfl, _, _, _⟩ := hG2.seq
  clear hb2 hG2 HA1 X0
  have HO2 := Lib.hid (Hor.out _ X2.out.below)
  by_cases hz0 : z = 0
  · subst hz0
    have hck : ckSet ps l = 0 := by
      have h := HZ.out
      unfold planE at h
      split at h
      · exact h
      · exact h
    have HE2 : Hid (planE ps l [] = 0) := Lib.hid (by unfold planE; rw [ckSet_nilO hck, if_neg (by decide)]; exact hck)
    have HE3 : Hid (planE ps [] l = 0) := Lib.hid (by unfold planE; rw [hck, if_neg (by decide)]; exact ckSet_nilO hck)
    have HR1 : Hid ((planR ps l l).length = 0) := Lib.hid (by unfold planR; rw [if_pos HZ.out, planL_self]; rfl)
    have HR2 : Hid (planR ps l [] = l.map fun m => ⟨true, m, 0⟩) := Lib.hid (by unfold planR; rw [if_pos HE2.out, planL_nil])
    have HR3 : Hid (planR ps [] l = planL ps [] l) := Lib.hid (by unfold planR; rw [if_pos HE3.out])
    rw [HR1.out]
    go_upto_region 4 with (first | (go_at_call 9; refine HO2.out.mono ?_; rintro e w3 ⟨rfl, hb3⟩; refine Hid.out ?_))
    refine Lib.hid ?_
    have X3 := Lib.hid (X2.out.move hb3)
    have HA3 := Lib.hid (HP2.out _ X3.out.below)
    clear hb3 HO2 HP2
    have hl4 : (planR ps l []).length = q := by rw [HR2.out, List.length_map]; exact HLL.out
    have hl6 : (planR ps [] l).length = q := by rw [HR3.out, (planL_new ps l).1]; exact HLL.out
    have HL4 := Lib.hid hl4; have HL6 := Lib.hid hl6
    clear hl4 hl6
    have t0 := X3.out.whole.cell 0
    simp only [List.getElem?_cons_zero] at t0
    go_upto_region 5 with (first | (go_at_call 8; refine HA3.out.mono ?_; rintro e w4 ⟨v4, cs4, B4, rfl, _, hG4, hb4⟩; rw [HE2.out]; refine Hid.out ?_))
    refine Lib.hid ?_
    obtain ⟨A4, c4, rfl, _, hc4, hs4⟩ := hG4.seq
    rw [HL4.out] at hs4 ⊢
    rw [HR2.out] at hs4
    have X4 := Lib.hid (X3.out.move hb4)
    have HA4 := Lib.hid (HP3.out _ X4.out.below)
    have HS4 := Lib.hid hs4
    clear hG4 hb4 HA3 HP3 t0 hs4 X2 X3
    have t0 := X4.out.whole.cell 0
    simp only [List.getElem?_cons_zero] at t0
    go_upto_region 6 with (first | (go_at_call 8; refine HA4.out.mono ?_; rintro e w6 ⟨v6, cs6, B6, rfl, hB6, hG6, hb6⟩; rw [HE3.out]; refine Hid.out ?_))
    refine Lib.hid ?_
    obtain ⟨A6, c6, rfl, _, hc6, hs6⟩ := hG6.seq
    rw [HL6.out] at hs6 ⊢
    rw [HR3.out] at hs6
    have X6 := Lib.hid (X4.out.move hb6)
    have HS6 := Lib.hid (RSeq.more (S' := fun k => k < w6.heap.size) (R' := RAct w6 fun k => k < w6.heap.size) (fun k hk => hk.2) hs6 fun x y h => h.more fun k hk => hk.2)
    have HS4' := Lib.hid (RSeq.more (S' := fun k => k < w6.heap.size) (R' := RAct w6 fun k => k < w6.heap.size) (fun k hk => Nat.lt_of_lt_of_le hk.2 hb6.size) (RSeq.keep HS4.out (fun p hp => hb6.cell hp.2) fun x y h => h) fun x y h => (h.keep fun p hp => hb6.cell hp.2).more fun k hk => Nat.lt_of_lt_of_le hk.2 hb6.size)
    have HNEW := Lib.hid (planL_new ps l).2
    clear hG6 hb6 HA4 t0 hs6 hB6 X4 HS4
    generalize planL ps [] l = cl at HS6 HNEW
    go_wp2
    go_loopg [66] q (fun g iv wr => ∃ i : Nat, Hid (i + g = q) ∧ iv = .int .i64 i ∧ Hid (Below w6.heap.size w6 wr))
    case atStart => exact ⟨0, Lib.hid (Nat.zero_add _), rfl, Lib.hid (Below.refl _ _)⟩
    case round =>
      obtain ⟨i, Hi, rfl, XR⟩ := hrel
      by_cases hi : i < q
      · have hbr := X6.out.below.trans (XR.out.mono X6.out.below.size)
        obtain ⟨b, o, m, E, u, v0, rfl, hbS, hm, huv, hv, hbo, g0, g1⟩ := (HL.out.under hbr HS.out).at_ hi
        have hme : memAt l i = m := memAt_at hm
        obtain ⟨z6, hz6⟩ := HNEW.out i (by rw [HLL.out]; exact hi)
        rw [hme] at hz6
        have HANY : Hid (cl.any (inB m) = true) := Lib.hid (List.any_eq_true.2 ⟨_, hz6, by unfold inB; simp⟩)
        obtain ⟨b2, o2, x, y, rfl, hbS2, hy, hxy, _, hcell⟩ := HS4'.out.at_ hi (by decide)
        rw [List.getElem?_map, hm] at hy
        obtain rfl := (Option.some.inj hy).symm
        obtain ⟨E2, u2, v2, rfl, hu2, hv2, hon2⟩ := hxy
        have e0 := hcell 0 (by omega); have e1 := hcell 1 (by omega); have e2 := hcell 2 (by omega); have e3 := hcell 3 (by omega)
        simp only [List.getElem?_cons_zero, List.getElem?_cons_succ, Nat.add_zero] at e0 e1 e2 e3
        dsimp only at e0 e1 hon2
        have GE0 := Lib.hid e0; have GE1 := Lib.hid e1; have GE2 := Lib.hid e2; have GE3 := Lib.hid e3
        have hbl2 : b2 < w6.heap.size := hbS2
        have hb1 : Below wr.heap.size wr (wr.alloc (.cells #[.int .i64 m.pl, .slice E u v0] 33)) := (Below.refl _ wr).alloc (Nat.le_refl _) _
        have Y7 : Hid (On w6 wr.heap.size [.int .i64 m.pl, .slice E u v0] (wr.alloc (.cells #[.int .i64 m.pl, .slice E u v0] 33))) := Lib.hid ⟨XR.out.trans (hb1.mono XR.out.size), Whole.new wr wr.heap.size 33 [.int .i64 m.pl, .slice E u v0] rfl⟩
        have hbo6 : RBools w6 S E u m.on := Row.keep hbo fun p hp => (XR.out.cell (p := p) (Nat.lt_of_lt_of_le (HS.out _ hp) X6.out.below.size)).symm
        have hbo66 : RBools w6 (fun k => k < w6.heap.size) E u m.on := Row.more hbo6 fun k hk => Nat.lt_of_lt_of_le (HS.out _ hk) X6.out.below.size
        have HSM := Lib.hid (fun wx (hb : Below w6.heap.size w6 wx) => (by simpa using rsameM_any m m (fun k => k < w6.heap.size) E2 E u2 v2 u v0 wx (Row.below hon2 hb fun k hk => hk) (Row.below hbo66 hb fun k hk => hk) (Nat.le_trans hu2 hv2) (Nat.le_trans huv hv) (fun k hk => Nat.lt_of_lt_of_le hk hb.size) : Calls Tryz.prog 11 #[.agg #[.int .i64 m.pl, .slice E2 u2 v2], .agg #[.int .i64 m.pl, .slice E u v0]] wx fun e w' => e = .returned (.bool true) ∧ Below wx.heap.size wx w'))
        have HCF := Lib.hid (fun wx (hO : On w6 wr.heap.size [.int .i64 m.pl, .slice E u v0] wx) => by
          have h := containsF_A (RAct w6 fun k => k < w6.heap.size) (inB m) A6 q c6 cl 13 #[.pointer (some ⟨wr.heap.size, 0, none⟩)] wx (fun k => k < w6.heap.size) (RSeq.keep HS6.out (fun p hp => hO.b.cell hp) fun _ _ h => h) (fun k hk => Nat.lt_of_lt_of_le hk hO.b.size) (by unfold maxLen; omega)
            ⟨fun args W => by kernel_rfl, fun x hx cx W hb hr => onone1_any (fun k => k < w6.heap.size) w6 x m cx hr E u v0 hbo66 (Nat.le_trans huv hv) (fun k hk => hk) wr.heap.size W (hO.b.trans (hb.mono hO.b.size)) ((hO.m.below hb hO.m.lt).cell 0) ((hO.m.below hb hO.m.lt).cell 1)⟩ (fun x y h => by obtain ⟨A, n, c, rfl, _⟩ := h; exact ⟨_, _, _, _, _, _, rfl⟩)
          rw [HANY.out] at h
          exact h)
        have hbl : b < wr.heap.size := Nat.lt_of_lt_of_le (HS.out _ hbS) hbr.size
        have hi1 : (i : Int) < q := by omega
        have hi0 : (0 : Int) ≤ (i : Int) := by omega
        clear hcell hy hon2 hbo hbo6 hbo66 hb1 hz6 hm hme hbr e0 e1 e2 e3
        go_upto_region 11 with fail
        clear g0 g1
        have x0 := (Y7.out.b.cell (p := ⟨b2, o2 + i * 4, none⟩) hbl2).trans GE0.out; have x1 := (Y7.out.b.cell (p := ⟨b2, o2 + i * 4 + 1, none⟩) hbl2).trans GE1.out; have x2 := (Y7.out.b.cell (p := ⟨b2, o2 + i * 4 + 2, none⟩) hbl2).trans GE2.out; have x3 := (Y7.out.b.cell (p := ⟨b2, o2 + i * 4 + 3, none⟩) hbl2).trans GE3.out; have m0 := Y7.out.m.cell 0; have m1 := Y7.out.m.cell 1; simp only [List.getElem?_cons_zero, List.getElem?_cons_succ] at m0 m1
        refine wp_region_held_drew (S := (fun w' => w'.cell? ⟨b2, o2 + i * 4, none⟩ = some (.bool true) ∧ w'.cell? ⟨b2, o2 + i * 4 + 1, none⟩ = some (.int .i64 m.pl) ∧ w'.cell? ⟨b2, o2 + i * 4 + 2, none⟩ = some (.slice E2 u2 v2) ∧ w'.cell? ⟨b2, o2 + i * 4 + 3, none⟩ = some (.int .i64 0) ∧ w'.cell? ⟨wr.heap.size, 0, none⟩ = some (.int .i64 m.pl) ∧ w'.cell? ⟨wr.heap.size, 1, none⟩ = some (.slice E u v0))) (by kernel_rfl) (⟨x0, x1, x2, x3, m0, m1⟩) (fun hHeld => ?_)
        first
        | (refine wpAnyH_take (i := 0) (v := ?_) held_at0 (by kernel_rfl) (by kernel_rfl) (by kernel_rfl) (fun _ _ _ h => h) (Or.inl ⟨by rfl, ?_⟩) (by assumption) ?_
           rotate_left
           · (intro w_ hSw; (try dsimp only at hSw); go_simp; (try with_reducible rfl))
           (try simp only [Act.put, List.setIfInBounds_toArray, List.set_cons_zero, List.set_cons_succ]))
        | (refine wpAnyH_take (i := 0) (v := undef) held_at0 (by kernel_rfl) (by kernel_rfl) (by kernel_rfl) (fun _ _ _ h => h) (Or.inr ⟨by rfl, rfl⟩) (by assumption) ?_
           (try simp only [Act.put, List.setIfInBounds_toArray, List.set_cons_zero, List.set_cons_succ]))
        first
        | (refine wpAnyH_take (i := 1) (v := ?_) held_at1 (by kernel_rfl) (by kernel_rfl) (by kernel_rfl) (fun _ _ _ h => h) (Or.inl ⟨by rfl, ?_⟩) (by assumption) ?_
           rotate_left
           · (intro w_ hSw; (try dsimp only at hSw); go_simp; (try with_reducible rfl))
           (try simp only [Act.put, List.setIfInBounds_toArray, List.set_cons_zero, List.set_cons_succ]))
        | (refine wpAnyH_take (i := 1) (v := undef) held_at1 (by kernel_rfl) (by kernel_rfl) (by kernel_rfl) (fun _ _ _ h => h) (Or.inr ⟨by rfl, rfl⟩) (by assumption) ?_
           (try simp only [Act.put, List.setIfInBounds_toArray, List.set_cons_zero, List.set_cons_succ]))
        first
        | (refine wpAnyH_take (i := 2) (v := ?_) held_at2 (by kernel_rfl) (by kernel_rfl) (by kernel_rfl) (fun _ _ _ h => h) (Or.inl ⟨by rfl, ?_⟩) (by assumption) ?_
           rotate_left
           · (intro w_ hSw; (try dsimp only at hSw); go_simp; (try with_reducible rfl))
           (try simp only [Act.put, List.setIfInBounds_toArray, List.set_cons_zero, List.set_cons_succ]))
        | (refine wpAnyH_take (i := 2) (v := undef) held_at2 (by kernel_rfl) (by kernel_rfl) (by kernel_rfl) (fun _ _ _ h => h) (Or.inr ⟨by rfl, rfl⟩) (by assumption) ?_
           (try simp only [Act.put, List.setIfInBounds_toArray, List.set_cons_zero, List.set_cons_succ]))
        first
        | (refine wpAnyH_take (i := 3) (v := ?_) held_at3 (by kernel_rfl) (by kernel_rfl) (by kernel_rfl) (fun _ _ _ h => h) (Or.inl ⟨by rfl, ?_⟩) (by assumption) ?_
           rotate_left
           · (intro w_ hSw; (try dsimp only at hSw); go_simp; (try with_reducible rfl))
           (try simp only [Act.put, List.setIfInBounds_toArray, List.set_cons_zero, List.set_cons_succ]))
        | (refine wpAnyH_take (i := 3) (v := undef) held_at3 (by kernel_rfl) (by kernel_rfl) (by kernel_rfl) (fun _ _ _ h => h) (Or.inr ⟨by rfl, rfl⟩) (by assumption) ?_
           (try simp only [Act.put, List.setIfInBounds_toArray, List.set_cons_zero, List.set_cons_succ]))
        first
        | (refine wpAnyH_take (i := 4) (v := ?_) held_at4 (by kernel_rfl) (by kernel_rfl) (by kernel_rfl) (fun _ _ _ h => h) (Or.inl ⟨by rfl, ?_⟩) (by assumption) ?_
           rotate_left
           · (intro w_ hSw; (try dsimp only at hSw); go_simp; (try with_reducible rfl))
           (try simp only [Act.put, List.setIfInBounds_toArray, List.set_cons_zero, List.set_cons_succ]))
        | (refine wpAnyH_take (i := 4) (v := undef) held_at4 (by kernel_rfl) (by kernel_rfl) (by kernel_rfl) (fun _ _ _ h => h) (Or.inr ⟨by rfl, rfl⟩) (by assumption) ?_
           (try simp only [Act.put, List.setIfInBounds_toArray, List.set_cons_zero, List.set_cons_succ]))
        first
        | (refine wpAnyH_take (i := 5) (v := ?_) held_at5 (by kernel_rfl) (by kernel_rfl) (by kernel_rfl) (fun _ _ _ h => h) (Or.inl ⟨by rfl, ?_⟩) (by assumption) ?_
           rotate_left
           · (intro w_ hSw; (try dsimp only at hSw); go_simp; (try with_reducible rfl))
           (try simp only [Act.put, List.setIfInBounds_toArray, List.set_cons_zero, List.set_cons_succ]))
        | (refine wpAnyH_take (i := 5) (v := undef) held_at5 (by kernel_rfl) (by kernel_rfl) (by kernel_rfl) (fun _ _ _ h => h) (Or.inr ⟨by rfl, rfl⟩) (by assumption) ?_
           (try simp only [Act.put, List.setIfInBounds_toArray, List.set_cons_zero, List.set_cons_succ]))
        first
        | (refine wpAnyH_take (i := 6) (v := ?_) held_at6 (by kernel_rfl) (by kernel_rfl) (by kernel_rfl) (fun _ _ _ h => h) (Or.inl ⟨by rfl, ?_⟩) (by assumption) ?_
           rotate_left
           · (intro w_ hSw; (try dsimp only at hSw); go_simp; (try with_reducible rfl))
           (try simp only [Act.put, List.setIfInBounds_toArray, List.set_cons_zero, List.set_cons_succ]))
        | (refine wpAnyH_take (i := 6) (v := undef) held_at6 (by kernel_rfl) (by kernel_rfl) (by kernel_rfl) (fun _ _ _ h => h) (Or.inr ⟨by rfl, rfl⟩) (by assumption) ?_
           (try simp only [Act.put, List.setIfInBounds_toArray, List.set_cons_zero, List.set_cons_succ]))
        first
        | (refine wpAnyH_take (i := 7) (v := ?_) held_at7 (by kernel_rfl) (by kernel_rfl) (by kernel_rfl) (fun _ _ _ h => h) (Or.inl ⟨by rfl, ?_⟩) (by assumption) ?_
           rotate_left
           · (intro w_ hSw; (try dsimp only at hSw); go_simp; (try with_reducible rfl))
           (try simp only [Act.put, List.setIfInBounds_toArray, List.set_cons_zero, List.set_cons_succ]))
        | (refine wpAnyH_take (i := 7) (v := undef) held_at7 (by kernel_rfl) (by kernel_rfl) (by kernel_rfl) (fun _ _ _ h => h) (Or.inr ⟨by rfl, rfl⟩) (by assumption) ?_
           (try simp only [Act.put, List.setIfInBounds_toArray, List.set_cons_zero, List.set_cons_succ]))
        first
        | (refine wpAnyH_take (i := 8) (v := ?_) held_at8 (by kernel_rfl) (by kernel_rfl) (by kernel_rfl) (fun _ _ _ h => h) (Or.inl ⟨by rfl, ?_⟩) (by assumption) ?_
           rotate_left
           · (intro w_ hSw; (try dsimp only at hSw); go_simp; (try with_reducible rfl))
           (try simp only [Act.put, List.setIfInBounds_toArray, List.set_cons_zero, List.set_cons_succ]))
        | (refine wpAnyH_take (i := 8) (v := undef) held_at8 (by kernel_rfl) (by kernel_rfl) (by kernel_rfl) (fun _ _ _ h => h) (Or.inr ⟨by rfl, rfl⟩) (by assumption) ?_
           (try simp only [Act.put, List.setIfInBounds_toArray, List.set_cons_zero, List.set_cons_succ]))
        first
        | (refine wpAnyH_take (i := 9) (v := ?_) held_at9 (by kernel_rfl) (by kernel_rfl) (by kernel_rfl) (fun _ _ _ h => h) (Or.inl ⟨by rfl, ?_⟩) (by assumption) ?_
           rotate_left
           · (intro w_ hSw; (try dsimp only at hSw); go_simp; (try with_reducible rfl))
           (try simp only [Act.put, List.setIfInBounds_toArray, List.set_cons_zero, List.set_cons_succ]))
        | (refine wpAnyH_take (i := 9) (v := undef) held_at9 (by kernel_rfl) (by kernel_rfl) (by kernel_rfl) (fun _ _ _ h => h) (Or.inr ⟨by rfl, rfl⟩) (by assumption) ?_
           (try simp only [Act.put, List.setIfInBounds_toArray, List.set_cons_zero, List.set_cons_succ]))
        first
        | (refine wpAnyH_take (i := 10) (v := ?_) held_at10 (by kernel_rfl) (by kernel_rfl) (by kernel_rfl) (fun _ _ _ h => h) (Or.inl ⟨by rfl, ?_⟩) (by assumption) ?_
           rotate_left
           · (intro w_ hSw; (try dsimp only at hSw); go_simp; (try with_reducible rfl))
           (try simp only [Act.put, List.setIfInBounds_toArray, List.set_cons_zero, List.set_cons_succ]))
        | (refine wpAnyH_take (i := 10) (v := undef) held_at10 (by kernel_rfl) (by kernel_rfl) (by kernel_rfl) (fun _ _ _ h => h) (Or.inr ⟨by rfl, rfl⟩) (by assumption) ?_
           (try simp only [Act.put, List.setIfInBounds_toArray, List.set_cons_zero, List.set_cons_succ]))
        first
        | (refine wpAnyH_take (i := 11) (v := ?_) held_at11 (by kernel_rfl) (by kernel_rfl) (by kernel_rfl) (fun _ _ _ h => h) (Or.inl ⟨by rfl, ?_⟩) (by assumption) ?_
           rotate_left
           · (intro w_ hSw; (try dsimp only at hSw); go_simp; (try with_reducible rfl))
           (try simp only [Act.put, List.setIfInBounds_toArray, List.set_cons_zero, List.set_cons_succ]))
        | (refine wpAnyH_take (i := 11) (v := undef) held_at11 (by kernel_rfl) (by kernel_rfl) (by kernel_rfl) (fun _ _ _ h => h) (Or.inr ⟨by rfl, rfl⟩) (by assumption) ?_
           (try simp only [Act.put, List.setIfInBounds_toArray, List.set_cons_zero, List.set_cons_succ]))
        first
        | (refine wpAnyH_take (i := 12) (v := ?_) held_at12 (by kernel_rfl) (by kernel_rfl) (by kernel_rfl) (fun _ _ _ h => h) (Or.inl ⟨by rfl, ?_⟩) (by assumption) ?_
           rotate_left
           · (intro w_ hSw; (try dsimp only at hSw); go_simp; (try with_reducible rfl))
           (try simp only [Act.put, List.setIfInBounds_toArray, List.set_cons_zero, List.set_cons_succ]))
        | (refine wpAnyH_take (i := 12) (v := undef) held_at12 (by kernel_rfl) (by kernel_rfl) (by kernel_rfl) (fun _ _ _ h => h) (Or.inr ⟨by rfl, rfl⟩) (by assumption) ?_
           (try simp only [Act.put, List.setIfInBounds_toArray, List.set_cons_zero, List.set_cons_succ]))
        refine wpAnyH_ready (rs := [13]) (by kernel_rfl) (by simp) ?_
        refine AllReadyH.cons held_at13 (fun K hK => ?_) AllReadyH.nil
        (try simp only [List.setIfInBounds_toArray, List.set_cons_zero, List.set_cons_succ])
        go_simp
        go_at_call 11
        refine (HSM.out _ (by first | exact Y7.out.b | exact below_drewN Y7.out.b _)).mono ?_
        rintro e wn ⟨rfl, hb⟩
        (first | replace Y7 := Lib.hid (Y7.out.move hb) | replace Y7 := Lib.hid (Y7.out.move ((below_drewN (Below.refl _ _) _).trans hb))); clear hb x0 x1 x2 x3 m0 m1; have x0 := (Y7.out.b.cell (p := ⟨b2, o2 + i * 4, none⟩) hbl2).trans GE0.out; have x1 := (Y7.out.b.cell (p := ⟨b2, o2 + i * 4 + 1, none⟩) hbl2).trans GE1.out; have x2 := (Y7.out.b.cell (p := ⟨b2, o2 + i * 4 + 2, none⟩) hbl2).trans GE2.out; have x3 := (Y7.out.b.cell (p := ⟨b2, o2 + i * 4 + 3, none⟩) hbl2).trans GE3.out; have m0 := Y7.out.m.cell 0; have m1 := Y7.out.m.cell 1; simp only [List.getElem?_cons_zero, List.getElem?_cons_succ] at m0 m1
        refine hK.out _ _ (⟨x0, x1, x2, x3, m0, m1⟩) (fun hHeld => ?_)
        clear hK K
        (try simp only [Act.put, List.setIfInBounds_toArray, List.set_cons_zero, List.set_cons_succ])
        first
        | (refine wpAnyH_take (i := 14) (v := ?_) held_at14 (by kernel_rfl) (by kernel_rfl) (by kernel_rfl) (fun _ _ _ h => h) (Or.inl ⟨by rfl, ?_⟩) (by assumption) ?_
           rotate_left
           · (intro w_ hSw; (try dsimp only at hSw); go_simp; (try with_reducible rfl))
           (try simp only [Act.put, List.setIfInBounds_toArray, List.set_cons_zero, List.set_cons_succ]))
        | (refine wpAnyH_take (i := 14) (v := undef) held_at14 (by kernel_rfl) (by kernel_rfl) (by kernel_rfl) (fun _ _ _ h => h) (Or.inr ⟨by rfl, rfl⟩) (by assumption) ?_
           (try simp only [Act.put, List.setIfInBounds_toArray, List.set_cons_zero, List.set_cons_succ]))
        first
        | (refine wpAnyH_take (i := 15) (v := ?_) held_at15 (by kernel_rfl) (by kernel_rfl) (by kernel_rfl) (fun _ _ _ h => h) (Or.inl ⟨by rfl, ?_⟩) (by assumption) ?_
           rotate_left
           · (intro w_ hSw; (try dsimp only at hSw); go_simp; (try with_reducible rfl))
           (try simp only [Act.put, List.setIfInBounds_toArray, List.set_cons_zero, List.set_cons_succ]))
        | (refine wpAnyH_take (i := 15) (v := undef) held_at15 (by kernel_rfl) (by kernel_rfl) (by kernel_rfl) (fun _ _ _ h => h) (Or.inr ⟨by rfl, rfl⟩) (by assumption) ?_
           (try simp only [Act.put, List.setIfInBounds_toArray, List.set_cons_zero, List.set_cons_succ]))
        first
        | (refine wpAnyH_take (i := 16) (v := ?_) held_at16 (by kernel_rfl) (by kernel_rfl) (by kernel_rfl) (fun _ _ _ h => h) (Or.inl ⟨by rfl, ?_⟩) (by assumption) ?_
           rotate_left
           · (intro w_ hSw; (try dsimp only at hSw); go_simp; (try with_reducible rfl))
           (try simp only [Act.put, List.setIfInBounds_toArray, List.set_cons_zero, List.set_cons_succ]))
        | (refine wpAnyH_take (i := 16) (v := undef) held_at16 (by kernel_rfl) (by kernel_rfl) (by kernel_rfl) (fun _ _ _ h => h) (Or.inr ⟨by rfl, rfl⟩) (by assumption) ?_
           (try simp only [Act.put, List.setIfInBounds_toArray, List.set_cons_zero, List.set_cons_succ]))
        first
        | (refine wpAnyH_take (i := 17) (v := ?_) held_at17 (by kernel_rfl) (by kernel_rfl) (by kernel_rfl) (fun _ _ _ h => h) (Or.inl ⟨by rfl, ?_⟩) (by assumption) ?_
           rotate_left
           · (intro w_ hSw; (try dsimp only at hSw); go_simp; (try with_reducible rfl))
           (try simp only [Act.put, List.setIfInBounds_toArray, List.set_cons_zero, List.set_cons_succ]))
        | (refine wpAnyH_take (i := 17) (v := undef) held_at17 (by kernel_rfl) (by kernel_rfl) (by kernel_rfl) (fun _ _ _ h => h) (Or.inr ⟨by rfl, rfl⟩) (by assumption) ?_
           (try simp only [Act.put, List.setIfInBounds_toArray, List.set_cons_zero, List.set_cons_succ]))
        first
        | (refine wpAnyH_take (i := 18) (v := ?_) held_at18 (by kernel_rfl) (by kernel_rfl) (by kernel_rfl) (fun _ _ _ h => h) (Or.inl ⟨by rfl, ?_⟩) (by assumption) ?_
           rotate_left
           · (intro w_ hSw; (try dsimp only at hSw); go_simp; (try with_reducible rfl))
           (try simp only [Act.put, List.setIfInBounds_toArray, List.set_cons_zero, List.set_cons_succ]))
        | (refine wpAnyH_take (i := 18) (v := undef) held_at18 (by kernel_rfl) (by kernel_rfl) (by kernel_rfl) (fun _ _ _ h => h) (Or.inr ⟨by rfl, rfl⟩) (by assumption) ?_
           (try simp only [Act.put, List.setIfInBounds_toArray, List.set_cons_zero, List.set_cons_succ]))
        refine wpAnyH_ready (rs := [19]) (by kernel_rfl) (by simp) ?_
        refine AllReadyH.cons held_at19 (fun K hK => ?_) AllReadyH.nil
        (try simp only [List.setIfInBounds_toArray, List.set_cons_zero, List.set_cons_succ])
        go_simp
        go_at_call 12
        refine (HCF.out _ (by first | exact Y7.out | exact Y7.out.move (below_drewN (Below.refl _ _) _))).mono ?_
        rintro e wn ⟨rfl, hb⟩
        (first | replace Y7 := Lib.hid (Y7.out.move hb) | replace Y7 := Lib.hid (Y7.out.move ((below_drewN (Below.refl _ _) _).trans hb))); clear hb x0 x1 x2 x3 m0 m1; have x0 := (Y7.out.b.cell (p := ⟨b2, o2 + i * 4, none⟩) hbl2).trans GE0.out; have x1 := (Y7.out.b.cell (p := ⟨b2, o2 + i * 4 + 1, none⟩) hbl2).trans GE1.out; have x2 := (Y7.out.b.cell (p := ⟨b2, o2 + i * 4 + 2, none⟩) hbl2).trans GE2.out; have x3 := (Y7.out.b.cell (p := ⟨b2, o2 + i * 4 + 3, none⟩) hbl2).trans GE3.out; have m0 := Y7.out.m.cell 0; have m1 := Y7.out.m.cell 1; simp only [List.getElem?_cons_zero, List.getElem?_cons_succ] at m0 m1
        refine hK.out _ _ (⟨x0, x1, x2, x3, m0, m1⟩) (fun hHeld => ?_)
        clear hK K
        (try simp only [Act.put, List.setIfInBounds_toArray, List.set_cons_zero, List.set_cons_succ])
        first
        | (refine wpAnyH_take (i := 20) (v := ?_) held_at20 (by kernel_rfl) (by kernel_rfl) (by kernel_rfl) (fun _ _ _ h => h) (Or.inl ⟨by rfl, ?_⟩) (by assumption) ?_
           rotate_left
           · (intro w_ hSw; (try dsimp only at hSw); go_simp; (try with_reducible rfl))
           (try simp only [Act.put, List.setIfInBounds_toArray, List.set_cons_zero, List.set_cons_succ]))
        | (refine wpAnyH_take (i := 20) (v := undef) held_at20 (by kernel_rfl) (by kernel_rfl) (by kernel_rfl) (fun _ _ _ h => h) (Or.inr ⟨by rfl, rfl⟩) (by assumption) ?_
           (try simp only [Act.put, List.setIfInBounds_toArray, List.set_cons_zero, List.set_cons_succ]))
        first
        | (refine wpAnyH_take (i := 21) (v := ?_) held_at21 (by kernel_rfl) (by kernel_rfl) (by kernel_rfl) (fun _ _ _ h => h) (Or.inl ⟨by rfl, ?_⟩) (by assumption) ?_
           rotate_left
           · (intro w_ hSw; (try dsimp only at hSw); go_simp; (try with_reducible rfl))
           (try simp only [Act.put, List.setIfInBounds_toArray, List.set_cons_zero, List.set_cons_succ]))
        | (refine wpAnyH_take (i := 21) (v := undef) held_at21 (by kernel_rfl) (by kernel_rfl) (by kernel_rfl) (fun _ _ _ h => h) (Or.inr ⟨by rfl, rfl⟩) (by assumption) ?_
           (try simp only [Act.put, List.setIfInBounds_toArray, List.set_cons_zero, List.set_cons_succ]))
        refine wpAnyH_done (by kernel_rfl) ?_ _
        skip
        go_wp2
        go_roundg (gk - 1)
        case measure => have := Hi.out; omega
        case rel => exact ⟨i + 1, Lib.hid (by have := Hi.out; omega), by go_num, Lib.hid Y7.out.b⟩
      · obtain rfl : q = i := by have := Hi.out; omega
        have XF := Lib.hid (X6.out.below.trans (XR.out.mono X6.out.below.size))
        go_wp2
        go_ret
        exact ⟨rfl, XF.out⟩
  · have hzb : (z == 0) = false := by simpa using hz0
    go_upto_region 3 with (first | (go_at_call 9; refine HO2.out.mono ?_; rintro e w3 ⟨rfl, hb3⟩; refine Hid.out ?_))
    refine Lib.hid ?_
    have X3 := Lib.hid (X2.out.move hb3)
    have HO3 := Lib.hid (Hor.out _ X3.out.below)
    clear hb3 HO2
    go_wp2_with (first | (go_at_call 9; refine HO3.out.mono ?_; rintro e w4 ⟨rfl, hb4⟩; refine Hid.out ?_))
    refine Lib.hid ?_
    have X4 := Lib.hid (X3.out.move hb4)
    clear hb4
    go_wp2
    go_ret
    exact ⟨rfl, X4.out.below⟩
end Go.Proofs.YtpipgffbhpnmkaaGreatDoor

/- Arguments that can be read as data, opened: atoms, strings; what the listed variables hold. -/
namespace Go.Proofs.YtpipgffbhpnmkaaGreatDoor
open Go.ChangeShapes Go.WideShapes Go.ChangeAt Go.RowKit Qm

section
variable {H : Type} {enc : TypeId × Value → H} {w : World} {base : Nat} {sp : Nat → Bool} {held : Bool}
/-- One cell's field of a struct. -/
theorem field_cell {P : Program} {t : TypeId} {fs : Array Field} {fuel : Nat} {cs : List Value} {x : DataW H × List MemPlace} (ht : P.underlying t = some (.struct fs)) (h : DataW.trod enc P w base sp held fuel t cs = some x)
    (i : Nat) {f : Field} (hf : fs[i]? = some f) (hc : P.cellsOf f.type = 1) (hlt : f.offset < P.cellsOf t) : ∃ c n y, cs[f.offset]? = some c ∧ DataW.trod enc P w base sp held n f.type [c] = some y := by
  obtain ⟨xs, n, _, _, hl, hxl, hx⟩ := DataW.trod_struct ht h
  have h1 := hx i f hf
  have hlt' : f.offset < cs.length := by omega
  have hi : i < fs.size := (Array.getElem?_eq_some_iff.1 hf).1
  rw [hc, List.drop_eq_getElem_cons hlt'] at h1
  refine ⟨cs[f.offset], n, xs[i]'(by omega), List.getElem?_eq_getElem hlt', ?_⟩
  rw [List.getElem?_eq_getElem (by omega)] at h1
  have e : (cs[f.offset] :: List.drop (f.offset + 1) cs).take 1 = [cs[f.offset]] := rfl
  rw [e] at h1
  exact h1
def In64 (x : Int) : Prop := -9223372036854775808 ≤ x ∧ x ≤ 9223372036854775807
theorem i64_le {x : Int} (h : (Lit.int .i64 x).wf = true) : In64 x := by
  unfold In64
  simp [Lit.wf, IntKind.min, IntKind.max, IntKind.bits, IntKind.signed] at h; omega
theorem six_of {α : Type} {cs : List α} {a b c d e f : α} (hl : cs.length = 6) (h0 : cs[0]? = some a) (h1 : cs[1]? = some b) (h2 : cs[2]? = some c) (h3 : cs[3]? = some d) (h4 : cs[4]? = some e) (h5 : cs[5]? = some f) : cs = [a, b, c, d, e, f] := by
  match cs, hl with
  | [_, _, _, _, _, _], _ => simp at h0 h1 h2 h3 h4 h5; simp [h0, h1, h2, h3, h4, h5]
theorem str_one {P : Program} {t : TypeId} {n : Nat} {c : Value} {y : DataW H × List MemPlace} (ht : P.underlying t = some .string) (h : DataW.trod enc P w base sp held n t [c] = some y) : ∃ s : ByteArray, c = .string s ∧ s.size ≤ maxLen := by
  obtain ⟨s, e, _, hs⟩ := DataW.trod_string ht h
  simp at e
  exact ⟨s, e, hs⟩
theorem int_one {P : Program} {t : TypeId} {n : Nat} {c : Value} {y : DataW H × List MemPlace} (ht : P.underlying t = some (.int .i64)) (h : DataW.trod enc P w base sp held n t [c] = some y) : ∃ x : Int, c = .int .i64 x ∧ In64 x := by
  obtain ⟨x, e, _, hs⟩ := DataW.trod_int ht h
  simp at e
  exact ⟨x, e, i64_le hs⟩
theorem bool_one_ {P : Program} {t : TypeId} {n : Nat} {c : Value} {y : DataW H × List MemPlace} (ht : P.underlying t = some .bool) (h : DataW.trod enc P w base sp held n t [c] = some y) : ∃ x : Bool, c = .bool x := by
  obtain ⟨x, e, _⟩ := DataW.trod_bool ht h
  simp at e
  exact ⟨x, e⟩
/-- An atom's six cells. -/
theorem atom_cells {fuel : Nat} {cs : List Value} {x : DataW H × List MemPlace} (h : DataW.trod enc Tryz.prog w base sp held fuel 37 cs = some x) :
    ∃ (s f : ByteArray) (op ver slot : Int) (on : Bool), cs = [.string s, .int .i64 op, .int .i64 ver, .int .i64 slot, .string f, .bool on] ∧ s.size ≤ maxLen ∧ f.size ≤ maxLen ∧ In64 op ∧
      In64 ver ∧ In64 slot := by
  have hT := Tryz.underlying37
  have hl : cs.length = 6 := by
    obtain ⟨_, _, _, _, hl, _⟩ := DataW.trod_struct hT h
    rw [hl]; kernel_rfl
  obtain ⟨c0, n0, y0, e0, k0⟩ := field_cell hT h 0 rfl (by kernel_rfl) (of_decide_eq_true (by kernel_rfl))
  obtain ⟨c1, n1, y1, e1, k1⟩ := field_cell hT h 1 rfl (by kernel_rfl) (of_decide_eq_true (by kernel_rfl))
  obtain ⟨c2, n2, y2, e2, k2⟩ := field_cell hT h 2 rfl (by kernel_rfl) (of_decide_eq_true (by kernel_rfl))
  obtain ⟨c3, n3, y3, e3, k3⟩ := field_cell hT h 3 rfl (by kernel_rfl) (of_decide_eq_true (by kernel_rfl))
  obtain ⟨c4, n4, y4, e4, k4⟩ := field_cell hT h 4 rfl (by kernel_rfl) (of_decide_eq_true (by kernel_rfl))
  obtain ⟨c5, n5, y5, e5, k5⟩ := field_cell hT h 5 rfl (by kernel_rfl) (of_decide_eq_true (by kernel_rfl))
  obtain ⟨s, rfl, hs⟩ := str_one Tryz.underlying9 k0
  obtain ⟨op, rfl, ho⟩ := int_one Tryz.underlying3 k1
  obtain ⟨ver, rfl, hv⟩ := int_one Tryz.underlying3 k2
  obtain ⟨slot, rfl, hsl⟩ := int_one Tryz.underlying3 k3
  obtain ⟨f, rfl, hf⟩ := str_one Tryz.underlying9 k4
  obtain ⟨on, rfl⟩ := bool_one_ Tryz.underlying4 k5
  exact ⟨s, f, op, ver, slot, on, six_of hl e0 e1 e2 e3 e4 e5, hs, hf, ho, hv, hsl⟩
end

/-! what the listed variables hold -/
theorem laid_at {P : Program} {w : World} : ∀ {l : List (String × DataW Unit)} {k : Nat} {x : String × DataW Unit}, laidMet P l w → l[k]? = some x → ∃ r, laidMet P (x :: r) w
  | [], _, _, _, h => by simp at h
  | y :: r, 0, x, h, hk => by
    simp only [List.getElem?_cons_zero, Option.some.injEq] at hk
    subst hk
    exact ⟨r, h⟩
  | y :: r, k + 1, x, h, hk => laid_at h.tail (by simpa using hk)
theorem gPow : Tryz.prog.globalNamed "internal/strconv.uint64pow10" = some 5 := by kernel_rfl
theorem gRng : Tryz.prog.globalNamed "strconv.ErrRange" = some 4 := by kernel_rfl
theorem gSyn : Tryz.prog.globalNamed "strconv.ErrSyntax" = some 3 := by kernel_rfl
theorem tPow : (Tryz.prog.globals[5]?).map (·.type) = some 230 := by kernel_rfl
theorem tRng : (Tryz.prog.globals[4]?).map (·.type) = some 153 := by kernel_rfl
theorem tSyn : (Tryz.prog.globals[3]?).map (·.type) = some 153 := by kernel_rfl
theorem rowErr : ∀ u, Tryz.prog.typeName? 3 u = some "*errors.errorString" → u = 226 := fun _ h => typeName_ptr_named (nm := "errors.errorString") (by kernel_rfl) (by kernel_rfl) (by decide) _ h
theorem laidV_of {w : World} {l : List (String × DataW Unit)} (h : laidMet Tryz.prog l w) {i j k : Nat} (hi : l[i]? = some ("internal/strconv.uint64pow10", Rows.laid_internal_strconv_uint64pow10)) (hj : l[j]? = some ("strconv.ErrRange", Rows.laid_strconv_ErrRange)) (hk : l[k]? = some ("strconv.ErrSyntax", Rows.laid_strconv_ErrSyntax)) : LaidV w := by
  obtain ⟨_, h1⟩ := laid_at h hi
  obtain ⟨_, h2⟩ := laid_at h hj
  obtain ⟨_, h3⟩ := laid_at h hk
  obtain ⟨a2, s2, e2, _⟩ := laid_sentinel h2 gRng tRng Tryz.underlying153 rowErr Tryz.underlying226 Tryz.underlying228 rfl rfl Tryz.underlying9 (by kernel_rfl) (by kernel_rfl)
  obtain ⟨a3, s3, e3, _⟩ := laid_sentinel h3 gSyn tSyn Tryz.underlying153 rowErr Tryz.underlying226 Tryz.underlying228 rfl rfl Tryz.underlying9 (by kernel_rfl) (by kernel_rfl)
  exact ⟨⟨_, _, e3⟩, ⟨_, _, e2⟩, Lib.tabIs_of_head gPow tPow Tryz.underlying230 Tryz.underlying140 (by kernel_rfl) (by kernel_rfl) h1⟩
end Go.Proofs.YtpipgffbhpnmkaaGreatDoor

/- Arguments that can be read as data, opened into the words of these proofs. -/
namespace Go.Proofs.YtpipgffbhpnmkaaGreatDoor
open Go.ChangeShapes Go.WideShapes Go.ChangeAt Go.RowKit Go.Joins Go.Deep

theorem spot_add {w : World} {a : Addr} {n : Nat} {f : Nat → Value} (hn : 0 < n) (h : ∀ i, i < n → w.cell? (a.add i) = some (f i)) : ∃ b o, a = ⟨b, o, none⟩ ∧ b < w.heap.size ∧ ∀ j, j < n → w.cell? ⟨b, o + j, none⟩ = some (f j) := by
  obtain ⟨b, o, spot⟩ := a
  have h0 := h 0 hn
  have hs : spot = none := by simpa [Addr.add] using World.cell?_spot h0
  subst hs
  have ha : ∀ j, (⟨b, o, none⟩ : Addr).add j = ⟨b, o + j, none⟩ := by
    intro j; unfold Addr.add; by_cases hj : j = 0 <;> simp [hj]
  refine ⟨b, o, rfl, ?_, fun j hj => by rw [← ha]; exact h j hj⟩
  have := World.block_lt_of_cell? w _ h0
  rw [ha] at this; exact this

theorem row_of_cells {w : World} {a : Addr} {n : Nat} {vs : List Value} (hl : vs.length = n) (h : ∀ i (_ : i < n), w.cell? (a.add i) = vs[i]?) : Row w (fun k => k < w.heap.size) (some a) n vs := by
  refine ⟨hl, fun hn => ?_⟩
  obtain ⟨b, o, rfl, hb, hc⟩ := spot_add (f := fun i => (vs[i]?).getD undef) hn (fun i hi => by rw [h i hi, List.getElem?_eq_getElem (by omega)]; rfl)
  exact ⟨b, o, rfl, hb, fun j hj => by rw [hc j hj, List.getElem?_eq_getElem (by omega)]; rfl⟩

section
variable {H : Type} {enc : TypeId × Value → H} {P : Program} {w : World} {base : Nat} {held : Bool}
end
end Go.Proofs.YtpipgffbhpnmkaaGreatDoor
