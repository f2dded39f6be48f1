/- Parts of the proof: walks and plain laws, side by side. -/
import Derived.Test.YthpkffeiehnamaaGreatDoorM14
import Derived.Test.YthpkffeiehnamaaGreatDoorRows
import Derived.Test.YthpkffeiehnamaaGreatDoorM5
import Derived.ProofKit
import Derived.LaidMore
import Derived.OpenShut
import Derived.Stop.Joined
import Derived.Stop.LaidErr
import Derived.Lib.LaidTab
import Derived.Test.YthpkffeiehnamaaGreatDoorM2
import Derived.ChangeOld
import Derived.Lib.SmallJoins
import Derived.Deep.Matrix
import Derived.Deep.Grids
import Derived.HandedShaped
import Derived.Handed
import Derived.Shelf.Vars
import Derived.Test.YthpkffeiehnamaaGreatDoorM1
import Derived.Test.YthpkffeiehnamaaGreatDoorM3
import Derived.Test.YthpkffeiehnamaaGreatDoorM4
import Derived.Test.YthpkffeiehnamaaGreatDoorM6
import Derived.Test.YthpkffeiehnamaaGreatDoorM7
import Derived.Test.YthpkffeiehnamaaGreatDoorM8
import Derived.Test.YthpkffeiehnamaaGreatDoorM9
import Derived.Test.YthpkffeiehnamaaGreatDoorM10
import Derived.Test.YthpkffeiehnamaaGreatDoorM11
import Derived.Test.YthpkffeiehnamaaGreatDoorM12
import Derived.Test.YthpkffeiehnamaaGreatDoorM13
set_option linter.unusedVariables false
set_option linter.unusedSimpArgs false
set_option linter.unusedSectionVars false
/- TreeMeans, walked: it returns true. -/
namespace Go.Proofs.YthpkffeiehnamaaGreatDoor
open Go.RowKit Qm

theorem bare_ok {a : At} (h : ckAtom a = 0) {o v : Int} (ho : o = 0 ∧ v = 0 ∨ (o = 2 ∨ o = 3) ∧ v = 2) : ckAtom (bare a.nm o v) = 0 := by
  have hn : isName a.nm = true := by
    unfold ckAtom at h
    split at h
    · cases h
    · rename_i h1
      rw [not_or] at h1
      simpa using h1.1
  unfold ckAtom bare
  simp only [hn]
  rw [if_neg (by simp), if_neg (by omega), if_neg (by omega), if_neg (by simp)]
theorem means_ok {ps : List Pk} {a : At} (h : meansE ps a = 0) : ckTree ps = 0 ∧ ckAtom a = 0 := by
  unfold meansE at h
  by_cases h0 : ckTree ps = 0
  · rw [if_neg (by simpa using h0)] at h; exact ⟨h0, h⟩
  · rw [if_pos h0] at h; exact absurd h h0
theorem means_bare {ps : List Pk} {a : At} (h : meansE ps a = 0) {o v : Int} (ho : o = 0 ∧ v = 0 ∨ (o = 2 ∨ o = 3) ∧ v = 2) : meansE ps (bare a.nm o v) = 0 := by
  obtain ⟨h1, h2⟩ := means_ok h
  unfold meansE
  rw [if_neg (by simpa using h1)]
  exact bare_ok h2 ho
theorem means_len (ps : List Pk) (a : At) : (meansL ps a).length ≤ ps.length := by
  unfold meansL
  split
  · exact meantTo_len _
  · exact Nat.zero_le _

/-- The boxes of TreeMeans. -/
structure Ym (w : World) (A : Option Addr) (n c : Nat) (av bv : List Value) (lb bb : Nat) (lv : List Value) (wx : World) : Prop where
  x : Mx w A n c av wx
  l : Whole wx lb 27 lv
  b : Whole wx bb 26 bv
  lw : w.heap.size + 1 < lb
  lt : lb < bb
section
variable {w : World} {A : Option Addr} {n c : Nat} {av bv : List Value} {lb bb : Nat} {lv : List Value} {wx wy : World}
theorem Ym.move (h : Ym w A n c av bv lb bb lv wx) (hb : Below wx.heap.size wx wy) : Ym w A n c av bv lb bb lv wy := ⟨h.x.move hb, h.l.below hb h.l.lt, h.b.below hb h.b.lt, h.lw, h.lt⟩
theorem Ym.drewN (h : Ym w A n c av bv lb bb lv wx) (k : Nat) : Ym w A n c av bv lb bb lv (wx.drewN k) := h.move (below_drewN (Below.refl _ _) k)
theorem Ym.set_ (h : Ym w A n c av bv lb bb lv wx) (i : Nat) (u : Value) : Ym w A n c av (bv.set i u) lb bb lv (wx.setCell ⟨bb, i, none⟩ u) := by
  have h1 := h.lw; have h2 := h.lt
  exact ⟨⟨(h.x.below).setCell (p := ⟨bb, i, none⟩) (by show w.heap.size ≤ bb; omega) u, h.x.t.far (p := ⟨bb, i, none⟩) (by show w.heap.size ≠ bb; omega) u, h.x.a.far (p := ⟨bb, i, none⟩) (by show w.heap.size + 1 ≠ bb; omega) u⟩,
    h.l.far (p := ⟨bb, i, none⟩) (by show lb ≠ bb; omega) u, h.b.set_ i u, h1, h2⟩
end
set_option maxRecDepth 100000 in
set_option maxHeartbeats 6400000 in
theorem treeMeans_any (ps : List Pk) (a : At) (S : Nat → Prop) (A : Option Addr) (n c : Nat) (w : World) (hT : RTree w S A n ps) (hnc : n ≤ c) (hc : c ≤ maxLen) (h1 : a.nm.length ≤ maxLen) (h2 : a.fl.length ≤ maxLen) (hS : ∀ k, S k → k < w.heap.size) (hL : LaidV w) (hM : MaxW w) :
    Calls Tryz.prog 3 #[.agg #[.slice A n c], .agg #[.string ⟨a.nm.toArray⟩, .int .i64 a.op, .int .i64 a.ver, .int .i64 a.slot, .string ⟨a.fl.toArray⟩, .bool a.on]] w fun e w' => e = .returned (.bool true) ∧ Below w.heap.size w w' := by
  have HLV := Lib.hid hL; have HMV := Lib.hid hM; clear hL hM
  have X0 := Lib.hid (Mx.new w A n c [.string ⟨a.nm.toArray⟩, .int .i64 a.op, .int .i64 a.ver, .int .i64 a.slot, .string ⟨a.fl.toArray⟩, .bool a.on])
  have HT := Lib.hid hT; have HS := Lib.hid hS; clear hT hS
  have Hme := Lib.hid (fun (b : At) wx (h1 : b.nm.length ≤ maxLen) (h2 : b.fl.length ≤ maxLen) hb => means_any ps b S A n c wx (HT.out.under (B := w.heap.size) hb HS.out) hnc hc h1 h2 (fun k hk => Nat.lt_of_lt_of_le (HS.out k hk) hb.size))
  have Hfo := Lib.hid (fun wx h1 h2 => forest_any wx h1 h2)
  have hpl := HT.out.len
  have hma := Hme.out a _ h1 h2 X0.out.below
  unfold MeansPost at hma
  have hN1 := means_len ps a
  by_cases he : meansE ps a = 0
  · have hn8 : n ≤ 8 := by rw [← hpl]; exact ckTree_len (means_ok he).1
    have hB0 := means_bare he (o := 0) (v := 0) (.inl ⟨rfl, rfl⟩)
    have hB2 := means_bare he (o := 2) (v := 2) (.inr ⟨.inl rfl, rfl⟩)
    have hB3 := means_bare he (o := 3) (v := 2) (.inr ⟨.inr rfl, rfl⟩)
    have HSB : Hid (∀ k ∈ meansL ps a, k ∈ meansL ps (bare a.nm 0 0)) := Lib.hid (by
      unfold meansL; rw [if_pos he, if_pos hB0]; exact meantTo_sub)
    have HRI : Hid ((meansL ps a).Pairwise (· ≤ ·)) := Lib.hid (by unfold meansL; rw [if_pos he]; exact meantTo_rises _ _ _)
    have HSO : Hid (sortI (meansL ps (bare a.nm 2 2) ++ meansL ps (bare a.nm 3 2)) = meansL ps (bare a.nm 0 0)) := Lib.hid (by
      unfold meansL sortI; rw [if_pos hB0, if_pos hB2, if_pos hB3]; exact meantTo_sorts ps a.nm 2 ps.length)
    have Hin := Lib.hid (fun T Al nl cl tb lb wx (hb : Below w.heap.size w wx) ht hl hls hT2 hnl => in_any ps (bare a.nm 0 0) S T A Al n c nl cl tb lb (meansL ps a) wx (HT.out.under (B := w.heap.size) hb HS.out) hnc hc h1 (Nat.zero_le _) (fun k hk => Nat.lt_of_lt_of_le (HS.out k hk) hb.size) ht hl hls hT2 hnl HSB.out hB0)
    have hm2 := fun wx hb => Hme.out (bare a.nm 2 2) wx h1 (Nat.zero_le _) hb
    have hm3 := fun wx hb => Hme.out (bare a.nm 3 2) wx h1 (Nat.zero_le _) hb
    unfold MeansPost at hm2 hm3
    have hl2 := means_len ps (bare a.nm 2 2)
    have hl3 := means_len ps (bare a.nm 3 2)
    have hl0 := means_len ps (bare a.nm 0 0)
    rw [hB2] at hm2; rw [hB3] at hm3; rw [he] at hma
    generalize meansL ps a = L at hma HSB HRI Hin hN1
    unfold InPost at Hin
    generalize meansL ps (bare a.nm 0 0) = L0 at HSB HSO Hin hl0
    generalize meansL ps (bare a.nm 2 2) = L2 at hm2 HSO hl2
    generalize meansL ps (bare a.nm 3 2) = L3 at hm3 HSO hl3
    unfold bare at hm2 hm3 Hin
    dsimp only at hm2 hm3 Hin
    have Hm2 := Lib.hid hm2; have Hm3 := Lib.hid hm3; have Hma := Lib.hid hma
    clear hm2 hm3 hma hB0 hB2 hB3 he Hme HSB hpl
    rw [HT.out.len] at hN1 hl2 hl3 hl0
    have henter : ∀ (args : Array Value) (W : World), (callFunc 8 args).run Tryz.prog W = .ok (.enter 8 args) W := fun args W => by kernel_rfl
    go_enter Tryz.func3, Tryz.ntmps3
    go_wp2_with (first | (go_at_call 6; refine Hma.out.mono ?_; rintro e w1 ⟨Al, cl, rfl, hl, hc1, hc2, hb1⟩; refine Hid.out ?_))
    refine Lib.hid ?_
    have hb1' : Below w1.heap.size w1 (w1.alloc (.cells #[.slice Al L.length cl] 27)) := (Below.refl _ _).alloc (Nat.le_refl _) _
    have X2 := Lib.hid ((X0.out.move hb1).move hb1')
    have LB2 := Lib.hid (Whole.new w1 w1.heap.size 27 [.slice Al L.length cl] rfl)
    have HL2 := Lib.hid ((hl.below hb1' fun k hk => hk.2).more (S' := fun k => k < w1.heap.size) fun k hk => hk.2)
    have hw1 : w.heap.size + 1 < w1.heap.size := Nat.lt_of_lt_of_le X0.out.a.lt hb1.size
    have hcl : L.length ≤ maxLen := Nat.le_trans hc1 hc2
    clear hl hc1 hc2 hb1 hb1' X0 Hma
    have g0 := X2.out.a.cell 0
    simp only [List.getElem?_cons_zero] at g0
    go_wp2_with (first | (go_at_call 7; refine (Hfo.out _ (HLV.out.below X2.out.below) (HMV.out.below X2.out.below)).mono ?_; rintro e w3 ⟨rfl, hb3⟩; refine Hid.out ?_))
    refine Lib.hid ?_
    have X3 := Lib.hid (X2.out.move hb3)
    have LB3 := Lib.hid (LB2.out.below hb3 LB2.out.lt)
    have HL3 := Lib.hid (HL2.out.below hb3 fun k hk => Nat.lt_trans hk LB2.out.lt)
    clear hb3 X2 LB2 HL2 g0 Hfo
    have g0 := X3.out.a.cell 0
    simp only [List.getElem?_cons_zero] at g0
    have hb4 : Below w3.heap.size w3 (w3.alloc (.cells #[.string ⟨a.nm.toArray⟩, .int .i64 0, .int .i64 0, .int .i64 0, .string ⟨#[]⟩, .bool false] 26)) := (Below.refl _ _).alloc (Nat.le_refl _) _
    have Y4 : Hid (Ym w A n c _ _ w1.heap.size w3.heap.size _ _) := Lib.hid ⟨X3.out.move hb4, LB3.out.below hb4 LB3.out.lt, Whole.new w3 w3.heap.size 26 [.string ⟨a.nm.toArray⟩, .int .i64 0, .int .i64 0, .int .i64 0, .string ⟨#[]⟩, .bool false] rfl, hw1, LB3.out.lt⟩
    have HL4 := Lib.hid (HL3.out.below hb4 fun k hk => Nat.lt_trans hk LB3.out.lt)
    have HIN4 := Lib.hid (Hin.out _ Al L.length cl w.heap.size w1.heap.size _ Y4.out.x.below (Y4.out.x.t.cell 0) (Y4.out.l.cell 0) HL4.out (fun k hk => Nat.lt_trans hk (Nat.lt_of_lt_of_le LB3.out.lt hb4.size)) hcl)
    clear hb4 X3 LB3 HL3 Hin
    go_wp2_with (first | (go_at_call 8; refine HIN4.out.mono ?_; rintro e w5 ⟨Am, cm, rfl, hm, hm1, hm2, hb5⟩; refine Hid.out ?_))
    refine Lib.hid ?_
    have Y5 := Lib.hid (Y4.out.move hb5)
    have HL5 := Lib.hid ((HL4.out.below hb5 fun k hk => by have := Y4.out.lt; have := Y4.out.b.lt; omega).more (S' := fun k => k < w5.heap.size) fun k hk => by have := Y5.out.lt; have := Y5.out.b.lt; omega)
    have HM5 := Lib.hid (hm.more (S' := fun k => w3.heap.size < k ∧ k < w5.heap.size) fun k hk => ⟨Nat.lt_of_lt_of_le Y4.out.b.lt hk.1, hk.2⟩)
    have Hcm : Hid (L0.length ≤ maxLen) := Lib.hid (Nat.le_trans hm1 hm2)
    have Hso := Lib.hid (fun wx h => sortedI_any Al L.length cl L wx (fun k => k < w5.heap.size) h (by omega) HRI.out)
    clear hb5 hm hm1 hm2 Y4 HL4 HIN4 g0
    have t0 := Y5.out.x.t.cell 0
    have b0 := Y5.out.b.cell 0; have b1 := Y5.out.b.cell 1; have b2 := Y5.out.b.cell 2; have b3 := Y5.out.b.cell 3; have b4 := Y5.out.b.cell 4; have b5 := Y5.out.b.cell 5
    have f1 := Y5.out.b.free 1; have f2 := Y5.out.b.free 2
    have l0 := Y5.out.l.cell 0
    simp only [List.getElem?_cons_zero, List.getElem?_cons_succ] at t0 b0 b1 b2 b3 b4 b5 l0
    have hlt := Y5.out.b.lt
    go_wp2_with (first | (go_at_call 12; refine (Hso.out _ HL5.out).mono ?_; rintro e w6 ⟨rfl, q6, rfl⟩; refine Hid.out ?_))
    refine Lib.hid ?_
    have Y6 := Lib.hid (Y5.out.drewN q6)
    have HM6 : Hid (RInts (w5.drewN q6) _ _ _ _) := Lib.hid (RInts.keep HM5.out fun _ _ => rfl)
    have hs6 : (w5.drewN q6).heap.size = w5.heap.size := rfl
    clear t0 b0 b1 b2 b3 b4 b5 l0 f1 f2 hlt
    generalize w5.drewN q6 = w6 at Y6 HM6 hs6 ⊢
    rw [← hs6] at HM6
    clear Y5 HL5 HM5 hs6 Hso
    have t0 := Y6.out.x.t.cell 0
    have b0 := Y6.out.b.cell 0; have b1 := Y6.out.b.cell 1; have b2 := Y6.out.b.cell 2; have b3 := Y6.out.b.cell 3; have b4 := Y6.out.b.cell 4; have b5 := Y6.out.b.cell 5
    have f1 := Y6.out.b.free 1; have f2 := Y6.out.b.free 2
    have l0 := Y6.out.l.cell 0
    simp only [List.getElem?_cons_zero, List.getElem?_cons_succ] at t0 b0 b1 b2 b3 b4 b5 l0
    have hlt := Y6.out.b.lt
    have Y7 := Lib.hid ((Y6.out.set_ 1 (.int .i64 2)).set_ 2 (.int .i64 2))
    simp only [List.set_cons_zero, List.set_cons_succ] at Y7
    have Hm7 := Lib.hid (Hm2.out _ Y7.out.x.below)
    have HM7 := Lib.hid (RInts.more (S' := fun k => w3.heap.size < k ∧ k < w6.heap.size) (HM6.out.keep (w' := (w6.setCell ⟨w3.heap.size, 1, none⟩ (.int .i64 2)).setCell ⟨w3.heap.size, 2, none⟩ (.int .i64 2)) fun p hp => ((Far.set_ (D := fun i => i = w3.heap.size) rfl 1 (.int .i64 2)).trans (Far.set_ (D := fun i => i = w3.heap.size) rfl 2 (.int .i64 2)) fun _ _ h => h).cell hp.2 (by have := hp.1; omega)) fun k hk => hk)
    go_wp2_with (first | (go_at_call 6; refine Hm7.out.mono ?_; rintro e w8 ⟨Ax, cx, rfl, hx, hx1, hx2, hb8⟩; refine Hid.out ?_))
    refine Lib.hid ?_
    have Y8 := Lib.hid (Y7.out.move hb8)
    have hs7 : ((w6.setCell ⟨w3.heap.size, 1, none⟩ (.int .i64 2)).setCell ⟨w3.heap.size, 2, none⟩ (.int .i64 2)).heap.size = w6.heap.size := by rw [set_len, set_len]
    have hsz8 := hb8.size
    rw [hs7] at hx hsz8
    have HM8 := Lib.hid (HM7.out.below hb8 fun k hk => by rw [hs7]; exact hk.2)
    have HX8 := Lib.hid (hx.more (S' := fun k => w6.heap.size ≤ k ∧ k < w8.heap.size) fun k hk => hk)
    clear hx hb8 hs7 Y7 Hm7 HM7
    clear t0 b0 b1 b2 b3 b4 b5 l0 f1 f2 hlt
    have hb6 := Y6.out.b.lt
    clear Y6 HM6
    have t0 := Y8.out.x.t.cell 0
    have b0 := Y8.out.b.cell 0; have b1 := Y8.out.b.cell 1; have b2 := Y8.out.b.cell 2; have b3 := Y8.out.b.cell 3; have b4 := Y8.out.b.cell 4; have b5 := Y8.out.b.cell 5
    have f1 := Y8.out.b.free 1; have f2 := Y8.out.b.free 2
    have l0 := Y8.out.l.cell 0
    simp only [List.getElem?_cons_zero, List.getElem?_cons_succ] at t0 b0 b1 b2 b3 b4 b5 l0
    have hlt := Y8.out.b.lt
    have Y9 := Lib.hid (Y8.out.set_ 1 (.int .i64 3))
    simp only [List.set_cons_zero, List.set_cons_succ] at Y9
    have Hm9 := Lib.hid (Hm3.out _ Y9.out.x.below)
    have HM9 := Lib.hid (HM8.out.keep (w' := w8.setCell ⟨w3.heap.size, 1, none⟩ (.int .i64 3)) fun p hp => (Far.set_ (D := fun i => i = w3.heap.size) rfl 1 (.int .i64 3)).cell (by have := hp.2; omega) (by have := hp.1; omega))
    have HX9 := Lib.hid (HX8.out.keep (w' := w8.setCell ⟨w3.heap.size, 1, none⟩ (.int .i64 3)) fun p hp => (Far.set_ (D := fun i => i = w3.heap.size) rfl 1 (.int .i64 3)).cell hp.2 (by have := hp.1; omega))
    go_wp2_with (first | (go_at_call 6; refine Hm9.out.mono ?_; rintro e w10 ⟨Ay, cy, rfl, hy, hy1, hy2, hb10⟩; refine Hid.out ?_))
    refine Lib.hid ?_
    have hs9 : (w8.setCell ⟨w3.heap.size, 1, none⟩ (.int .i64 3)).heap.size = w8.heap.size := by rw [set_len]
    have hsz10 := hb10.size
    rw [hs9] at hy hsz10
    have Y10 := Lib.hid (Y9.out.move hb10)
    have HM10 := Lib.hid ((HM9.out.below hb10 fun k hk => by have := hk.2; rw [hs9]; omega).more (S' := fun k => k < w10.heap.size) fun k hk => by have := hk.2; omega)
    have HX10 := Lib.hid ((HX9.out.below hb10 fun k hk => by rw [hs9]; exact hk.2).more (S' := fun k => k < w10.heap.size) fun k hk => by have := hk.2; omega)
    have HY10 := Lib.hid (hy.more (S' := fun k => k < w10.heap.size) fun k hk => hk.2)
    clear hy hb10 hs9 Y9 Hm9 HM9 HX9
    clear t0 b0 b1 b2 b3 b4 b5 l0 f1 f2 hlt
    clear Y8 HM8 HX8
    have hal : Below w10.heap.size w10 (w10.alloc (.cells #[.slice Ax L2.length cx, .slice Ay L3.length cy] 27)) := (Below.refl _ _).alloc (Nat.le_refl _) _
    have HB11 := Lib.hid (Y10.out.x.below.trans (hal.mono Y10.out.x.below.size))
    have hW := Whole.new w10 w10.heap.size 27 [.slice Ax L2.length cx, .slice Ay L3.length cy] rfl
    have Hcc := Lib.hid (concatI_any w10.heap.size 27 Ax Ay L2.length cx L3.length cy L2 L3 _ (fun k => k < w10.heap.size) (fun k hk => Nat.lt_trans hk hW.lt) hW (HX10.out.below hal fun k hk => hk) (HY10.out.below hal fun k hk => hk) (by omega))
    have HM11 := Lib.hid (HM10.out.below hal fun k hk => hk)
    have hlt11 := hW.lt
    clear hal hW hx1 hx2 hy1 hy2 HM10 HX10 HY10 Y10
    unfold OwnPost at Hcc
    have hL4 : (L2 ++ L3).length ≤ 100000 := by simp only [List.length_append]; omega
    generalize L2 ++ L3 = L4 at Hcc HSO hL4
    go_wp2_with (first | (go_at_call 13; refine Hcc.out.mono ?_; rintro e w12 ⟨Ab, cb, rfl, hown, hb12⟩; refine Hid.out ?_))
    refine Lib.hid ?_
    have HB12 := Lib.hid (HB11.out.trans (hb12.mono HB11.out.size))
    have hsz12 := hb12.size
    have HM12 := Lib.hid (HM11.out.below hb12 fun k hk => Nat.lt_trans hk hlt11)
    have Hst := Lib.hid (sortI_any _ Ab _ cb L4 w12 hown hL4)
    have HOL := Lib.hid (fun i (e : (Value.slice Ab L4.length cb).ownBlock = some i) => hown.lt i e)
    clear hown hb12 HM11
    unfold SortI at Hst
    rw [HSO.out] at Hst
    go_wp2_with (first | (go_at_call 14; refine Hst.out.mono ?_; rintro e w13 ⟨rfl, hown, hf13⟩; refine Hid.out ?_))
    refine Lib.hid ?_
    obtain ⟨A13, c13, hv, hv1, hv2, hr13⟩ := own_form hown
    injection hv with e1 _ e2
    subst e1 e2
    have HB13 := Lib.hid (HB12.out.trans (hf13.below (B := w.heap.size) HB12.out.size fun i hi => by have := (HOL.out i hi).1; have := HB11.out.size; omega))
    have hM13 : RInts w13 (fun k => k < w13.heap.size) Am L0.length L0 := (HM12.out.keep (w' := w13) fun p hp => hf13.cell (by have := hp; have := HB12.out.size; have := hf13.size; omega) (by intro h; have := (HOL.out _ h).1; have := hp; omega)).more fun k hk => by have := hf13.size; omega
    have hEq := equal_int Ab Am _ L0.length cb cm L0 L0 w13 (fun k => k < w13.heap.size) (RInts.more hr13 fun k hk => hk.2) hM13 (Nat.le_trans hv1 hv2) Hcm.out
    rw [show (L0 == L0) = true from by simp] at hEq
    have Heq := Lib.hid hEq
    clear hEq hM13 hr13 hown hf13
    go_wp2_with (first | (go_at_call 15; refine Heq.out.mono ?_; rintro e w14 ⟨rfl, q14, rfl⟩; refine Hid.out ?_))
    refine Lib.hid ?_
    go_wp2
    go_ret
    exact ⟨rfl, below_drewN HB13.out _⟩
  · have he1 : (meansE ps a != 0) = true := by simpa using he
    generalize meansE ps a = z at hma he1
    have Hma := Lib.hid hma
    clear hma he
    go_enter Tryz.func3, Tryz.ntmps3
    go_wp2_with (first | (go_at_call 6; refine Hma.out.mono ?_; rintro e w1 ⟨Al, cl, rfl, hl, hc1, hc2, hb1⟩; refine Hid.out ?_))
    refine Lib.hid ?_
    have hb1' : Below w1.heap.size w1 (w1.alloc (.cells #[.slice Al (meansL ps a).length cl] 27)) := (Below.refl _ _).alloc (Nat.le_refl _) _
    have X2 := Lib.hid ((X0.out.move hb1).move hb1')
    clear hl hc1 hc2 hb1 hb1' X0 Hma
    go_wp2_with (first | (go_at_call 7; refine (Hfo.out _ (HLV.out.below X2.out.below) (HMV.out.below X2.out.below)).mono ?_; rintro e w3 ⟨rfl, hb3⟩; refine Hid.out ?_))
    refine Lib.hid ?_
    have X3 := Lib.hid (X2.out.move hb3)
    clear hb3
    go_wp2_with (first | (go_at_call 7; refine (Hfo.out _ (HLV.out.below X3.out.below) (HMV.out.below X3.out.below)).mono ?_; rintro e w4 ⟨rfl, hb4⟩; refine Hid.out ?_))
    refine Lib.hid ?_
    have X4 := Lib.hid (X3.out.move hb4)
    clear hb4
    go_wp2
    go_ret
    exact ⟨rfl, X4.out.below⟩
end Go.Proofs.YthpkffeiehnamaaGreatDoor

/- Arguments that can be read as data, opened: atoms, strings; what the listed variables hold. -/
namespace Go.Proofs.YthpkffeiehnamaaGreatDoor
open Go.ChangeShapes Go.WideShapes Go.ChangeAt Go.RowKit Qm

section
variable {H : Type} {enc : TypeId × Value → H} {w : World} {base : Nat} {sp : Nat → Bool} {held : Bool}
/-- One cell's field of a struct. -/
theorem field_cell {P : Program} {t : TypeId} {fs : Array Field} {fuel : Nat} {cs : List Value} {x : DataW H × List MemPlace} (ht : P.underlying t = some (.struct fs)) (h : DataW.trod enc P w base sp held fuel t cs = some x)
    (i : Nat) {f : Field} (hf : fs[i]? = some f) (hc : P.cellsOf f.type = 1) (hlt : f.offset < P.cellsOf t) : ∃ c n y, cs[f.offset]? = some c ∧ DataW.trod enc P w base sp held n f.type [c] = some y := by
  obtain ⟨xs, n, _, _, hl, hxl, hx⟩ := DataW.trod_struct ht h
  have h1 := hx i f hf
  have hlt' : f.offset < cs.length := by omega
  have hi : i < fs.size := (Array.getElem?_eq_some_iff.1 hf).1
  rw [hc, List.drop_eq_getElem_cons hlt'] at h1
  refine ⟨cs[f.offset], n, xs[i]'(by omega), List.getElem?_eq_getElem hlt', ?_⟩
  rw [List.getElem?_eq_getElem (by omega)] at h1
  have e : (cs[f.offset] :: List.drop (f.offset + 1) cs).take 1 = [cs[f.offset]] := rfl
  rw [e] at h1
  exact h1
def In64 (x : Int) : Prop := -9223372036854775808 ≤ x ∧ x ≤ 9223372036854775807
theorem i64_le {x : Int} (h : (Lit.int .i64 x).wf = true) : In64 x := by
  unfold In64
  simp [Lit.wf, IntKind.min, IntKind.max, IntKind.bits, IntKind.signed] at h; omega
theorem six_of {α : Type} {cs : List α} {a b c d e f : α} (hl : cs.length = 6) (h0 : cs[0]? = some a) (h1 : cs[1]? = some b) (h2 : cs[2]? = some c) (h3 : cs[3]? = some d) (h4 : cs[4]? = some e) (h5 : cs[5]? = some f) : cs = [a, b, c, d, e, f] := by
  match cs, hl with
  | [_, _, _, _, _, _], _ => simp at h0 h1 h2 h3 h4 h5; simp [h0, h1, h2, h3, h4, h5]
theorem str_one {P : Program} {t : TypeId} {n : Nat} {c : Value} {y : DataW H × List MemPlace} (ht : P.underlying t = some .string) (h : DataW.trod enc P w base sp held n t [c] = some y) : ∃ s : ByteArray, c = .string s ∧ s.size ≤ maxLen := by
  obtain ⟨s, e, _, hs⟩ := DataW.trod_string ht h
  simp at e
  exact ⟨s, e, hs⟩
theorem int_one {P : Program} {t : TypeId} {n : Nat} {c : Value} {y : DataW H × List MemPlace} (ht : P.underlying t = some (.int .i64)) (h : DataW.trod enc P w base sp held n t [c] = some y) : ∃ x : Int, c = .int .i64 x ∧ In64 x := by
  obtain ⟨x, e, _, hs⟩ := DataW.trod_int ht h
  simp at e
  exact ⟨x, e, i64_le hs⟩
theorem bool_one_ {P : Program} {t : TypeId} {n : Nat} {c : Value} {y : DataW H × List MemPlace} (ht : P.underlying t = some .bool) (h : DataW.trod enc P w base sp held n t [c] = some y) : ∃ x : Bool, c = .bool x := by
  obtain ⟨x, e, _⟩ := DataW.trod_bool ht h
  simp at e
  exact ⟨x, e⟩
/-- An atom's six cells. -/
theorem atom_cells {fuel : Nat} {cs : List Value} {x : DataW H × List MemPlace} (h : DataW.trod enc Tryz.prog w base sp held fuel 26 cs = some x) :
    ∃ (s f : ByteArray) (op ver slot : Int) (on : Bool), cs = [.string s, .int .i64 op, .int .i64 ver, .int .i64 slot, .string f, .bool on] ∧ s.size ≤ maxLen ∧ f.size ≤ maxLen ∧ In64 op ∧
      In64 ver ∧ In64 slot := by
  have hT := Tryz.underlying26
  have hl : cs.length = 6 := by
    obtain ⟨_, _, _, _, hl, _⟩ := DataW.trod_struct hT h
    rw [hl]; kernel_rfl
  obtain ⟨c0, n0, y0, e0, k0⟩ := field_cell hT h 0 rfl (by kernel_rfl) (of_decide_eq_true (by kernel_rfl))
  obtain ⟨c1, n1, y1, e1, k1⟩ := field_cell hT h 1 rfl (by kernel_rfl) (of_decide_eq_true (by kernel_rfl))
  obtain ⟨c2, n2, y2, e2, k2⟩ := field_cell hT h 2 rfl (by kernel_rfl) (of_decide_eq_true (by kernel_rfl))
  obtain ⟨c3, n3, y3, e3, k3⟩ := field_cell hT h 3 rfl (by kernel_rfl) (of_decide_eq_true (by kernel_rfl))
  obtain ⟨c4, n4, y4, e4, k4⟩ := field_cell hT h 4 rfl (by kernel_rfl) (of_decide_eq_true (by kernel_rfl))
  obtain ⟨c5, n5, y5, e5, k5⟩ := field_cell hT h 5 rfl (by kernel_rfl) (of_decide_eq_true (by kernel_rfl))
  obtain ⟨s, rfl, hs⟩ := str_one Tryz.underlying9 k0
  obtain ⟨op, rfl, ho⟩ := int_one Tryz.underlying3 k1
  obtain ⟨ver, rfl, hv⟩ := int_one Tryz.underlying3 k2
  obtain ⟨slot, rfl, hsl⟩ := int_one Tryz.underlying3 k3
  obtain ⟨f, rfl, hf⟩ := str_one Tryz.underlying9 k4
  obtain ⟨on, rfl⟩ := bool_one_ Tryz.underlying4 k5
  exact ⟨s, f, op, ver, slot, on, six_of hl e0 e1 e2 e3 e4 e5, hs, hf, ho, hv, hsl⟩
set_option maxRecDepth 100000 in
/-- An atom, by value. -/
theorem open_atom {r : Reach} {b0 : Nat} {v : Value} {d : DataW H} {p : List MemPlace} (hv : Value.okWide Tryz.prog w r b0 26 v) (h : DataW.Trod enc Tryz.prog w base sp held 26 v d p) :
    ∃ (s f : ByteArray) (op ver slot : Int) (on : Bool), v = atv s op ver slot f on ∧ s.size ≤ maxLen ∧ f.size ≤ maxLen ∧ In64 op ∧
      In64 ver ∧ In64 slot := by
  obtain ⟨cs, rfl, _⟩ := okWide_struct Tryz.underlying26 hv
  obtain ⟨fuel, hf⟩ := h
  obtain ⟨s, f, op, ver, slot, on, e, hh⟩ := atom_cells hf
  have e' : cs.toList = [.string s, .int .i64 op, .int .i64 ver, .int .i64 slot, .string f, .bool on] := by simpa [Value.cells] using e
  refine ⟨s, f, op, ver, slot, on, ?_, hh⟩
  obtain ⟨l⟩ := cs
  simp only at e'
  subst e'
  rfl
end

/-! what the listed variables hold -/
theorem laid_at {P : Program} {w : World} : ∀ {l : List (String × DataW Unit)} {k : Nat} {x : String × DataW Unit}, laidMet P l w → l[k]? = some x → ∃ r, laidMet P (x :: r) w
  | [], _, _, _, h => by simp at h
  | y :: r, 0, x, h, hk => by
    simp only [List.getElem?_cons_zero, Option.some.injEq] at hk
    subst hk
    exact ⟨r, h⟩
  | y :: r, k + 1, x, h, hk => laid_at h.tail (by simpa using hk)
theorem gPow : Tryz.prog.globalNamed "internal/strconv.uint64pow10" = some 1 := by kernel_rfl
theorem gRng : Tryz.prog.globalNamed "strconv.ErrRange" = some 3 := by kernel_rfl
theorem gSyn : Tryz.prog.globalNamed "strconv.ErrSyntax" = some 2 := by kernel_rfl
theorem tPow : (Tryz.prog.globals[1]?).map (·.type) = some 193 := by kernel_rfl
theorem tRng : (Tryz.prog.globals[3]?).map (·.type) = some 77 := by kernel_rfl
theorem tSyn : (Tryz.prog.globals[2]?).map (·.type) = some 77 := by kernel_rfl
theorem rowErr : ∀ u, Tryz.prog.typeName? 3 u = some "*errors.errorString" → u = 212 := fun _ h => typeName_ptr_named (nm := "errors.errorString") (by kernel_rfl) (by kernel_rfl) (by decide) _ h
theorem laidV_of {w : World} {l : List (String × DataW Unit)} (h : laidMet Tryz.prog l w) {i j k : Nat} (hi : l[i]? = some ("internal/strconv.uint64pow10", Rows.laid_internal_strconv_uint64pow10)) (hj : l[j]? = some ("strconv.ErrRange", Rows.laid_strconv_ErrRange)) (hk : l[k]? = some ("strconv.ErrSyntax", Rows.laid_strconv_ErrSyntax)) : LaidV w := by
  obtain ⟨_, h1⟩ := laid_at h hi
  obtain ⟨_, h2⟩ := laid_at h hj
  obtain ⟨_, h3⟩ := laid_at h hk
  obtain ⟨a2, s2, e2, _⟩ := laid_sentinel h2 gRng tRng Tryz.underlying77 rowErr Tryz.underlying212 Tryz.underlying214 rfl rfl Tryz.underlying9 (by kernel_rfl) (by kernel_rfl)
  obtain ⟨a3, s3, e3, _⟩ := laid_sentinel h3 gSyn tSyn Tryz.underlying77 rowErr Tryz.underlying212 Tryz.underlying214 rfl rfl Tryz.underlying9 (by kernel_rfl) (by kernel_rfl)
  exact ⟨⟨_, _, e3⟩, ⟨_, _, e2⟩, Lib.tabIs_of_head gPow tPow Tryz.underlying193 Tryz.underlying118 (by kernel_rfl) (by kernel_rfl) h1⟩
end Go.Proofs.YthpkffeiehnamaaGreatDoor

/- Arguments that can be read as data, opened into the words of these proofs. -/
namespace Go.Proofs.YthpkffeiehnamaaGreatDoor
open Go.ChangeShapes Go.WideShapes Go.ChangeAt Go.RowKit Go.Joins Go.Deep

theorem spot_add {w : World} {a : Addr} {n : Nat} {f : Nat → Value} (hn : 0 < n) (h : ∀ i, i < n → w.cell? (a.add i) = some (f i)) : ∃ b o, a = ⟨b, o, none⟩ ∧ b < w.heap.size ∧ ∀ j, j < n → w.cell? ⟨b, o + j, none⟩ = some (f j) := by
  obtain ⟨b, o, spot⟩ := a
  have h0 := h 0 hn
  have hs : spot = none := by simpa [Addr.add] using World.cell?_spot h0
  subst hs
  have ha : ∀ j, (⟨b, o, none⟩ : Addr).add j = ⟨b, o + j, none⟩ := by
    intro j; unfold Addr.add; by_cases hj : j = 0 <;> simp [hj]
  refine ⟨b, o, rfl, ?_, fun j hj => by rw [← ha]; exact h j hj⟩
  have := World.block_lt_of_cell? w _ h0
  rw [ha] at this; exact this

theorem row_of_cells {w : World} {a : Addr} {n : Nat} {vs : List Value} (hl : vs.length = n) (h : ∀ i (_ : i < n), w.cell? (a.add i) = vs[i]?) : Row w (fun k => k < w.heap.size) (some a) n vs := by
  refine ⟨hl, fun hn => ?_⟩
  obtain ⟨b, o, rfl, hb, hc⟩ := spot_add (f := fun i => (vs[i]?).getD undef) hn (fun i hi => by rw [h i hi, List.getElem?_eq_getElem (by omega)]; rfl)
  exact ⟨b, o, rfl, hb, fun j hj => by rw [hc j hj, List.getElem?_eq_getElem (by omega)]; rfl⟩

section
variable {H : Type} {enc : TypeId × Value → H} {P : Program} {w : World} {base : Nat} {held : Bool}
def InI64 (xs : List Int) : Prop := ∀ x ∈ xs, -9223372036854775808 ≤ x ∧ x ≤ 9223372036854775807
theorem i64_bd {x : Int} (h : (Lit.int .i64 x).wf = true) : -9223372036854775808 ≤ x ∧ x ≤ 9223372036854775807 := by
  simp [Lit.wf, IntKind.min, IntKind.max, IntKind.bits, IntKind.signed] at h; omega
/-- a slice of ints -/
theorem rints_of_trod {t e : TypeId} {fuel : Nat} {v : Value} {x : DataW H × List MemPlace} (ht : P.underlying t = some (.slice e)) (he : P.underlying e = some (.int .i64)) (hc : P.cellsOf e = 1)
    (h : DataW.trod enc P w base (fun _ => true) held fuel t [v] = some x) : ∃ (A : Option Addr) (n c : Nat) (xs : List Int), v = .slice A n c ∧ n ≤ c ∧ c ≤ maxLen ∧ RInts w (fun k => k < w.heap.size) A n xs ∧ InI64 xs := by
  rcases open_ints ht he hc h with ⟨hcs, _⟩ | ⟨a, len, cap, zs, hcs, _, hl, hm, hz, _, hcell, hwf⟩
  · simp at hcs
    exact ⟨none, 0, 0, [], hcs, Nat.le_refl _, Nat.zero_le _, RInts.nil_, fun x hx => by simp at hx⟩
  · simp at hcs hz
    refine ⟨some a, len, cap, zs.take len, hcs, hl, hm, row_of_cells (by simp; omega) (fun i hi => ?_), fun x hx => i64_bd (hwf x (List.mem_of_mem_take hx))⟩
    rw [hcell i (by omega), List.getElem?_map, List.getElem?_take_of_lt hi, List.getD_eq_getElem?_getD, List.getElem?_eq_getElem (by omega)]; rfl
/-- a slice of bools -/
theorem rbools_of_trod {t e : TypeId} {fuel : Nat} {v : Value} {x : DataW H × List MemPlace} (ht : P.underlying t = some (.slice e)) (he : P.underlying e = some .bool) (hc : P.cellsOf e = 1)
    (h : DataW.trod enc P w base (fun _ => true) held fuel t [v] = some x) : ∃ (A : Option Addr) (n c : Nat) (xs : List Bool), v = .slice A n c ∧ n ≤ c ∧ c ≤ maxLen ∧ RBools w (fun k => k < w.heap.size) A n xs := by
  rcases open_bools ht he hc h with ⟨hcs, _⟩ | ⟨a, len, cap, Bf, hcs, _, hl, hm, _, hcell⟩
  · simp at hcs
    exact ⟨none, 0, 0, [], hcs, Nat.le_refl _, Nat.zero_le _, ⟨rfl, fun h => absurd h (by omega)⟩⟩
  · simp at hcs
    refine ⟨some a, len, cap, (List.range len).map Bf, hcs, hl, hm, row_of_cells (by simp) (fun i hi => ?_)⟩
    rw [hcell i (by omega), List.getElem?_map, List.getElem?_map, List.getElem?_range hi]; rfl
/-- a slice of slices of ints -/
theorem rclauses_of_trod {t e q : TypeId} {fuel : Nat} {v : Value} {x : DataW H × List MemPlace} (ht : P.underlying t = some (.slice e)) (he : P.underlying e = some (.slice q)) (hq : P.underlying q = some (.int .i64)) (hc : P.cellsOf e = 1) (hcq : P.cellsOf q = 1)
    (h : DataW.trod enc P w base (fun _ => true) held fuel t [v] = some x) : ∃ (A : Option Addr) (n c : Nat) (cs : List (List Int)), v = .slice A n c ∧ n ≤ c ∧ c ≤ maxLen ∧ RClauses w (fun k => k < w.heap.size) A n cs ∧ ∀ c ∈ cs, InI64 c := by
  rcases open_int_rows ht he hq hc hcq h with ⟨hcs, _⟩ | ⟨a, len, cap, A, L, C, Z, hcs, _, hl, hm, _, hr⟩
  · simp at hcs
    exact ⟨none, 0, 0, [], hcs, Nat.le_refl _, Nat.zero_le _, RClauses.nil_, fun x hx => by simp at hx⟩
  · simp at hcs
    refine ⟨some a, len, cap, (List.range len).map (fun r => (Z r).take (L r)), hcs, hl, hm, ⟨(List.range len).map (fun r => (A r, L r, C r)), row_of_cells (by simp) (fun i hi => ?_), by simp, fun j hh c h1 h2 => ?_⟩, fun c hc => ?_⟩
    · rw [(hr i (by omega)).1, List.getElem?_map, List.getElem?_map, List.getElem?_range hi]; rfl
    · rw [List.getElem?_map] at h1 h2
      by_cases hj : j < len
      · rw [List.getElem?_range hj] at h1 h2
        simp at h1 h2
        subst h1 h2
        obtain ⟨h3, h4, h5, h6, h7, h8, h9⟩ := hr j (by omega)
        refine ⟨?_, h4, h5⟩
        cases hA : A j with
        | none =>
          have h0 : L j = 0 := by have := h8 hA; omega
          show RInts w _ none (L j) _
          rw [h0]; exact RInts.nil_
        | some a' =>
          show RInts w _ (some a') (L j) _
          exact row_of_cells (by simp; omega) (fun i hi => by
            rw [(h9 a' hA).2 i (by omega), List.getElem?_map, List.getElem?_take_of_lt hi, List.getD_eq_getElem?_getD, List.getElem?_eq_getElem (by omega)]; rfl)
      · rw [List.getElem?_eq_none (by simp; omega)] at h1; cases h1
    · obtain ⟨r, hr', rfl⟩ := List.mem_map.1 hc
      rw [List.mem_range] at hr'
      exact fun x hx => i64_bd ((hr r (by omega)).2.2.2.2.1 x (List.mem_of_mem_take hx))
end
end Go.Proofs.YthpkffeiehnamaaGreatDoor

/- Arguments that can be read as needs, opened. -/
namespace Go.Proofs.YthpkffeiehnamaaGreatDoor
open Go.ChangeShapes Go.WideShapes Go.ChangeAt Go.RowKit Qm

theorem flatK {K : Nat} {cs : List (List Value)} (h : ∀ x ∈ cs, x.length = K) : ∀ {j : Nat} {x : List Value}, cs[j]? = some x → ∀ i, i < K → cs.flatten[j * K + i]? = x[i]? := by
  induction cs with
  | nil => intro j x hj; simp at hj
  | cons c r ih =>
    intro j x hj i hi
    have hc := h c (List.mem_cons_self ..)
    rw [List.flatten_cons]
    cases j with
    | zero =>
      simp only [List.getElem?_cons_zero, Option.some.injEq] at hj
      subst hj
      rw [List.getElem?_append_left (by omega)]; congr 1; omega
    | succ j =>
      rw [List.getElem?_cons_succ] at hj
      have he : (j + 1) * K = j * K + K := Nat.succ_mul j K
      rw [List.getElem?_append_right (by omega)]
      rw [← ih (fun y hy => h y (List.mem_cons_of_mem _ hy)) hj i hi]
      congr 1; omega
theorem flatK_len {K : Nat} {cs : List (List Value)} (h : ∀ x ∈ cs, x.length = K) : cs.flatten.length = cs.length * K := by
  induction cs with
  | nil => simp
  | cons c r ih =>
    have hc := h c (List.mem_cons_self ..)
    have := ih fun y hy => h y (List.mem_cons_of_mem _ hy)
    simp only [List.flatten_cons, List.length_append, List.length_cons, Nat.succ_mul]
    omega

section
variable {H : Type} {enc : TypeId × Value → H} {P : Program} {w : World} {base : Nat} {sp : Nat → Bool} {held : Bool}
/-- A slice whose elements have K cells: its rows, each read with less fuel. -/
theorem slice_items {t e : TypeId} {K fuel : Nat} {v : Value} {x : DataW H × List MemPlace} (ht : P.underlying t = some (.slice e)) (hK : P.cellsOf e = K) (hK0 : 0 < K) (h : DataW.trod enc P w base sp held fuel t [v] = some x) :
    ∃ (A : Option Addr) (n c : Nat) (cs : List (List Value)), v = .slice A n c ∧ n ≤ c ∧ c ≤ maxLen ∧ cs.length = n ∧ Row w (fun k => k < w.heap.size) A (n * K) cs.flatten ∧
      ∀ x ∈ cs, x.length = K ∧ ∃ m y, m < fuel ∧ DataW.trod enc P w base sp held m e x = some y := by
  rcases DataW.trod_slice ht h with ⟨hcs, _⟩ | ⟨a, len, cap, elems, rest, n, hfuel, hcs, _, hb, hl, hm, hlen, hel, _, _⟩
  · simp at hcs
    exact ⟨none, 0, 0, [], hcs, Nat.le_refl _, Nat.zero_le _, rfl, by simpa using Row.nil_, fun x hx => by cases hx⟩
  · simp at hcs
    subst hcs hK
    have key : ∀ i, i < len → ∃ cs', w.cells? base (a.add (i * P.cellsOf e)) (P.cellsOf e) = some cs' ∧ ∃ y, DataW.trod enc P w base sp held n e cs' = some y := fun i hi => by
      have h1 := hel i hi
      rw [List.getElem?_eq_getElem (by omega)] at h1
      obtain ⟨cs', h2, h3⟩ := Option.bind_eq_some_iff.1 h1
      exact ⟨cs', h2, _, h3⟩
    have hget : ∀ j, j < len → ((List.range len).map fun i => (w.cells? base (a.add (i * P.cellsOf e)) (P.cellsOf e)).getD [])[j]? = some ((w.cells? base (a.add (j * P.cellsOf e)) (P.cellsOf e)).getD []) := fun j hj => by
      rw [List.getElem?_map, List.getElem?_range hj]; rfl
    have hmem : ∀ x ∈ (List.range len).map fun i => (w.cells? base (a.add (i * P.cellsOf e)) (P.cellsOf e)).getD [], x.length = P.cellsOf e ∧ ∃ m y, m < fuel ∧ DataW.trod enc P w base sp held m e x = some y := by
      intro x hx
      obtain ⟨i, hi, rfl⟩ := List.mem_map.1 hx
      rw [List.mem_range] at hi
      obtain ⟨cs', h1, y, h2⟩ := key i hi
      rw [h1]
      exact ⟨(World.cells?_some h1).2.1, n, y, by omega, h2⟩
    refine ⟨some a, len, cap, (List.range len).map fun i => (w.cells? base (a.add (i * P.cellsOf e)) (P.cellsOf e)).getD [], rfl, hl, hm, by simp, ?_, hmem⟩
    refine row_of_cells (by rw [flatK_len fun x hx => (hmem x hx).1]; simp) fun p hp => ?_
    obtain ⟨i, r, hr, rfl⟩ : ∃ i r, r < P.cellsOf e ∧ p = i * P.cellsOf e + r := ⟨p / P.cellsOf e, p % P.cellsOf e, Nat.mod_lt _ hK0, by rw [Nat.mul_comm]; exact (Nat.div_add_mod p _).symm⟩
    have hi : i < len := by
      apply Classical.byContradiction
      intro hni
      have : len * P.cellsOf e ≤ i * P.cellsOf e := Nat.mul_le_mul_right _ (by omega)
      omega
    rw [flatK (fun x hx => (hmem x hx).1) (hget i hi) r hr]
    obtain ⟨cs', h1, _⟩ := key i hi
    rw [h1, ← Go.Deep.add_add]
    exact (World.cells?_some h1).2.2 r hr
end
section
variable {H : Type} {enc : TypeId × Value → H} {w : World} {base : Nat} {sp : Nat → Bool} {held : Bool}
theorem bs_list (s : ByteArray) : s = ⟨s.data.toList.toArray⟩ := by obtain ⟨⟨l⟩⟩ := s; rfl
set_option maxRecDepth 100000 in
theorem need_cells : ∀ (fuel : Nat) (cs : List Value) (x : DataW H × List MemPlace), DataW.trod enc Tryz.prog w base sp held fuel 57 cs = some x →
    ∃ y, RNd w (fun k => k < w.heap.size) cs y := by
  intro fuel
  induction fuel using Nat.strongRecOn with
  | _ fuel ih =>
    intro cs x h
    have hT := Tryz.underlying57
    obtain ⟨xs, n, hfu, _, hlen, hxl, hx⟩ := DataW.trod_struct hT h
    have hl : cs.length = 10 := by rw [hlen]; kernel_rfl
    obtain ⟨c0, n0, y0, e0, k0⟩ := field_cell hT h 0 rfl (by kernel_rfl) (of_decide_eq_true (by kernel_rfl))
    obtain ⟨c7, n7, y7, e7, k7⟩ := field_cell hT h 2 rfl (by kernel_rfl) (of_decide_eq_true (by kernel_rfl))
    obtain ⟨c8, n8, y8, e8, k8⟩ := field_cell hT h 3 rfl (by kernel_rfl) (of_decide_eq_true (by kernel_rfl))
    have h1 := hx 1 _ rfl
    have h4 := hx 4 _ rfl
    have hxs : xs.length = 5 := hxl
    rw [List.getElem?_eq_getElem (by omega)] at h1 h4
    obtain ⟨k, rfl, _⟩ := int_one Tryz.underlying3 k0
    obtain ⟨f, rfl, hf⟩ := str_one Tryz.underlying9 k7
    obtain ⟨no, rfl⟩ := bool_one_ Tryz.underlying4 k8
    obtain ⟨s, g, op, ver, slot, on, ea, hs, hg, _, _, _⟩ := atom_cells h1
    match cs, hl with
    | [d0, d1, d2, d3, d4, d5, d6, d7, d8, d9], _ =>
      have h4' : DataW.trod enc Tryz.prog w base sp held n 55 [d9] = some xs[4] := h4
      obtain ⟨A, m, c, rows, rfl, hnc, hc, hrl, hrow, hit⟩ := slice_items Tryz.underlying55 (K := 10) (by kernel_rfl) (by decide) h4'
      have e0' : d0 = .int .i64 k := by simpa using e0
      have e7' : d7 = .string f := by simpa using e7
      have e8' : d8 = .bool no := by simpa using e8
      have ea' : [d1, d2, d3, d4, d5, d6] = [.string s, .int .i64 op, .int .i64 ver, .int .i64 slot, .string g, .bool on] := ea
      simp only [List.cons.injEq, and_true] at ea'
      obtain ⟨rfl, rfl, rfl, rfl, rfl, rfl⟩ := ea'
      subst e0' e7' e8'
      have hkid : ∀ x ∈ rows, ∃ y, RNd w (fun k => k < w.heap.size) x y := fun x hx => by
        obtain ⟨_, m, y, hm, hy⟩ := hit x hx
        exact ih m (by omega) x y hy
      obtain ⟨ks, hkl, hks⟩ : ∃ ks : List Nd, ks.length = rows.length ∧ ∀ (j : Nat) (x : List Value) (y : Nd), rows[j]? = some x → ks[j]? = some y → RNd w (fun k => k < w.heap.size) x y := by
        clear hrow hit hrl
        induction rows with
        | nil => exact ⟨[], rfl, fun j x y h => by simp at h⟩
        | cons r rs ihr =>
          obtain ⟨y, hy⟩ := hkid r (List.mem_cons_self ..)
          obtain ⟨ks, h1, h2⟩ := ihr fun x hx => hkid x (List.mem_cons_of_mem _ hx)
          refine ⟨y :: ks, by simp [h1], fun j x' y' h3 h4 => ?_⟩
          cases j with
          | zero =>
            simp only [List.getElem?_cons_zero, Option.some.injEq] at h3 h4
            subst h3 h4; exact hy
          | succ j => rw [List.getElem?_cons_succ] at h3 h4; exact h2 j x' y' h3 h4
      refine ⟨.mk k ⟨s.data.toList, op, ver, slot, g.data.toList, on⟩ f.data.toList no ks, ?_⟩
      have hr := RNd.shut (w := w) (S := fun k => k < w.heap.size) (k := k) (a := ⟨s.data.toList, op, ver, slot, g.data.toList, on⟩) (f := f.data.toList) (no := no) (ks := ks) hnc hc (by rw [← Lib.size_eq]; exact hs) (by rw [← Lib.size_eq]; exact hg) (by rw [← Lib.size_eq]; exact hf) ⟨rows, by omega, hrl, hrow, hks⟩
      unfold ndRow at hr
      simp only [] at hr
      rw [← bs_list, ← bs_list, ← bs_list] at hr
      exact hr
set_option maxRecDepth 100000 in
/-- A need, by value. -/
theorem open_need {r : Reach} {b0 : Nat} {v : Value} {d : DataW H} {p : List MemPlace} (hv : Value.okWide Tryz.prog w r b0 57 v) (h : DataW.Trod enc Tryz.prog w base sp held 57 v d p) :
    ∃ (x : List Value) (y : Nd), v = .agg x.toArray ∧ RNd w (fun k => k < w.heap.size) x y := by
  obtain ⟨cs, rfl, _⟩ := okWide_struct Tryz.underlying57 hv
  obtain ⟨fuel, hf⟩ := h
  obtain ⟨y, hy⟩ := need_cells fuel _ _ hf
  refine ⟨cs.toList, y, by simp, ?_⟩
  simpa [Value.cells] using hy
end
end Go.Proofs.YthpkffeiehnamaaGreatDoor

/- Arguments that can be read as trees, opened. -/
namespace Go.Proofs.YthpkffeiehnamaaGreatDoor
open Go.ChangeShapes Go.WideShapes Go.ChangeAt Go.RowKit Qm

theorem rows_of {α : Type} {R : List Value → α → Prop} : ∀ {rows : List (List Value)}, (∀ x ∈ rows, ∃ y, R x y) → ∃ ys : List α, ys.length = rows.length ∧ ∀ (j : Nat) (x : List Value) (y : α), rows[j]? = some x → ys[j]? = some y → R x y
  | [], _ => ⟨[], rfl, fun j x y h => by simp at h⟩
  | r :: rs, h => by
    obtain ⟨y, hy⟩ := h r (List.mem_cons_self ..)
    obtain ⟨ks, h1, h2⟩ := rows_of (rows := rs) fun x hx => h x (List.mem_cons_of_mem _ hx)
    refine ⟨y :: ks, by simp [h1], fun j x' y' h3 h4 => ?_⟩
    cases j with
    | zero =>
      simp only [List.getElem?_cons_zero, Option.some.injEq] at h3 h4
      subst h3 h4; exact hy
    | succ j => rw [List.getElem?_cons_succ] at h3 h4; exact h2 j x' y' h3 h4
theorem strs_flat : ∀ {cs : List (List Value)} {ys : List Qm.W}, cs.length = ys.length → (∀ (j : Nat) (x : List Value) (y : Qm.W), cs[j]? = some x → ys[j]? = some y → x = [.string ⟨y.toArray⟩]) → cs.flatten = strs ys
  | [], [], _, _ => rfl
  | [], _ :: _, h, _ => by simp at h
  | _ :: _, [], h, _ => by simp at h
  | r :: rs, y :: ys, h, hR => by
    rw [List.flatten_cons, hR 0 r y rfl rfl, strs_flat (cs := rs) (ys := ys) (by simpa using h) fun j x z h1 h2 => hR (j + 1) x z (by simpa using h1) (by simpa using h2)]; rfl
section
variable {H : Type} {enc : TypeId × Value → H} {w : World} {base : Nat} {sp : Nat → Bool} {held : Bool}
/-- A slice of structs, each of which opens. -/
theorem open_seq {α : Type} {R : List Value → α → Prop} {t e : TypeId} {K fuel : Nat} {v : Value} {x : DataW H × List MemPlace} (ht : Tryz.prog.underlying t = some (.slice e)) (hK : Tryz.prog.cellsOf e = K) (hK0 : 0 < K)
    (h : DataW.trod enc Tryz.prog w base sp held fuel t [v] = some x) (hR : ∀ m (x : List Value) y, m < fuel → DataW.trod enc Tryz.prog w base sp held m e x = some y → ∃ z, R x z) :
    ∃ (A : Option Addr) (n c : Nat) (ys : List α), v = .slice A n c ∧ n ≤ c ∧ c ≤ maxLen ∧ RSeq K R w (fun k => k < w.heap.size) A n ys := by
  obtain ⟨A, n, c, cs, rfl, h1, h2, h3, h4, h5⟩ := slice_items ht hK hK0 h
  obtain ⟨ys, k1, k2⟩ := rows_of (R := R) (rows := cs) fun x hx => by
    obtain ⟨_, m, y, hm, hy⟩ := h5 x hx
    exact hR m x y hm hy
  exact ⟨A, n, c, ys, rfl, h1, h2, cs, by omega, h3, h4, fun x hx => (h5 x hx).1, k2⟩
theorem open_words {fuel : Nat} {v : Value} {x : DataW H × List MemPlace} (h : DataW.trod enc Tryz.prog w base sp held fuel 54 [v] = some x) :
    ∃ (A : Option Addr) (n c : Nat) (fs : List Qm.W), v = .slice A n c ∧ n ≤ c ∧ c ≤ maxLen ∧ RWords w (fun k => k < w.heap.size) A n fs := by
  obtain ⟨A, n, c, ys, rfl, h1, h2, cs, hy, hc, hrow, hK, hR⟩ := open_seq (R := fun x (f : Qm.W) => x = [.string ⟨f.toArray⟩] ∧ f.length ≤ maxLen) Tryz.underlying54 (K := 1) (by kernel_rfl) (by decide) h fun m x y _ hxy => by
    obtain ⟨s, e, _, hs⟩ := DataW.trod_string Tryz.underlying9 hxy
    exact ⟨s.data.toList, by rw [e, ← bs_list], by rw [← Lib.size_eq]; exact hs⟩
  refine ⟨A, n, c, ys, rfl, h1, h2, ?_, fun f hf => ?_⟩
  · have e : cs.flatten = strs ys := strs_flat (by omega) fun j x y h1 h2 => (hR j x y h1 h2).1
    rw [← e]
    simpa using hrow
  · obtain ⟨j, hj, rfl⟩ := List.mem_iff_getElem.1 hf
    exact (hR j (cs[j]'(by omega)) _ (List.getElem?_eq_getElem (by omega)) (List.getElem?_eq_getElem hj)).2
set_option maxRecDepth 100000 in
theorem package_cells {fuel : Nat} {cs : List Value} {x : DataW H × List MemPlace} (h : DataW.trod enc Tryz.prog w base sp held fuel 59 cs = some x) :
    ∃ p, RPk w (fun k => k < w.heap.size) cs p := by
  have hT := Tryz.underlying59
  obtain ⟨xs, n, hfu, _, hlen, hxl, hx⟩ := DataW.trod_struct hT h
  have hl : cs.length = 14 := by rw [hlen]; kernel_rfl
  obtain ⟨c0, n0, y0, e0, k0⟩ := field_cell hT h 0 rfl (by kernel_rfl) (of_decide_eq_true (by kernel_rfl))
  obtain ⟨c1, n1, y1, e1, k1⟩ := field_cell hT h 1 rfl (by kernel_rfl) (of_decide_eq_true (by kernel_rfl))
  obtain ⟨c2, n2, y2, e2, k2⟩ := field_cell hT h 2 rfl (by kernel_rfl) (of_decide_eq_true (by kernel_rfl))
  obtain ⟨c3, n3, y3, e3, k3⟩ := field_cell hT h 3 rfl (by kernel_rfl) (of_decide_eq_true (by kernel_rfl))
  have h4 := hx 4 _ rfl
  have hxs : xs.length = 5 := hxl
  rw [List.getElem?_eq_getElem (by omega)] at h4
  obtain ⟨s, rfl, hs⟩ := str_one Tryz.underlying9 k0
  obtain ⟨ver, rfl, _⟩ := int_one Tryz.underlying3 k1
  obtain ⟨slot, rfl, _⟩ := int_one Tryz.underlying3 k2
  obtain ⟨A, m, c, fs, rfl, hm, hc, hfs⟩ := open_words k3
  obtain ⟨nd, hnd⟩ := need_cells _ _ _ h4
  refine ⟨⟨s.data.toList, ver, slot, fs, nd⟩, A, m, c, (cs.drop 4).take 10, ?_, hm, hc, by rw [← Lib.size_eq]; exact hs, hfs, hnd⟩
  match cs, hl with
  | [d0, d1, d2, d3, d4, d5, d6, d7, d8, d9, d10, d11, d12, d13], _ =>
    have e0' : d0 = .string s := by simpa using e0
    have e1' : d1 = .int .i64 ver := by simpa using e1
    have e2' : d2 = .int .i64 slot := by simpa using e2
    have e3' : d3 = .slice A m c := by simpa using e3
    subst e0' e1' e2' e3'
    simp [pkRow, ← bs_list]
set_option maxRecDepth 100000 in
theorem tree_cells {fuel : Nat} {cs : List Value} {x : DataW H × List MemPlace} (h : DataW.trod enc Tryz.prog w base sp held fuel 24 cs = some x) :
    ∃ (A : Option Addr) (n c : Nat) (ps : List Pk), cs = [.slice A n c] ∧ n ≤ c ∧ c ≤ maxLen ∧ RTree w (fun k => k < w.heap.size) A n ps := by
  have hT := Tryz.underlying24
  obtain ⟨xs, n, hfu, _, hlen, hxl, hx⟩ := DataW.trod_struct hT h
  have hl : cs.length = 1 := by rw [hlen]; kernel_rfl
  obtain ⟨c0, n0, y0, e0, k0⟩ := field_cell hT h 0 rfl (by kernel_rfl) (of_decide_eq_true (by kernel_rfl))
  obtain ⟨A, m, c, ps, rfl, hm, hc, hps⟩ := open_seq (R := RPk w (fun k => k < w.heap.size)) Tryz.underlying22 (K := 14) (by kernel_rfl) (by decide) k0 fun m x y _ hxy => package_cells hxy
  refine ⟨A, m, c, ps, ?_, hm, hc, hps⟩
  match cs, hl with
  | [d0], _ => simp at e0; rw [e0]
set_option maxRecDepth 100000 in
/-- A tree, by value. -/
theorem open_tree {r : Reach} {b0 : Nat} {v : Value} {d : DataW H} {p : List MemPlace} (hv : Value.okWide Tryz.prog w r b0 24 v) (h : DataW.Trod enc Tryz.prog w base sp held 24 v d p) :
    ∃ (A : Option Addr) (n c : Nat) (ps : List Pk), v = .agg #[.slice A n c] ∧ n ≤ c ∧ c ≤ maxLen ∧ RTree w (fun k => k < w.heap.size) A n ps := by
  obtain ⟨cs, rfl, _⟩ := okWide_struct Tryz.underlying24 hv
  obtain ⟨fuel, hf⟩ := h
  obtain ⟨A, n, c, ps, e, h1, h2, h3⟩ := tree_cells hf
  refine ⟨A, n, c, ps, ?_, h1, h2, h3⟩
  obtain ⟨l⟩ := cs
  simp only [Value.cells] at e
  subst e
  rfl
end
end Go.Proofs.YthpkffeiehnamaaGreatDoor

/- The frame of a row that lists variables, and hands the world's shape on. -/
namespace Go.Proofs.YthpkffeiehnamaaGreatDoor
open Go.ChangeShapes Go.WideShapes Go.RowKit
variable {H : Type} {enc : TypeId × Value → H}

theorem handed_laid_shaped {a : Assume} {C : Checked} {os : Os} {f : FuncId} {fn : Func} {s : ChangeSpec} {conds : List PathCond} {apart fresh handsOn again : Bool} {X : World → Array Value → Prop}
    (hX : ∀ (w w' : World) (args : Array Value), w.heap = w'.heap → X w args → X w' args)
    (own : ownKnob C.prog.godebug = none) (started : os.Started) (noInit : C.prog.inits.idxOf? f = none) (hfn : C.prog.funcs[f]? = some fn)
    (witness : ∃ (w : World) (tape : Tape) (i : Input), w.os = os ∧ (w.forCall tape i).Shaped C.prog ∧ i.vars = [] ∧ Input.okWide C.prog (w.forCall tape i) .any w.heap.size f i ∧
      ((s.pre enc C.prog fn conds apart (w.forCall tape i).memory i.args ∧ X (w.forCall tape i).memory i.args) ∧ sizedMet enc C.prog fn (OpenSpec.ofChange s) apart (w.forCall tape i).memory i.args) ∧ a.holds C.prog (lone (Frame.enter C.prog f i.args .normal) [] (w.forCall tape i)))
    (walk : ∀ (W : World) (base : Nat) (args : Array Value) (ds gs : List (DataW H)) (before : List MemPlace),
      (∀ (j : Nat) t v, fn.params[j]? = some t → args[j]? = some v → Value.okWide C.prog W .any base t v) →
      DataW.Whole enc C.prog fn.params.toList s.vars apart W args.toList ds gs before →
      (DataW.weightsEach C.prog (fn.params.toList ++ s.plain.varTypes C.prog) (ds ++ gs)).all (· ≤ reachBytes) = true → X W args → W.ShapedOpen C.prog →
      Calls C.prog f args W fun e W' => ∃ v, e = .returned v ∧ s.post enc C.prog fn apart fresh handsOn again W args v W') :
    ReturnsInHanded a C os f .any (fun w args => (s.pre enc C.prog fn conds apart w args ∧ X w args) ∧ sizedMet enc C.prog fn (OpenSpec.ofChange s) apart w args) (s.post enc C.prog fn apart fresh handsOn again) :=
  returnsInHanded_of_calls own started noInit witness fun w tape i _ hsh _ hok hpre _ => by
    obtain ⟨_, _, _, fn', hfn', _, _, _, _, hval⟩ := hok
    obtain rfl : fn' = fn := Option.some.inj (hfn'.symm.trans hfn)
    obtain ⟨⟨⟨ds, gs, before, hw, _⟩, hx⟩, hz⟩ := hpre
    refine (walk (w.forCall tape i) w.heap.size i.args ds gs before hval (DataW.Whole.of_heap (w' := w.forCall tape i) (by rfl) hw) (hz.weights hw) (hX _ _ _ (by rfl) hx) hsh).mono ?_
    rintro e W' ⟨v, rfl, hp⟩
    exact ChangeSpec.post_blind hp
end Go.Proofs.YthpkffeiehnamaaGreatDoor
