/- Parts of the proof: walks and plain laws, side by side. -/
import Derived.Test.YtedbhlgjcnnknaaGreatDoorM28
import Derived.BigQuiet
import Derived.Test.YtedbhlgjcnnknaaGreatDoorProg
import Derived.Test.YtedbhlgjcnnknaaGreatDoorM1
import Derived.Deep.QuietTactic
import Derived.Test.YtedbhlgjcnnknaaGreatDoorM10
import Derived.Deep.LoopGhost
import Derived.Test.YtedbhlgjcnnknaaGreatDoorM19
set_option linter.unusedVariables false
set_option linter.unusedSimpArgs false
set_option linter.unusedSectionVars false
/- encode.Literals, walked. -/
namespace Go.Proofs.YtedbhlgjcnnknaaGreatDoor
open Go.RowKit Qm

def litL (ps : List Pk) (v : Ws) (l : List Mem) : List Int := if validE ps v l = 0 then litsB (chVec ps v l) else []
def LiteralsP (ps : List Pk) (v : Ws) (l : List Mem) (w : World) (e : Ending) (w' : World) : Prop :=
 ∃ A c, e = .returned (.tuple #[.slice A (litL ps v l).length c, .int .i64 (validE ps v l)]) ∧ RInts w' (fun k => w.heap.size ≤ k ∧ k < w'.heap.size) A (litL ps v l).length (litL ps v l) ∧ (litL ps v l).length ≤ c ∧ c ≤ maxLen ∧ Below w.heap.size w w'
theorem LiteralsP.err {ps : List Pk} {v : Ws} {l : List Mem} {w w' : World} {z : Int} (hz : z ≠ 0) (he : validE ps v l = z) (hb : Below w.heap.size w w') : LiteralsP ps v l w (.returned (.tuple #[.slice none 0 0, .int .i64 z])) w' := by
 have hl : litL ps v l = [] := by unfold litL; rw [if_neg (by rw [he]; exact hz)]
 exact ⟨none, 0, by rw [hl, he]; rfl, by rw [hl]; exact RInts.nil_, by rw [hl]; exact Nat.le_refl _, Nat.zero_le _, hb⟩
structure Lb (w : World) (A : Option Addr) (n c : Nat) (wv : List Value) (wx : World) : Prop where
 t : Whole wx w.heap.size 24 [.slice A n c]
 wi : Whole wx (w.heap.size + 1) 30 wv
 bel : Below w.heap.size w wx
section
variable {w : World} {A : Option Addr} {n c : Nat} {wv : List Value} {wx wy : World}
theorem Lb.below {B : Nat} (h : Lb w A n c wv wx) (hb : Below B wx wy) (hB : w.heap.size + 1 < B) : Lb w A n c wv wy :=
 ⟨h.t.below hb (by omega), h.wi.below hb (by omega), h.bel.trans (hb.mono (by omega))⟩
theorem Lb.move (h : Lb w A n c wv wx) (hb : Below wx.heap.size wx wy) : Lb w A n c wv wy := h.below hb h.wi.lt
theorem Lb.new (w : World) (A : Option Addr) (n c : Nat) (wv : List Value) : Lb w A n c wv ((w.alloc (.cells #[.slice A n c] 24)).alloc (.cells wv.toArray 30)) :=
 ⟨(Whole.new w _ _ [_] rfl).alloc _, Whole.new (w.alloc (.cells #[.slice A n c] 24)) (w.heap.size + 1) _ wv (by simp), ((Below.refl _ w).alloc (Nat.le_refl _) _).alloc (by simp) _⟩
end
theorem make_intsN (n : Nat) (hn : n ≤ 100000) (w : World) {x : Int} (hx : x = n) : (Instr.makeSlice 27 (.int .i64 x) (.int .i64 x)).run Tryz.prog w = .ok (.slice (some ⟨w.heap.size, 0, none⟩) n n) (w.alloc (.cells ((List.range n).map fun _ => Value.int .i64 0).toArray 3)) := by
 subst hx; exact make_intsE n hn w
structure Lst (w3 : World) (N : Nat) (md : List Int) (wr : World) : Prop where
 bm : Whole wr (w3.heap.size + 1) 27 [.slice (some ⟨w3.heap.size, 0, none⟩) N N]
 g : Whole wr w3.heap.size 3 (md.map (.int .i64))
 bel : Below w3.heap.size w3 wr
section
variable {w3 : World} {N : Nat} {md : List Int} {wr wy : World}
theorem Lst.move (h : Lst w3 N md wr) (hb : Below wr.heap.size wr wy) : Lst w3 N md wy := ⟨h.bm.below hb h.bm.lt, h.g.below hb h.g.lt, h.bel.trans (hb.mono h.bel.size)⟩
theorem Lst.put (h : Lst w3 N md wr) (p : Nat) (x : Int) : Lst w3 N (md.set p x) (wr.setCell ⟨w3.heap.size, p, none⟩ (.int .i64 x)) :=
 ⟨h.bm.far (by show w3.heap.size + 1 ≠ w3.heap.size; omega) _, by rw [List.map_set]; exact h.g.set_ p _, h.bel.setCell (p := ⟨w3.heap.size, p, none⟩) (Nat.le_refl _) _⟩
theorem Lst.tail (h : Lst w3 N md wr) (hl : md.length = N) (hN : 1 ≤ N) : RInts wr (fun k => k = w3.heap.size) (some ⟨w3.heap.size, 1, none⟩) (N - 1) (md.drop 1) := by
 have h0 := h.g.ints (S := fun k => k = w3.heap.size) rfl hl
 have := Row.drop h0 (k := 1) (cap := N + 1) (by omega) (by omega)
 rw [if_neg (by omega)] at this
 unfold RInts; rw [List.map_drop]; exact this
theorem Lst.new (w3 : World) (N : Nat) : Lst w3 N ((List.range N).map fun _ => 0) ((w3.alloc (.cells ((List.range N).map fun _ => Value.int .i64 0).toArray 3)).alloc (.cells #[.slice (some ⟨w3.heap.size, 0, none⟩) N N] 27)) := by
 have h1 := (Whole.new w3 w3.heap.size 3 ((List.range N).map fun _ => Value.int .i64 0) rfl).alloc (.cells #[.slice (some ⟨w3.heap.size, 0, none⟩) N N] 27)
 refine ⟨Whole.new (w3.alloc (.cells ((List.range N).map fun _ => Value.int .i64 0).toArray 3)) (w3.heap.size + 1) _ [_] (by simp), by rw [List.map_map]; exact h1, ((Below.refl _ w3).alloc (Nat.le_refl _) _).alloc (by simp) _⟩
end
theorem onsX_at {X : Chs} {ps : List Pk} {i : Nat} (hip : i < ps.length) : (onsX X ps).getD i [] = (List.range (pkOf ps i).fs.length).map (X.on i) := by
 unfold onsX
 rw [List.getD_eq_getElem?_getD, List.getElem?_map, List.getElem?_range hip]; rfl
set_option maxRecDepth 100000 in
set_option maxHeartbeats 6400000 in
theorem literals_any (ps : List Pk) (v : Ws) (l : List Mem) (S : Nat → Prop) (A B : Option Addr) (n c q1 d1 : Nat) (A1 A2 A3 A4 : Option Addr) (n1 c1 n2 c2 n3 c3 n4 c4 : Nat) (w : World) (hT : RTree w S A n ps) (hnc : n ≤ c) (hc : c ≤ maxLen) (hV : WsAt w S A1 n1 c1 A2 n2 c2 A3 n3 c3 A4 n4 c4 v) (hL : RSet w S B q1 l) (hqd : q1 ≤ d1) (hd : d1 ≤ maxLen) (hS : ∀ k, S k → k < w.heap.size) :
  Calls Tryz.prog 13 #[.agg #[.slice A n c], .agg #[.slice A1 n1 c1, .slice A2 n2 c2, .slice A3 n3 c3, .slice A4 n4 c4], .slice B q1 d1] w (LiteralsP ps v l w) := by
 have X0 := Lib.hid (Lb.new w A n c [.slice A1 n1 c1, .slice A2 n2 c2, .slice A3 n3 c3, .slice A4 n4 c4])
 have HT := Lib.hid hT; have HS := Lib.hid hS; have HW := Lib.hid hV; have HL := Lib.hid hL
 have HQL := Lib.hid hL.len
 have HCC := Lib.hid (And.intro hnc hc)
 have Hlt := Lib.hid (fun (wx : World) (hb : Below w.heap.size w wx) k hk => Nat.lt_of_lt_of_le (HS.out k hk) hb.size)
 have Hva := Lib.hid (valid_any ps v l S A B n c q1 d1 A1 A2 A3 A4 n1 c1 n2 c2 n3 c3 n4 c4 _ (HT.out.under X0.out.bel HS.out) hnc hc (HW.out.under X0.out.bel HS.out) (HL.out.under X0.out.bel HS.out) hqd hd (Hlt.out _ X0.out.bel))
 have Hch := Lib.hid (fun (wx : World) (hb : Below w.heap.size w wx) => choices_any ps v S A n c A1 n1 c1 A2 n2 c2 A3 n3 c3 A4 n4 c4 wx (HT.out.under hb HS.out) hnc hc (HW.out.under hb HS.out) (Hlt.out _ hb))
 unfold maxLen at hc hd
 clear hT hV hS hL
 obtain ⟨z, hz⟩ : ∃ z, z = validE ps v l := ⟨_, rfl⟩
 rw [← hz] at Hva
 have HZ := Lib.hid hz
 clear hz
 go_enter Tryz.func13, Tryz.ntmps13
 go_wp2_with (first | (go_at_call 18; refine Hva.out.mono ?_; rintro e w2 ⟨rfl, hb2⟩; refine Hid.out ?_))
 refine Lib.hid ?_
 have X2 := Lib.hid (X0.out.move hb2)
 clear hb2 Hva X0
 by_cases h0 : z = 0
 ·subst h0
  have hwz : ckWish ps v = 0 := by
   have h := HZ.out
   unfold validE at h
   split at h
   ·rename_i h2; exact absurd h.symm h2
   ·rename_i h2; simpa using h2
  have hsz : ckSet ps l = 0 := by
   have h := HZ.out
   unfold validE at h
   rw [if_neg (by rw [hwz]; simp)] at h
   exact h.symm
  have HC2 := Lib.hid (Hch.out _ X2.out.bel hwz)
  have HSZ := Lib.hid hsz
  have t0 := X2.out.t.cell 0
  have v0 := X2.out.wi.cell 0; have v1 := X2.out.wi.cell 1; have v2 := X2.out.wi.cell 2; have v3 := X2.out.wi.cell 3
  have wlt := X2.out.wi.lt
  have tlt := X2.out.t.lt
  have HWZ := Lib.hid hwz
  simp only [qgz, qgs] at t0 v0 v1 v2 v3
  clear hwz hsz Hch
  go_wp2_with (first | (go_at_call 44; refine HC2.out.mono ?_; rintro e w3 ⟨q, hq1, hq2, hq3, hq4, hq5, hq6, hq7, rfl, hd3, hb3⟩; refine Hid.out ?_))
  refine Lib.hid ?_
  subst hq3 hq5
  have HX := Lib.hid hq6
  have X3 := Lib.hid (X2.out.move hb3)
  have HD3 := Lib.hid hd3
  have HLen := Lib.hid hd3.len
  have WP := Lib.hid (wish_parts HWZ.out)
  have hmany : manyC q.ps ≤ 14 := (tree_parts WP.out.tree).2.1
  obtain ⟨P, hs, HK⟩ := HD3.out
  have d3 := HK.blk.cell 3
  have dlt := HK.blk.lt
  simp only [qgz, qgs] at d3
  obtain ⟨MC, hMC⟩ : ∃ x, x = manyC q.ps := ⟨_, rfl⟩
  rw [← hMC] at d3 hmany
  have HMC := Lib.hid hMC
  obtain ⟨N, hN⟩ : ∃ x : Nat, x = MC + 1 := ⟨_, rfl⟩
  have hms := fun wx => make_intsN N (by omega) wx (x := (MC : Int) + 1) (by omega)
  have HN := Lib.hid hN
  have henter : ∀ (args : Array Value) (W : World), (callFunc 48 args).run Tryz.prog W = .ok (.enter 48 args) W := fun args W => by kernel_rfl
  have L4 := Lib.hid (Lst.new w3 N)
  have X4 := Lib.hid (X3.out.below L4.out.bel X3.out.wi.lt)
  have t0 := X3.out.t.cell 0
  have tlt := X3.out.t.lt
  have tlt2 : w.heap.size < w3.heap.size + 1 := by omega
  have h8 : q.n ≤ 8 := by rw [← HLen.out]; exact (tree_parts WP.out.tree).1
  have HA0 : Hid (Asg q.ps v l ((List.range N).map fun _ => 0) (Qp q.ps v 0)) := Lib.hid (by rw [hN, hMC]; exact Asg.start)
  simp only [List.getElem?_cons_zero] at t0
  clear hd3 hb3 hq1 hq2 hq4 hq6 hq7 HC2 v0 v1 v2 v3 wlt X2 HK hMC hN
  go_wp2
  generalize (w3.alloc (.cells ((List.range N).map fun _ => Value.int .i64 0).toArray 3)).alloc (.cells #[.slice (some ⟨w3.heap.size, 0, none⟩) N N] 27) = w4 at L4 X4 ⊢
  clear t0 tlt tlt2
  have t0 := X4.out.t.cell 0
  have tlt := X4.out.t.lt
  simp only [List.getElem?_cons_zero] at t0
  go_wp2
  have HB4 : Hid (Below w4.heap.size w4 w4) := Lib.hid (Below.refl _ _)
  have tlt4 : w3.heap.size + 1 < w4.heap.size := L4.out.bm.lt
  have HLT4 := Lib.hid tlt4
  have HDI : Hid (DIn q.X q.ps ⟨MC, [], fun _ _ => 0⟩) := Lib.hid (by rw [HMC.out, HX.out]; exact DIn.start WP.out.ok)
  have HNZ : Hid (∀ i k, i < q.ps.length → k < (pkOf q.ps i).fs.length → q.X.on i k ≠ 0) := Lib.hid (fun i k hi hk => by rw [HX.out]; exact ((chW_ok WP.out.ok).on i hi k hk).1)
  have HNP : Hid (∀ i, i < q.ps.length → q.X.pick i ≠ 0) := Lib.hid (fun i hi => by rw [HX.out]; exact ((chW_ok WP.out.ok).pick i hi).1)
  have HM14 := Lib.hid hmany
  clear t0 tlt tlt4 d3 dlt hms hmany
  go_loopg [41] q.n (fun g iv wr => ∃ (i : Nat) (md : List Int), Hid (i + g = q.n) ∧ iv = .int .i64 i ∧ Hid (Lst w3 N md wr) ∧ Hid (Asg q.ps v l md (Qp q.ps v i)))
  case atStart => exact ⟨0, _, Lib.hid (Nat.zero_add _), rfl, L4, HA0⟩
  case round =>
   obtain ⟨g3, rfl⟩ : ∃ x : Nat, x = gk := ⟨_, rfl⟩
   obtain ⟨wo, rfl⟩ : ∃ x : World, x = wr := ⟨_, rfl⟩
   obtain ⟨i, md, Hi, rfl, LO, HA⟩ := hrel
   clear HB4
   by_cases hi : i < q.n
   ·have hip : i < q.ps.length := by rw [HLen.out]; exact hi
    have hi1 : (i : Int) < q.n := by omega
    have hal : Below wo.heap.size wo (wo.alloc (.cells #[.int .i64 (i : Int)] 3)) := (Below.refl _ wo).alloc (Nat.le_refl _) _
    have IX := Lib.hid (Whole.new wo wo.heap.size 3 [.int .i64 (i : Int)] rfl)
    have LX := Lib.hid (LO.out.move hal)
    have X5 := Lib.hid (X3.out.below LX.out.bel X3.out.wi.lt)
    have Hix := Lib.hid (indexF_M (RMem _ S) (fun m : Mem => decide (m.pl = (i : Int))) B q1 d1 l 50 #[.pointer (some ⟨wo.heap.size, 0, none⟩)] _ S (HL.out.under X5.out.bel HS.out) (Hlt.out _ X5.out.bel) (Nat.le_trans hqd hd) ⟨fun args W => by kernel_rfl, fun m hm cx W hW hR => by
     obtain ⟨A5, n5, c5, rfl, _⟩ := hR
     have hc := (IX.out.below hW IX.out.lt).cell 0
     simp only [List.getElem?_cons_zero] at hc
     exact litAt_any m.pl A5 n5 c5 wo.heap.size i W hc⟩ (fun x y hR => by obtain ⟨A5, n5, c5, rfl, _⟩ := hR; exact ⟨_, _, _, _, rfl⟩))
    clear hal
    go_wp2_with (first | (go_at_call 49; refine Hix.out.mono ?_; rintro e w5 ⟨rfl, hb5⟩; refine Hid.out ?_))
    refine Lib.hid ?_
    have L5 := Lib.hid (LX.out.move hb5)
    have hbd := below_drewN (Below.refl w5.heap.size w5) 1
    have LD := Lib.hid (L5.out.move hbd)
    have I5 := Lib.hid (IX.out.below hb5 IX.out.lt)
    have ID := Lib.hid (I5.out.below hbd I5.out.lt)
    have HMDL : Hid (md.length = N) := Lib.hid (by rw [HA.out.len, HN.out, HMC.out])
    obtain ⟨pb, po, hpA⟩ := HD3.out.pA (by omega)
    obtain ⟨c1, c2, c3, c4⟩ := (HD3.out.move L5.out.bel).pk hpA hi
    have hpn := HNP.out i hip
    have hpi := HDI.out.pick i hip
    dsimp only at hpi
    obtain ⟨x, hx⟩ : ∃ x, x = q.X.pick i := ⟨_, rfl⟩
    have HXI := Lib.hid hx
    rw [← hx] at c2 hpi hpn
    have hx0 : x ≠ 0 := hpn
    have hxN : x.natAbs < N := by have := HN.out; omega
    have i0 := I5.out.cell 0
    have ilt := I5.out.lt
    simp only [List.getElem?_cons_zero] at i0
    have hi0 : (0 : Int) ≤ (i : Int) := by omega
    have hpc : q.n ≤ q.pc := HD3.out.caps.2.1.1
    clear hb5 hbd hpn hpi hx Hix LX IX
    rcases atP_ix (l := l) (i := i) with ⟨hix, hat⟩ | ⟨k, m, hix, hlk, hat⟩
    ·rw [hix]
     have HAT := Lib.hid hat
     clear hix hat
     have Hset := Lib.hid (litSet_any x false (w3.heap.size + 1) w3.heap.size N _ LD.out.bm md LD.out.g HMDL.out hx0 hxN (by have := HM14.out; have := HN.out; omega))
     go_upto_region 11 with fail
     refine wp_region_held_drew (S := (fun w' => w'.cell? ⟨q.b, 1, none⟩ = some (.slice (some ⟨pb, po, none⟩) q.n q.pc) ∧ w'.cell? ⟨pb, po + i, none⟩ = some (.int .i64 x) ∧ w'.cell? ⟨wo.heap.size, 0, none⟩ = some (.int .i64 (i : Int)))) (by kernel_rfl) (⟨c1, c2, i0⟩) (fun hHeld => ?_)
     first | (refine tkA (v := ?_) held_at0 ?_ ?_; rotate_left; focus ((intro w_ hSw; (try dsimp only at hSw); go_simp; (try with_reducible rfl)); done)) | (refine tkB held_at0 ?_)
     (try simp only [Act.put, qsa, qsz, qss])
     first | (refine tkA (v := ?_) held_at1 ?_ ?_; rotate_left; focus ((intro w_ hSw; (try dsimp only at hSw); go_simp; (try with_reducible rfl)); done)) | (refine tkB held_at1 ?_)
     (try simp only [Act.put, qsa, qsz, qss])
     first | (refine tkA (v := ?_) held_at2 ?_ ?_; rotate_left; focus ((intro w_ hSw; (try dsimp only at hSw); go_simp; (try with_reducible rfl)); done)) | (refine tkB held_at2 ?_)
     (try simp only [Act.put, qsa, qsz, qss])
     first | (refine tkA (v := ?_) held_at3 ?_ ?_; rotate_left; focus ((intro w_ hSw; (try dsimp only at hSw); go_simp; (try with_reducible rfl)); done)) | (refine tkB held_at3 ?_)
     (try simp only [Act.put, qsa, qsz, qss])
     first | (refine tkA (v := ?_) held_at4 ?_ ?_; rotate_left; focus ((intro w_ hSw; (try dsimp only at hSw); go_simp; (try with_reducible rfl)); done)) | (refine tkB held_at4 ?_)
     (try simp only [Act.put, qsa, qsz, qss])
     first | (refine tkA (v := ?_) held_at5 ?_ ?_; rotate_left; focus ((intro w_ hSw; (try dsimp only at hSw); go_simp; (try with_reducible rfl)); done)) | (refine tkB held_at5 ?_)
     (try simp only [Act.put, qsa, qsz, qss])
     first | (refine tkA (v := ?_) held_at6 ?_ ?_; rotate_left; focus ((intro w_ hSw; (try dsimp only at hSw); go_simp; (try with_reducible rfl)); done)) | (refine tkB held_at6 ?_)
     (try simp only [Act.put, qsa, qsz, qss])
     first | (refine tkA (v := ?_) held_at7 ?_ ?_; rotate_left; focus ((intro w_ hSw; (try dsimp only at hSw); go_simp; (try with_reducible rfl)); done)) | (refine tkB held_at7 ?_)
     (try simp only [Act.put, qsa, qsz, qss])
     first | (refine tkA (v := ?_) held_at8 ?_ ?_; rotate_left; focus ((intro w_ hSw; (try dsimp only at hSw); go_simp; (try with_reducible rfl)); done)) | (refine tkB held_at8 ?_)
     (try simp only [Act.put, qsa, qsz, qss])
     first | (refine tkA (v := ?_) held_at9 ?_ ?_; rotate_left; focus ((intro w_ hSw; (try dsimp only at hSw); go_simp; (try with_reducible rfl)); done)) | (refine tkB held_at9 ?_)
     (try simp only [Act.put, qsa, qsz, qss])
     refine wpAnyH_ready (rs := [10]) (by kernel_rfl) (by simp) ?_
     refine AllReadyH.cons held_at10 (fun K hK => ?_) AllReadyH.nil
     (try simp only [qsa, qsz, qss])
     go_simp
     go_at_call 48
     refine Hset.out.mono ?_
     rintro e6 w6 ⟨rfl, hw6⟩
     have HY : Hid ((if (decide (0 < x) == false) = true then (x.natAbs : Int) else -(x.natAbs : Int)) = litV q.ps v l x.natAbs) := Lib.hid (by have := (litV_pick WP.out.ok (v := v) (l := l) hip (t := false) (by rw [HAT.out]; rfl)); rw [← HX.out, ← HXI.out] at this; exact this.symm)
     have L6 := Lib.hid (LD.out.put x.natAbs (if (decide (0 < x) == false) = true then (x.natAbs : Int) else -(x.natAbs : Int)))
     have I6 := Lib.hid (ID.out.far (p := ⟨w3.heap.size, x.natAbs, none⟩) (by show wo.heap.size ≠ w3.heap.size; have := LO.out.bm.lt; omega) (.int .i64 (if (decide (0 < x) == false) = true then (x.natAbs : Int) else -(x.natAbs : Int))))
     rw [← hw6] at L6 I6
     clear hw6 Hset
     have HA6 : Hid (Asg q.ps v l _ (Qf q.ps v i 0)) := Lib.hid ((HA.out.put (p := x.natAbs) (y := (if (decide (0 < x) == false) = true then (x.natAbs : Int) else -(x.natAbs : Int))) (by rw [← HMC.out, ← HN.out]; exact hxN) HY.out).mono fun y hy => by rw [HXI.out, HX.out]; exact Qf_zero hy)
     generalize md.set x.natAbs (if (decide (0 < x) == false) = true then (x.natAbs : Int) else -(x.natAbs : Int)) = md6 at L6 HA6
     obtain ⟨c1', c2', c3', c4'⟩ := (HD3.out.move L6.out.bel).pk hpA hi
     rw [← HXI.out] at c2'
     have i0' := I6.out.cell 0
     simp only [List.getElem?_cons_zero] at i0'
     refine hK.out _ _ (⟨c1', c2', i0'⟩) (fun hHeld => ?_)
     clear hK K
     (try simp only [Act.put, qsa, qsz, qss])
     refine wpAnyH_done (by kernel_rfl) ?_ _
     clear c1 c2 c3 c4 c1' c2' c3' c4' i0 hHeld
     obtain ⟨P6, hs6, hK6⟩ := (HD3.out.move L6.out.bel).cells
     have d2 := hK6.blk.cell 2
     have dlt := hK6.blk.lt
     have hoc5 : q.n ≤ q.oc := hK6.caps.2.2.1
     simp only [qgz, qgs] at d2
     clear hK6
     obtain ⟨P3, hs3, hK3⟩ := HD3.out.cells
     obtain ⟨b4, o4, A5, n5, c5, hoA, hbS4, hoc3, hor, hn5, hc5⟩ := hK3.st.ons.at_ hi
     rw [onsX_at hip] at hor
     have hn5l := hor.len
     simp only [List.length_map, List.length_range] at hn5l
     rw [hoA] at d2
     have hb43 : b4 < w3.heap.size := (hK3.s1 _ hbS4).2.1
     have hb4 : b4 < w6.heap.size := Nat.lt_of_lt_of_le hb43 L6.out.bel.size
     have hoc := (L6.out.bel.cell (p := ⟨b4, o4 + i, none⟩) hb43).trans hoc3
     have HOR := Lib.hid hor
     have HS1 := Lib.hid (fun k hk => (hK3.s1 k hk).2.1)
     have HN5 := Lib.hid hn5l
     have hn14 : n5 ≤ 14 := by
      have h := flagsBef_mono (ps := q.ps) (i := i + 1) (j := q.ps.length) (by omega)
      have h2 := (tree_parts WP.out.tree).2.1
      unfold manyC at h2
      simp only [flagsBef] at h
      omega
     have i0 := I6.out.cell 0
     have ilt := I6.out.lt
     simp only [List.getElem?_cons_zero] at i0
     clear hK3 hoA hbS4 hor hn5 hc5 hn5l hoc3 hb43 hpA hpc LD ID L5 I5
     go_wp2
     go_quiet (fail)
     rename_i nq
     have L7 := Lib.hid (L6.out.move (below_drewN (Below.refl _ w6) nq))
     generalize w6.drewN nq = w7 at L7 ⊢
     clear d2 dlt hoc hb4 i0 ilt L6 I6
     go_wp2
     go_loopg [66] n5 (fun g iv wr => ∃ (kk : Nat) (mr : List Int), Hid (kk + g = n5) ∧ iv = .int .i64 kk ∧ Hid (Lst w3 N mr wr) ∧ Hid (Asg q.ps v l mr (Qf q.ps v i kk)))
     case atStart => exact ⟨0, _, Lib.hid (Nat.zero_add _), rfl, L7, HA6⟩
     case round =>
      obtain ⟨kk, mr, Hk, rfl, LR, HR⟩ := hrel
      clear L7 HA6
      by_cases hk : kk < n5
      ·obtain ⟨b6, o6, rfl, hbS6, hfc⟩ := (HOR.out.below LR.out.bel HS1.out).at_ hk
       have hkl : kk < (pkOf q.ps i).fs.length := by have := HN5.out; omega
       rw [getD_range hkl] at hfc
       have hb6 : b6 < wr.heap.size := Nat.lt_of_lt_of_le (HS1.out _ hbS6) LR.out.bel.size
       have hob := HDI.out.on i kk hip hkl
       have hoz := HNZ.out i kk hip hkl
       dsimp only at hob
       obtain ⟨x2, hx2⟩ : ∃ x, x = q.X.on i kk := ⟨_, rfl⟩
       have HX2 := Lib.hid hx2
       rw [← hx2] at hfc hob hoz
       have hkn : (kk : Int) < n5 := by omega
       have hkk0 : (0 : Int) ≤ (kk : Int) := by omega
       have hx2N : x2.natAbs < N := by have := HN.out; omega
       have hx2b : -200000 ≤ x2 ∧ x2 ≤ 200000 := by have := HN.out; have := HM14.out; omega
       have HMR : Hid (mr.length = N) := Lib.hid (by rw [HR.out.len, HN.out, HMC.out])
       clear hbS6 hob hx2
       have hwr : IntKind.i64.wrap (-x2) = -x2 := IntWalk.i64_in _ (by omega)
       obtain ⟨y, hy⟩ : ∃ y : Nat, y = x2.natAbs := ⟨_, rfl⟩
       have hmx : max x2 (-x2) = (y : Int) := by omega
       have hyN : (y : Int) < N := by omega
       have hyn : y < N := by omega
       have hwy : IntKind.i64.wrap (-(y : Int)) = -(y : Int) := IntWalk.i64_in _ (by omega)
       have m0 := LR.out.bm.cell 0
       have mlt := LR.out.bm.lt
       have gf := LR.out.g.free y
       have glt := LR.out.g.lt
       have hcy : -(max x2 (-x2)) = -(y : Int) := by omega
       have gc : wr.cell? ⟨w3.heap.size, y, none⟩ = some (.int .i64 (mr.getD y 0)) := by
        have hmr := HMR.out
        rw [LR.out.g.cell, List.getElem?_map, List.getElem?_eq_getElem (by omega), List.getD_eq_getElem?_getD, List.getElem?_eq_getElem (by omega)]; rfl
       simp only [List.getElem?_cons_zero] at m0
       have L8 := Lib.hid (LR.out.put y (-(y : Int)))
       have HA8 : Hid (Asg q.ps v l (mr.set y (-(y : Int))) (Qf q.ps v i (kk + 1))) := Lib.hid ((HR.out.put (p := y) (by rw [← HMC.out, ← HN.out]; exact hyn) (by rw [hy, HX2.out, HX.out]; exact (litV_off hip hkl HAT.out).symm)).mono fun z hz => by rw [hy, HX2.out, HX.out]; exact Qf_succ hz)
       clear hy hcy hx2N
       go_wp2
       go_roundg (gk - 1)
       case measure => have := Hk.out; omega
       case rel => exact ⟨kk + 1, _, Lib.hid (by have := Hk.out; omega), by go_num, L8, HA8⟩
      ·have hkn : ¬ (kk : Int) < n5 := by omega
       have HKE : Hid (kk = (pkOf q.ps i).fs.length) := Lib.hid (by have := HN5.out; have := Hk.out; omega)
       go_wp2
       go_roundg (g3 - 1)
       case measure => have := Hi.out; omega
       case rel => exact ⟨i + 1, mr, Lib.hid (by have := Hi.out; omega), by go_num, LR, Lib.hid (HR.out.mono fun y hy => by rw [HKE.out]; exact Qp_succ hy)⟩
    ·rw [hix]
     have HAT := Lib.hid hat
     have HLK := Lib.hid hlk
     have hk0 : (0 : Int) ≤ (k : Int) := by omega
     have hkq : k < q1 := by rw [← HQL.out]; exact (List.getElem?_eq_some_iff.1 hlk).1
     have hkqi : (k : Int) < q1 := by omega
     have HOK : Hid (m.on.length = (pkOf q.ps i).fs.length) := Lib.hid (by
      have h1 := ckMs_mem (ckSet_zero HSZ.out).2 m (List.mem_of_getElem? hlk)
      have h2 := List.find?_some hat
      have h3 : m.pl = (i : Int) := of_decide_eq_true h2
      rw [h1.2.2, h3])
     clear hix hat hlk
     have Hset := Lib.hid (litSet_any x true (w3.heap.size + 1) w3.heap.size N _ LD.out.bm md LD.out.g HMDL.out hx0 hxN (by have := HM14.out; have := HN.out; omega))
     go_upto_region 11 with fail
     refine wp_region_held_drew (S := (fun w' => w'.cell? ⟨q.b, 1, none⟩ = some (.slice (some ⟨pb, po, none⟩) q.n q.pc) ∧ w'.cell? ⟨pb, po + i, none⟩ = some (.int .i64 x) ∧ w'.cell? ⟨wo.heap.size, 0, none⟩ = some (.int .i64 (i : Int)))) (by kernel_rfl) (⟨c1, c2, i0⟩) (fun hHeld => ?_)
     first | (refine tkA (v := ?_) held_at0 ?_ ?_; rotate_left; focus ((intro w_ hSw; (try dsimp only at hSw); go_simp; (try with_reducible rfl)); done)) | (refine tkB held_at0 ?_)
     (try simp only [Act.put, qsa, qsz, qss])
     first | (refine tkA (v := ?_) held_at1 ?_ ?_; rotate_left; focus ((intro w_ hSw; (try dsimp only at hSw); go_simp; (try with_reducible rfl)); done)) | (refine tkB held_at1 ?_)
     (try simp only [Act.put, qsa, qsz, qss])
     first | (refine tkA (v := ?_) held_at2 ?_ ?_; rotate_left; focus ((intro w_ hSw; (try dsimp only at hSw); go_simp; (try with_reducible rfl)); done)) | (refine tkB held_at2 ?_)
     (try simp only [Act.put, qsa, qsz, qss])
     first | (refine tkA (v := ?_) held_at3 ?_ ?_; rotate_left; focus ((intro w_ hSw; (try dsimp only at hSw); go_simp; (try with_reducible rfl)); done)) | (refine tkB held_at3 ?_)
     (try simp only [Act.put, qsa, qsz, qss])
     first | (refine tkA (v := ?_) held_at4 ?_ ?_; rotate_left; focus ((intro w_ hSw; (try dsimp only at hSw); go_simp; (try with_reducible rfl)); done)) | (refine tkB held_at4 ?_)
     (try simp only [Act.put, qsa, qsz, qss])
     first | (refine tkA (v := ?_) held_at5 ?_ ?_; rotate_left; focus ((intro w_ hSw; (try dsimp only at hSw); go_simp; (try with_reducible rfl)); done)) | (refine tkB held_at5 ?_)
     (try simp only [Act.put, qsa, qsz, qss])
     first | (refine tkA (v := ?_) held_at6 ?_ ?_; rotate_left; focus ((intro w_ hSw; (try dsimp only at hSw); go_simp; (try with_reducible rfl)); done)) | (refine tkB held_at6 ?_)
     (try simp only [Act.put, qsa, qsz, qss])
     first | (refine tkA (v := ?_) held_at7 ?_ ?_; rotate_left; focus ((intro w_ hSw; (try dsimp only at hSw); go_simp; (try with_reducible rfl)); done)) | (refine tkB held_at7 ?_)
     (try simp only [Act.put, qsa, qsz, qss])
     first | (refine tkA (v := ?_) held_at8 ?_ ?_; rotate_left; focus ((intro w_ hSw; (try dsimp only at hSw); go_simp; (try with_reducible rfl)); done)) | (refine tkB held_at8 ?_)
     (try simp only [Act.put, qsa, qsz, qss])
     first | (refine tkA (v := ?_) held_at9 ?_ ?_; rotate_left; focus ((intro w_ hSw; (try dsimp only at hSw); go_simp; (try with_reducible rfl)); done)) | (refine tkB held_at9 ?_)
     (try simp only [Act.put, qsa, qsz, qss])
     refine wpAnyH_ready (rs := [10]) (by kernel_rfl) (by simp) ?_
     refine AllReadyH.cons held_at10 (fun K hK => ?_) AllReadyH.nil
     (try simp only [qsa, qsz, qss])
     go_simp
     go_at_call 48
     refine Hset.out.mono ?_
     rintro e6 w6 ⟨rfl, hw6⟩
     have HY : Hid ((if (decide (0 < x) == true) = true then (x.natAbs : Int) else -(x.natAbs : Int)) = litV q.ps v l x.natAbs) := Lib.hid (by have := (litV_pick WP.out.ok (v := v) (l := l) hip (t := true) (by rw [HAT.out]; rfl)); rw [← HX.out, ← HXI.out] at this; exact this.symm)
     have L6 := Lib.hid (LD.out.put x.natAbs (if (decide (0 < x) == true) = true then (x.natAbs : Int) else -(x.natAbs : Int)))
     have I6 := Lib.hid (ID.out.far (p := ⟨w3.heap.size, x.natAbs, none⟩) (by show wo.heap.size ≠ w3.heap.size; have := LO.out.bm.lt; omega) (.int .i64 (if (decide (0 < x) == true) = true then (x.natAbs : Int) else -(x.natAbs : Int))))
     rw [← hw6] at L6 I6
     clear hw6 Hset
     have HA6 : Hid (Asg q.ps v l _ (Qf q.ps v i 0)) := Lib.hid ((HA.out.put (p := x.natAbs) (y := (if (decide (0 < x) == true) = true then (x.natAbs : Int) else -(x.natAbs : Int))) (by rw [← HMC.out, ← HN.out]; exact hxN) HY.out).mono fun y hy => by rw [HXI.out, HX.out]; exact Qf_zero hy)
     generalize md.set x.natAbs (if (decide (0 < x) == true) = true then (x.natAbs : Int) else -(x.natAbs : Int)) = md6 at L6 HA6
     obtain ⟨c1', c2', c3', c4'⟩ := (HD3.out.move L6.out.bel).pk hpA hi
     rw [← HXI.out] at c2'
     have i0' := I6.out.cell 0
     simp only [List.getElem?_cons_zero] at i0'
     refine hK.out _ _ (⟨c1', c2', i0'⟩) (fun hHeld => ?_)
     clear hK K
     (try simp only [Act.put, qsa, qsz, qss])
     refine wpAnyH_done (by kernel_rfl) ?_ _
     clear c1 c2 c3 c4 c1' c2' c3' c4' i0 hHeld
     obtain ⟨P6, hs6, hK6⟩ := (HD3.out.move L6.out.bel).cells
     have d2 := hK6.blk.cell 2
     have dlt := hK6.blk.lt
     have hoc5 : q.n ≤ q.oc := hK6.caps.2.2.1
     simp only [qgz, qgs] at d2
     clear hK6
     obtain ⟨P3, hs3, hK3⟩ := HD3.out.cells
     obtain ⟨b4, o4, A5, n5, c5, hoA, hbS4, hoc3, hor, hn5, hc5⟩ := hK3.st.ons.at_ hi
     rw [onsX_at hip] at hor
     have hn5l := hor.len
     simp only [List.length_map, List.length_range] at hn5l
     rw [hoA] at d2
     have hb43 : b4 < w3.heap.size := (hK3.s1 _ hbS4).2.1
     have hb4 : b4 < w6.heap.size := Nat.lt_of_lt_of_le hb43 L6.out.bel.size
     have hoc := (L6.out.bel.cell (p := ⟨b4, o4 + i, none⟩) hb43).trans hoc3
     have HOR := Lib.hid hor
     have HS1 := Lib.hid (fun k hk => (hK3.s1 k hk).2.1)
     have HN5 := Lib.hid hn5l
     have hn14 : n5 ≤ 14 := by
      have h := flagsBef_mono (ps := q.ps) (i := i + 1) (j := q.ps.length) (by omega)
      have h2 := (tree_parts WP.out.tree).2.1
      unfold manyC at h2
      simp only [flagsBef] at h
      omega
     have i0 := I6.out.cell 0
     have ilt := I6.out.lt
     simp only [List.getElem?_cons_zero] at i0
     clear hK3 hoA hbS4 hor hn5 hc5 hn5l hoc3 hb43 hpA hpc LD ID L5 I5
     go_wp2
     go_quiet (fail)
     rename_i nq
     have L7 := Lib.hid (L6.out.move (below_drewN (Below.refl _ w6) nq))
     generalize w6.drewN nq = w7 at L7 ⊢
     clear d2 dlt hoc hb4 i0 ilt L6 I6
     go_wp2
     go_loopg [66] n5 (fun g iv wr => ∃ (kk : Nat) (mr : List Int), Hid (kk + g = n5) ∧ iv = .int .i64 kk ∧ Hid (Lst w3 N mr wr) ∧ Hid (Asg q.ps v l mr (Qf q.ps v i kk)))
     case atStart => exact ⟨0, _, Lib.hid (Nat.zero_add _), rfl, L7, HA6⟩
     case round =>
      obtain ⟨kk, mr, Hk, rfl, LR, HR⟩ := hrel
      clear L7 HA6
      by_cases hk : kk < n5
      ·obtain ⟨b6, o6, rfl, hbS6, hfc⟩ := (HOR.out.below LR.out.bel HS1.out).at_ hk
       have hkl : kk < (pkOf q.ps i).fs.length := by have := HN5.out; omega
       rw [getD_range hkl] at hfc
       have hb6 : b6 < wr.heap.size := Nat.lt_of_lt_of_le (HS1.out _ hbS6) LR.out.bel.size
       have hob := HDI.out.on i kk hip hkl
       have hoz := HNZ.out i kk hip hkl
       dsimp only at hob
       obtain ⟨x2, hx2⟩ : ∃ x, x = q.X.on i kk := ⟨_, rfl⟩
       have HX2 := Lib.hid hx2
       rw [← hx2] at hfc hob hoz
       have hkn : (kk : Int) < n5 := by omega
       have hkk0 : (0 : Int) ≤ (kk : Int) := by omega
       have hx2N : x2.natAbs < N := by have := HN.out; omega
       have hx2b : -200000 ≤ x2 ∧ x2 ≤ 200000 := by have := HN.out; have := HM14.out; omega
       have HMR : Hid (mr.length = N) := Lib.hid (by rw [HR.out.len, HN.out, HMC.out])
       clear hbS6 hob hx2
       obtain ⟨mb, mo, m', B', kb, db, hBe, hbS, hm', hkd, hdm, hon, g0, g1⟩ := (HL.out.under ((X3.out.below LR.out.bel X3.out.wi.lt).bel) HS.out).at_ hkq
       rw [HLK.out] at hm'
       injection hm' with hm'
       subst hm'
       subst hBe
       have hbk : kb = n5 := by rw [← hon.len, HOK.out, HN5.out]
       subst hbk
       obtain ⟨b7, o7, rfl, hbS7, h7⟩ := hon.at_ hk
       rw [show m.on.getD kk false = onOf m.on kk from rfl] at h7
       have hmb : mb < wr.heap.size := Nat.lt_of_lt_of_le (HS.out _ hbS) (X3.out.below LR.out.bel X3.out.wi.lt).bel.size
       have hb7 : b7 < wr.heap.size := Nat.lt_of_lt_of_le (HS.out _ hbS7) (X3.out.below LR.out.bel X3.out.wi.lt).bel.size
       obtain ⟨ob, hob2⟩ : ∃ y, y = onOf m.on kk := ⟨_, rfl⟩
       have HOB := Lib.hid hob2
       rw [← hob2] at h7
       have Hset2 := Lib.hid (litSet_any x2 ob (w3.heap.size + 1) w3.heap.size N wr LR.out.bm mr LR.out.g HMR.out hoz hx2N (by have := HM14.out; have := HN.out; omega))
       have HA8 : Hid (Asg q.ps v l (mr.set x2.natAbs (if (decide (0 < x2) == ob) = true then (x2.natAbs : Int) else -(x2.natAbs : Int))) (Qf q.ps v i (kk + 1))) := Lib.hid ((HR.out.put (p := x2.natAbs) (by rw [← HMC.out, ← HN.out]; exact hx2N) (by rw [HOB.out, HX2.out, HX.out]; exact (litV_on hip hkl HAT.out).symm)).mono fun z hz => by rw [HX2.out, HX.out]; exact Qf_succ hz)
       have L8 := Lib.hid (LR.out.put x2.natAbs (if (decide (0 < x2) == ob) = true then (x2.natAbs : Int) else -(x2.natAbs : Int)))
       obtain ⟨yv, hyv⟩ : ∃ y : Int, y = (if (decide (0 < x2) == ob) = true then (x2.natAbs : Int) else -(x2.natAbs : Int)) := ⟨_, rfl⟩
       rw [← hyv] at Hset2 HA8 L8
       clear hyv
       have hqc : q1 ≤ d1 := hqd
       clear hon hob2 hbS hbS7 hoz hx2N
       go_wp2_with (first | (go_at_call 48; refine Hset2.out.mono ?_; rintro e8 w8 ⟨rfl, hw8⟩; have hw9 := hw8.symm; subst hw9; refine Hid.out ?_))
       refine Lib.hid ?_
       go_wp2
       go_roundg (gk - 1)
       case measure => have := Hk.out; omega
       case rel => exact ⟨kk + 1, _, Lib.hid (by have := Hk.out; omega), by go_num, L8, HA8⟩
      ·have hkn : ¬ (kk : Int) < n5 := by omega
       have HKE : Hid (kk = (pkOf q.ps i).fs.length) := Lib.hid (by have := HN5.out; have := Hk.out; omega)
       go_wp2
       go_roundg (g3 - 1)
       case measure => have := Hi.out; omega
       case rel => exact ⟨i + 1, mr, Lib.hid (by have := Hi.out; omega), by go_num, LR, Lib.hid (HR.out.mono fun y hy => by rw [HKE.out]; exact Qp_succ hy)⟩
   ·have hi1 : ¬ (i : Int) < q.n := by omega
    have HI : Hid (i = q.n) := Lib.hid (by have := Hi.out; omega)
    have m0 := LO.out.bm.cell 0
    have mlt := LO.out.bm.lt
    simp only [List.getElem?_cons_zero] at m0
    have hN1 : (1 : Int) ≤ N := by have := HN.out; omega
    have hN2 : 1 ≤ N := by omega
    have HMDL : Hid (md.length = N) := Lib.hid (by rw [HA.out.len, HN.out, HMC.out])
    have HFIN : Hid (litL q.ps v l = md.drop 1) := Lib.hid (by
     unfold litL
     rw [if_pos HZ.out.symm]
     exact (Asg.done WP.out.ok (by rw [HLen.out, ← HI.out]; exact HA.out)).symm)
    have HLL : Hid ((litL q.ps v l).length = N - 1) := Lib.hid (by rw [HFIN.out, List.length_drop, HMDL.out])
    have HBZ : Hid (Below w.heap.size w wo) := Lib.hid ((X3.out.below LO.out.bel X3.out.wi.lt).bel)
    have HT2 := Lib.hid (LO.out.tail HMDL.out hN2)
    have HW3 : Hid (w.heap.size ≤ w3.heap.size ∧ w3.heap.size < wo.heap.size ∧ N ≤ 100000) := Lib.hid (by have := X3.out.wi.lt; have := LO.out.g.lt; have := HM14.out; have := HN.out; omega)
    have HG1 : Hid (LiteralsP q.ps v l w (.returned (.tuple #[.slice (some ⟨w3.heap.size, 1, none⟩) (N - 1 : Nat) (N - 1 : Nat), .int .i64 0])) wo) := Lib.hid (by
     refine ⟨some ⟨w3.heap.size, 1, none⟩, N - 1, ?_, ?_, ?_, ?_, HBZ.out⟩
     ·rw [HLL.out, ← HZ.out]
     ·rw [HLL.out, HFIN.out]
      exact HT2.out.more fun k hk => by subst hk; exact ⟨HW3.out.1, HW3.out.2.1⟩
     ·rw [HLL.out]; exact Nat.le_refl _
     ·have := HW3.out.2.2; unfold maxLen; omega)
    have HG2 : Hid (N = 1 → LiteralsP q.ps v l w (.returned (.tuple #[.slice (some ⟨w3.heap.size, 0, none⟩) 0 0, .int .i64 0])) wo) := Lib.hid (fun h1 => by
     have h0 : litL q.ps v l = [] := List.eq_nil_of_length_eq_zero (by rw [HLL.out, h1])
     refine ⟨some ⟨w3.heap.size, 0, none⟩, 0, ?_, ?_, ?_, Nat.zero_le _, HBZ.out⟩
     ·rw [h0, ← HZ.out]; rfl
     ·rw [h0]; exact RInts.nil_
     ·rw [h0]; exact Nat.le_refl _)
    clear HMDL HFIN HLL HBZ HT2 HW3
    go_wp2
    all_goals go_ret2
    all_goals first | exact HG1.out | exact HG2.out (by omega)
 ·have HE : Hid (validE ps v l = z) := Lib.hid HZ.out.symm
  have h0b : (z == 0) = false := by simpa using h0
  go_wp2
  go_ret2
  exact LiteralsP.err h0 HE.out X2.out.bel
end Go.Proofs.YtedbhlgjcnnknaaGreatDoor

/- Walks: slices.Equal. -/
namespace Go.Proofs.YtedbhlgjcnnknaaGreatDoor
open Go.RowKit

theorem take_eq_succ {α : Type} [DecidableEq α] {xs ys : List α} {k : Nat} (d : α) (h1 : k < xs.length) (h2 : k < ys.length) (h : xs.take k = ys.take k) (he : xs.getD k d = ys.getD k d) : xs.take (k+1) = ys.take (k+1) := by
 rw [List.take_succ_eq_append_getElem h1, List.take_succ_eq_append_getElem h2, h]
 simp [List.getD, h1, h2] at he
 rw [he]
theorem eq_of_take_all {α : Type} {xs ys : List α} {n : Nat} (h1 : xs.length = n) (h2 : ys.length = n) (h : xs.take n = ys.take n) : xs = ys := by
 rwa [List.take_of_length_le (by omega), List.take_of_length_le (by omega)] at h
theorem ne_of_getD {α : Type} {xs ys : List α} {k : Nat} (d : α) (h : xs.getD k d ≠ ys.getD k d) : xs ≠ ys := fun e => h (by rw [e])

set_option maxHeartbeats 400000 in
theorem equal_int (A A' : Option Addr) (n n' c c' : Nat) (xs ys : List Int) (w : World) (S : Nat → Prop) (hx : RInts w S A n xs) (hy : RInts w S A' n' ys) (hn : n ≤ maxLen) (hn' : n' ≤ maxLen) :
  Calls Tryz.prog 32 #[.slice A n c, .slice A' n' c'] w fun e w' => e = .returned (.bool (xs == ys)) ∧ ∃ nq, w' = w.drewN nq := by
 unfold maxLen at hn hn'
 have hl := Lib.hid hx.len
 have hl' := Lib.hid hy.len
 by_cases hne : n = n'
 ·subst hne
  have h0 : ((n : Int) != (n : Int)) = false := by simp
  go_enter Tryz.func32, Tryz.ntmps32
  go_wp2
  go_loopw [13] (fun i wr => ∃ k : Nat, k ≤ n ∧ i = .int .i64 k ∧ Hid (xs.take k = ys.take k) ∧ ∃ nq, wr = w.drewN nq) (fun i _ => n - (intOf i).toNat)
  case atStart => exact ⟨0, Nat.zero_le _, rfl, by exact rfl, 0, rfl⟩
  case round =>
   obtain ⟨k, hk, rfl, Ht, nq, rfl⟩ := hrel
   by_cases hlt : k < n
   ·obtain ⟨b, o, rfl, hb, hc⟩ := hx.at_ hlt
    obtain ⟨b', o', rfl, hb', hc'⟩ := hy.at_ hlt
    generalize hu : xs.getD k 0 = u at hc
    generalize hv : ys.getD k 0 = v at hc'
    have Hu := Lib.hid hu; clear hu
    have Hv := Lib.hid hv; clear hv
    by_cases huv : u = v
    ·have h1 : (u != v) = false := by simpa using huv
     have Huv := Lib.hid huv; clear huv
     go_wp2
     go_quiet (fail)
     go_wp2
     go_roundw
     case rel => exact ⟨k + 1, by omega, by go_num, take_eq_succ 0 (by rw [hl.out]; exact hlt) (by rw [hl'.out]; exact hlt) Ht.out (by rw [Hu.out, Hv.out, Huv.out]), _, (by first | rfl | exact World.drewN_drewN _ _ _)⟩
     case measure => simp [intOf]; omega
    ·have h1 : (u != v) = true := by simpa using huv
     go_wp2
     go_quiet (fail)
     go_wp2
     go_ret
     exact ⟨ret_bool (by symm; rw [beq_eq_false_iff_ne]; exact ne_of_getD 0 (by rw [Hu.out, Hv.out]; exact huv)), _, (by first | rfl | exact World.drewN_drewN _ _ _)⟩
   ·have h1 : k = n := by omega
    subst h1
    go_wp2
    go_ret
    exact ⟨ret_bool (by symm; rw [beq_iff_eq]; exact eq_of_take_all hl.out hl'.out Ht.out), _, rfl⟩
 ·have h0 : ((n : Int) != (n' : Int)) = true := by rw [bne_iff_ne]; omega
  go_enter Tryz.func32, Tryz.ntmps32
  go_wp2
  go_ret
  exact ⟨ret_bool (by symm; rw [beq_eq_false_iff_ne]; intro e; exact hne (by rw [← hl.out, ← hl'.out, e])), 0, rfl⟩
end Go.Proofs.YtedbhlgjcnnknaaGreatDoor

/- slices.Equal of []bool, walked. -/
namespace Go.Proofs.YtedbhlgjcnnknaaGreatDoor
open Go.RowKit

set_option maxHeartbeats 400000 in
theorem equalB_any (A A' : Option Addr) (n n' c c' : Nat) (xs ys : List Bool) (w : World) (S : Nat → Prop) (hx : RBools w S A n xs) (hy : RBools w S A' n' ys) (hn : n ≤ maxLen) (hn' : n' ≤ maxLen) :
    Calls Tryz.prog 55 #[.slice A n c, .slice A' n' c'] w fun e w' => e = .returned (.bool (xs == ys)) ∧ ∃ nq, w' = w.drewN nq := by
  unfold maxLen at hn hn'
  have hl := Lib.hid hx.len
  have hl' := Lib.hid hy.len
  by_cases hne : n = n'
  · subst hne
    have h0 : ((n : Int) != (n : Int)) = false := by simp
    go_enter Tryz.func55, Tryz.ntmps55
    go_wp2
    go_loopw [13] (fun i wr => ∃ k : Nat, k ≤ n ∧ i = .int .i64 k ∧ Hid (xs.take k = ys.take k) ∧ ∃ nq, wr = w.drewN nq) (fun i _ => n - (intOf i).toNat)
    case atStart => exact ⟨0, Nat.zero_le _, rfl, by exact rfl, 0, rfl⟩
    case round =>
      obtain ⟨k, hk, rfl, Ht, nq, rfl⟩ := hrel
      by_cases hlt : k < n
      · obtain ⟨b, o, rfl, hb, hc⟩ := hx.at_ hlt
        obtain ⟨b', o', rfl, hb', hc'⟩ := hy.at_ hlt
        generalize hu : xs.getD k false = u at hc
        generalize hv : ys.getD k false = v at hc'
        have Hu := Lib.hid hu; clear hu
        have Hv := Lib.hid hv; clear hv
        cases u <;> cases v
        all_goals
          first
            | (have Huv : Hid (xs.getD k false = ys.getD k false) := by rw [Hu.out, Hv.out]; exact rfl
               go_wp2
               go_quiet (fail)
               go_wp2
               go_roundw
               case rel => exact ⟨k + 1, by omega, by go_num, take_eq_succ false (by rw [hl.out]; exact hlt) (by rw [hl'.out]; exact hlt) Ht.out Huv.out, _, (by first | rfl | exact World.drewN_drewN _ _ _)⟩
               case measure => simp [intOf]; omega)
            | (have Huv : Hid (xs.getD k false ≠ ys.getD k false) := by show _ ≠ _; rw [Hu.out, Hv.out]; intro h; cases h
               go_wp2
               go_quiet (fail)
               go_wp2
               go_ret
               exact ⟨ret_bool (by symm; rw [beq_eq_false_iff_ne]; exact ne_of_getD false Huv.out), _, (by first | rfl | exact World.drewN_drewN _ _ _)⟩)
      · have h1 : k = n := by omega
        subst h1
        go_wp2
        go_ret
        exact ⟨ret_bool (by symm; rw [beq_iff_eq]; exact eq_of_take_all hl.out hl'.out Ht.out), _, rfl⟩
  · have h0 : ((n : Int) != (n' : Int)) = true := by rw [bne_iff_ne]; omega
    go_enter Tryz.func55, Tryz.ntmps55
    go_wp2
    go_ret
    exact ⟨ret_bool (by symm; rw [beq_eq_false_iff_ne]; intro e; exact hne (by rw [← hl.out, ← hl'.out, e])), 0, rfl⟩

end Go.Proofs.YtedbhlgjcnnknaaGreatDoor

/- Lists held against each other, element by element. -/
namespace Go.Proofs.YtedbhlgjcnnknaaGreatDoor
open Go.RowKit Qm
def eqL {α : Type} (sm : α → α → Bool) : List α → List α → Bool
 | [], [] => true
 | x :: r, y :: s => sm x y && eqL sm r s
 | _, _ => false
theorem eqL_len {α : Type} {sm : α → α → Bool} : ∀ {xs ys : List α}, xs.length ≠ ys.length → eqL sm xs ys = false
 | [], [], h => absurd rfl h
 | [], _ :: _, _ => rfl
 | _ :: _, [], _ => rfl
 | x :: r, y :: s, h => by
  simp only [eqL]
  rw [eqL_len (by simpa using h), Bool.and_false]
theorem eqL_step {α : Type} {sm : α → α → Bool} {xs ys : List α} {j : Nat} {x y : α} (hx : xs[j]? = some x) (hy : ys[j]? = some y) : eqL sm (xs.drop j) (ys.drop j) = (sm x y && eqL sm (xs.drop (j + 1)) (ys.drop (j + 1))) := by
 obtain ⟨h1, rfl⟩ := List.getElem?_eq_some_iff.1 hx
 obtain ⟨h2, rfl⟩ := List.getElem?_eq_some_iff.1 hy
 rw [List.drop_eq_getElem_cons h1, List.drop_eq_getElem_cons h2]
 rfl
def AsksEq {α : Type} (P : Program) (w : World) (F : FuncId) (R : List Value → α → Prop) (sm : α → α → Bool) : Prop :=
 (∀ (args : Array Value) (W : World), (callFunc F args).run P W = .ok (.enter F args) W) ∧
  ∀ (x y : α) (cx cy : List Value) (W : World), Below w.heap.size w W → R cx x → R cy y → Calls P F #[.agg cx.toArray, .agg cy.toArray] W fun e w' => e = .returned (.bool (sm x y)) ∧ Below W.heap.size W w'
end Go.Proofs.YtedbhlgjcnnknaaGreatDoor

/- slices.EqualFunc of slices whose elements have 2 cells. (Printed by wip/bin/mkeqf.py.) -/
namespace Go.Proofs.YtedbhlgjcnnknaaGreatDoor
open Go.RowKit Qm

def Shape_M (x : List Value) : Prop := ∃ (x0 : Int) (x1a : Option Addr) (x1n x1c : Nat), x = [.int .i64 x0, .slice x1a x1n x1c]
set_option maxRecDepth 100000 in
set_option maxHeartbeats 3200000 in
theorem equalF_M {α : Type} (R : List Value → α → Prop) (sm : α → α → Bool) (A B : Option Addr) (n c m d : Nat) (xs ys : List α) (F : FuncId) (w : World) (S : Nat → Prop) (hK : RSeq 2 R w S A n xs) (hL : RSeq 2 R w S B m ys) (hS : ∀ k, S k → k < w.heap.size) (hn : n ≤ maxLen) (hm : m ≤ maxLen) (hF : AsksEq Tryz.prog w F R sm) (hsh : ∀ x y, R x y → Shape_M x) :
  Calls Tryz.prog 53 #[.slice A n c, .slice B m d, .func (.func F) #[] #[]] w fun e w' => e = .returned (.bool (eqL sm xs ys)) ∧ Below w.heap.size w w' := by
 unfold maxLen at hn hm
 have HK := Lib.hid hK; have HL := Lib.hid hL; have HS := Lib.hid hS; have HF := Lib.hid hF; clear hK hL hS hF
 by_cases hnm : n = m
 ·subst hnm
  go_enter Tryz.func53, Tryz.ntmps53
  go_wp2
  go_loopg [17] n (fun g iv wr => ∃ (j : Nat), Hid (j + g = n) ∧ iv = .int .i64 j ∧ Hid (eqL sm xs ys = eqL sm (xs.drop j) (ys.drop j)) ∧ Below w.heap.size w wr)
  case atStart => exact ⟨0, Lib.hid (Nat.zero_add _), rfl, Lib.hid rfl, Below.refl _ _⟩
  case round =>
   obtain ⟨j, Hj, rfl, Hcl, hb⟩ := hrel
   have HBr := Lib.hid hb; clear hb
   by_cases hj : j < n
   ·obtain ⟨b, o, x, y, rfl, hb, hy, hxy, hxl, hcell⟩ := (HK.out.keep (w' := wr) (fun p hp => HBr.out.cell (HS.out _ hp)) fun _ _ h => h).at_ hj (by decide)
    obtain ⟨b', o', x', y', rfl, hb', hy', hxy', hxl', hcell'⟩ := (HL.out.keep (w' := wr) (fun p hp => HBr.out.cell (HS.out _ hp)) fun _ _ h => h).at_ hj (by decide)
    have Hdr : Hid (eqL sm (xs.drop j) (ys.drop j) = (sm y y' && eqL sm (xs.drop (j + 1)) (ys.drop (j + 1)))) := Lib.hid (eqL_step hy hy')
    have hlt : b' < wr.heap.size := Nat.lt_of_lt_of_le (HS.out _ hb') HBr.out.size
    obtain ⟨x0, x1a, x1n, x1c, rfl⟩ := hsh _ _ hxy
    obtain ⟨y0, y1a, y1n, y1c, rfl⟩ := hsh _ _ hxy'
    have g0 := hcell 0 (by omega); have g1 := hcell 1 (by omega)
    have k0 := hcell' 0 (by omega); have k1 := hcell' 1 (by omega)
    simp only [List.getElem?_cons_zero, List.getElem?_cons_succ, Nat.add_zero] at g0 g1 k0 k1
    clear hcell hcell' hy hy'
    have hW1 : Below wr.heap.size wr ((wr.alloc (.cells #[.int .i64 x0, .slice x1a x1n x1c] 85)).alloc (.cells #[.int .i64 y0, .slice y1a y1n y1c] 85)) := ((Below.refl _ wr).alloc (Nat.le_refl _) _).alloc (by simp) _
    have hcall := HF.out.2 _ _ _ _ _ (HBr.out.trans (hW1.mono HBr.out.size)) hxy hxy'
    have henter := HF.out.1
    have HB2 := Lib.hid (HBr.out.trans (hW1.mono HBr.out.size))
    clear hW1 hxy hxy' hxl hxl'
    generalize sm y y' = q at hcall Hdr
    have Hcall := Lib.hid hcall; clear hcall
    cases q
    ·go_wp2_with fail
     refine Hcall.out.mono ?_
     rintro e w' ⟨rfl, hb'⟩
     have HB3 := Lib.hid (HB2.out.trans (hb'.mono HB2.out.size)); clear hb'
     go_wp2_with fail
     go_ret
     exact ⟨ret_bool (by rw [Hcl.out, Hdr.out]; rfl), HB3.out⟩
    ·go_wp2_with fail
     refine Hcall.out.mono ?_
     rintro e w' ⟨rfl, hb'⟩
     have HB3 := Lib.hid (HB2.out.trans (hb'.mono HB2.out.size)); clear hb'
     go_wp2_with fail
     go_roundg (gk - 1)
     case measure => have := Hj.out; omega
     case rel => exact ⟨j + 1, Lib.hid (by have := Hj.out; omega), by go_num, Lib.hid (by rw [Hcl.out, Hdr.out, Bool.true_and]), HB3.out⟩
   ·go_wp2_with fail
    go_ret
    refine ⟨ret_bool ?_, HBr.out⟩
    rw [Hcl.out, List.drop_of_length_le (by have := HK.out.len; omega), List.drop_of_length_le (by have := HL.out.len; omega)]; rfl
 ·have e1 : ((n : Int) != (m : Int)) = true := by simp; omega
  have e2 : ((n : Int) == (m : Int)) = false := by simp; omega
  have HE : Hid (eqL sm xs ys = false) := Lib.hid (eqL_len (by have := HK.out.len; have := HL.out.len; omega))
  go_enter Tryz.func53, Tryz.ntmps53
  go_wp2
  go_ret
  exact ⟨ret_bool HE.out.symm, Below.refl _ _⟩
end Go.Proofs.YtedbhlgjcnnknaaGreatDoor

/- Sets of members held against each other: tree.SameSet, quartermasterref.SameSet, walked. -/
namespace Go.Proofs.YtedbhlgjcnnknaaGreatDoor
open Go.RowKit Qm

def sameMem (x y : Mem) : Bool := decide (x.pl = y.pl) && (x.on == y.on)
set_option maxHeartbeats 3200000 in
theorem sameMemr_any (x y : Mem) (S : Nat → Prop) (cx cy : List Value) (w : World) (hx : RMem w S cx x) (hy : RMem w S cy y) (hS : ∀ k, S k → k < w.heap.size) :
  Calls Tryz.prog 70 #[.agg cx.toArray, .agg cy.toArray] w fun e w' => e = .returned (.bool (sameMem x y)) ∧ Below w.heap.size w w' := by
 obtain ⟨A, n, c, rfl, hn, hc, hon⟩ := hx
 obtain ⟨B, m, d, rfl, hm, hd, hon'⟩ := hy
 have hbx : Below w.heap.size w ((w.alloc (.cells #[.int .i64 x.pl, .slice A n c] 85)).alloc (.cells #[.int .i64 y.pl, .slice B m d] 85)) := ((Below.refl _ w).alloc (Nat.le_refl _) _).alloc (by simp) _
 have heq := equalB_any A B n m c d x.on y.on _ S (Row.keep hon fun p hp => hbx.cell (hS _ hp)) (Row.keep hon' fun p hp => hbx.cell (hS _ hp)) (Nat.le_trans hn hc) (Nat.le_trans hm hd)
 have HC : Hid (sameMem x y = (decide (x.pl = y.pl) && (x.on == y.on))) := Lib.hid rfl
 obtain ⟨pl, on⟩ := x
 obtain ⟨pl', on'⟩ := y
 dsimp only at heq HC hbx
 generalize sameMem ⟨pl, on⟩ ⟨pl', on'⟩ = R at HC ⊢
 generalize (on == on') = q at heq HC
 have Heq := Lib.hid heq
 have HB := Lib.hid hbx
 clear heq hbx hon hon' hS
 by_cases hp : pl = pl'
 ·subst hp
  have hpp : (pl == pl) = true := by simp
  have HR : Hid (R = q) := Lib.hid (by rw [HC.out, decide_eq_true rfl, Bool.true_and])
  clear HC
  go_enter Tryz.func70, Tryz.ntmps70
  go_wp2_with (first | (go_at_call 55; refine Heq.out.mono ?_; rintro e w3 ⟨rfl, nq, rfl⟩; refine Hid.out ?_))
  refine Lib.hid ?_
  go_wp2
  go_ret
  exact ⟨ret_bool (by rw [HR.out]), below_drewN HB.out _⟩
 ·have hpp : (pl == pl') = false := by simpa using hp
  have HR : Hid (R = false) := Lib.hid (by rw [HC.out, decide_eq_false hp, Bool.false_and])
  clear HC hp
  go_enter Tryz.func70, Tryz.ntmps70
  go_wp2
  go_ret
  exact ⟨ret_bool (by rw [HR.out]), HB.out⟩
set_option maxHeartbeats 3200000 in
theorem sameSetr_any (xs ys : List Mem) (S : Nat → Prop) (A B : Option Addr) (n c m d : Nat) (w : World) (hT : RSet w S A n xs) (hU : RSet w S B m ys) (hS : ∀ k, S k → k < w.heap.size) (hn : n ≤ maxLen) (hm : m ≤ maxLen) :
  Calls Tryz.prog 24 #[.slice A n c, .slice B m d] w fun e w' => e = .returned (.bool (eqL sameMem xs ys)) ∧ Below w.heap.size w w' := by
 have hq := equalF_M (RMem w S) sameMem A B n c m d xs ys 70 w S hT hU hS hn hm
  ⟨fun args W => by kernel_rfl, fun x y cx cy W hb hx hy => sameMemr_any x y S cx cy W (hx.under hb hS) (hy.under hb hS) (fun k hk => Nat.lt_of_lt_of_le (hS k hk) hb.size)⟩
  (fun x y h => by obtain ⟨A, n, c, rfl, _⟩ := h; exact ⟨_, _, _, _, rfl⟩)
 generalize eqL sameMem xs ys = q at hq ⊢
 have Hq := Lib.hid hq
 clear hq hT hU hS
 go_enter Tryz.func24, Tryz.ntmps24
 go_wp2_with (first | (go_at_call 53; refine Hq.out.mono ?_; rintro e w3 ⟨rfl, hb3⟩; refine Hid.out ?_))
 refine Lib.hid ?_
 have HB3 := Lib.hid hb3
 clear hb3
 go_wp2
 go_ret
 exact ⟨rfl, HB3.out⟩
end Go.Proofs.YtedbhlgjcnnknaaGreatDoor

/- A block that is known whole, read as elements of K cells. -/
namespace Go.Proofs.YtedbhlgjcnnknaaGreatDoor
open Go.RowKit Qm

theorem flat_lenG {K : Nat} : ∀ {cs : List (List Value)}, (∀ x ∈ cs, x.length = K) → cs.flatten.length = cs.length * K
 | [], _ => by simp
 | c :: r, h => by
  have := flat_lenG (K := K) (cs := r) fun x hx => h x (List.mem_cons_of_mem _ hx)
  have h0 := h c (List.mem_cons_self ..)
  rw [List.flatten_cons, List.length_append, this, h0, List.length_cons, Nat.succ_mul]; omega
theorem RSeq.whole {α : Type} {K : Nat} {R : List Value → α → Prop} {w : World} {S : Nat → Prop} {b n : Nat} {t : TypeId} (cs : List (List Value)) (ys : List α) (h : Whole w b t cs.flatten) (hl : ys.length = n) (hn : cs.length = n) (hK : ∀ x ∈ cs, x.length = K)
  (hR : ∀ (j : Nat) (x : List Value) (y : α), cs[j]? = some x → ys[j]? = some y → R x y) (hb : S b) : RSeq K R w S (some ⟨b, 0, none⟩) n ys :=
 ⟨cs, hl, hn, h.row hb (by rw [flat_lenG hK, hn]), hK, hR⟩
end Go.Proofs.YtedbhlgjcnnknaaGreatDoor
