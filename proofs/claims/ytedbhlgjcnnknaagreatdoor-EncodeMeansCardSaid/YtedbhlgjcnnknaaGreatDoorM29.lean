/- Parts of the proof: walks and plain laws, side by side. -/
import Derived.Test.YtedbhlgjcnnknaaGreatDoorM28
import Derived.BigQuiet
import Derived.Test.YtedbhlgjcnnknaaGreatDoorM27
import Derived.Test.YtedbhlgjcnnknaaGreatDoorM24
import Derived.Test.YtedbhlgjcnnknaaGreatDoorM25
set_option linter.unusedVariables false
set_option linter.unusedSimpArgs false
set_option linter.unusedSectionVars false
namespace Go.Proofs.YtedbhlgjcnnknaaGreatDoor
/- encode.Literals, walked. -/
section
open Go.RowKit Qm

def litL (ps : List Pk) (v : Ws) (l : List Mem) : List Int := if validE ps v l = 0 then litsB (chVec ps v l) else []
def LiteralsP (ps : List Pk) (v : Ws) (l : List Mem) (w : World) (e : Ending) (w' : World) : Prop :=
 ∃ A c, e = .returned (.tuple #[.slice A (litL ps v l).length c, .int .i64 (validE ps v l)]) ∧ RInts w' (fun k => w.heap.size ≤ k ∧ k < w'.heap.size) A (litL ps v l).length (litL ps v l) ∧ (litL ps v l).length ≤ c ∧ c ≤ maxLen ∧ Below w.heap.size w w'
theorem LiteralsP.err {ps : List Pk} {v : Ws} {l : List Mem} {w w' : World} {z : Int} (hz : z ≠ 0) (he : validE ps v l = z) (hb : Below w.heap.size w w') : LiteralsP ps v l w (.returned (.tuple #[.slice none 0 0, .int .i64 z])) w' := by
 have hl : litL ps v l = [] := by unfold litL; rw [if_neg (by rw [he]; exact hz)]
 exact ⟨none, 0, by rw [hl, he]; rfl, by rw [hl]; exact RInts.nil_, by rw [hl]; exact qr _, Nat.zero_le _, hb⟩
def LiteralsQ (ps : List Pk) (v : Ws) (l : List Mem) (w : World) (e : Ending) (w' : World) : Prop :=
 LiteralsP ps v l w e w' ∧ ∀ A n c z, e = .returned (.tuple #[.slice A n c, z]) → 0 < n → ∃ g d, A = some ⟨g, 1, none⟩ ∧ w.heap.size ≤ g ∧ Whole w' g 3 (d :: (litL ps v l).map (.int .i64))
theorem LiteralsQ.none_ {ps : List Pk} {v : Ws} {l : List Mem} {w w' : World} {B : Option Addr} {k : Nat} {x : Value} (h : LiteralsP ps v l w (.returned (.tuple #[.slice B 0 k, x])) w') : LiteralsQ ps v l w (.returned (.tuple #[.slice B 0 k, x])) w' :=
 ⟨h, fun A n c z e h0 => by simp at e; omega⟩
structure Lb (w : World) (A : Option Addr) (n c : Nat) (wv : List Value) (wx : World) : Prop where
 t : Whole wx w.heap.size 24 [.slice A n c]
 wi : Whole wx (w.heap.size + 1) 30 wv
 bel : Below w.heap.size w wx
section
variable {w : World} {A : Option Addr} {n c : Nat} {wv : List Value} {wx wy : World}
theorem Lb.below {B : Nat} (h : Lb w A n c wv wx) (hb : Below B wx wy) (hB : w.heap.size + 1 < B) : Lb w A n c wv wy :=
 ⟨h.t.below hb (by omega), h.wi.below hb (by omega), h.bel.trans (hb.mono (by omega))⟩
theorem Lb.move (h : Lb w A n c wv wx) (hb : Below wx.heap.size wx wy) : Lb w A n c wv wy := h.below hb h.wi.lt
theorem Lb.new (w : World) (A : Option Addr) (n c : Nat) (wv : List Value) : Lb w A n c wv ((w.alloc (.cells #[.slice A n c] 24)).alloc (.cells wv.toArray 30)) :=
 ⟨(Whole.new w _ _ [_] rfl).alloc _, Whole.new (w.alloc (.cells #[.slice A n c] 24)) (w.heap.size + 1) _ wv (by simp), ((Below.refl _ w).alloc (qr _) _).alloc (by simp) _⟩
end
theorem make_intsN (n : Nat) (hn : n ≤ 100000) (w : World) {x : Int} (hx : x = n) : (Instr.makeSlice 27 (.int .i64 x) (.int .i64 x)).run Tryz.prog w = .ok (.slice (some ⟨w.heap.size, 0, none⟩) n n) (w.alloc (.cells ((List.range n).map fun _ => Value.int .i64 0).toArray 3)) := by
 subst hx; exact make_intsE n hn w
structure Lst (w3 : World) (N : Nat) (md : List Int) (wr : World) : Prop where
 bm : Whole wr (w3.heap.size + 1) 27 [.slice (some ⟨w3.heap.size, 0, none⟩) N N]
 g : Whole wr w3.heap.size 3 (md.map (.int .i64))
 bel : Below w3.heap.size w3 wr
section
variable {w3 : World} {N : Nat} {md : List Int} {wr wy : World}
theorem Lst.move (h : Lst w3 N md wr) (hb : Below wr.heap.size wr wy) : Lst w3 N md wy := ⟨h.bm.below hb h.bm.lt, h.g.below hb h.g.lt, h.bel.trans (hb.mono h.bel.size)⟩
theorem Lst.put (h : Lst w3 N md wr) (p : Nat) (x : Int) : Lst w3 N (md.set p x) (wr.setCell ⟨w3.heap.size, p, none⟩ (.int .i64 x)) :=
 ⟨h.bm.far (by show w3.heap.size + 1 ≠ w3.heap.size; omega) _, by rw [List.map_set]; exact h.g.set_ p _, h.bel.setCell (p := ⟨w3.heap.size, p, none⟩) (qr _) _⟩
theorem Lst.tail (h : Lst w3 N md wr) (hl : md.length = N) (hN : 1 ≤ N) : RInts wr (fun k => k = w3.heap.size) (some ⟨w3.heap.size, 1, none⟩) (N - 1) (md.drop 1) := by
 have h0 := h.g.ints (S := fun k => k = w3.heap.size) rfl hl
 have := Row.drop h0 (k := 1) (cap := N + 1) (by omega) (by omega)
 rw [if_neg (by omega)] at this
 unfold RInts; rw [List.map_drop]; exact this
theorem Lst.new (w3 : World) (N : Nat) : Lst w3 N ((List.range N).map fun _ => 0) ((w3.alloc (.cells ((List.range N).map fun _ => Value.int .i64 0).toArray 3)).alloc (.cells #[.slice (some ⟨w3.heap.size, 0, none⟩) N N] 27)) := by
 have h1 := (Whole.new w3 w3.heap.size 3 ((List.range N).map fun _ => Value.int .i64 0) rfl).alloc (.cells #[.slice (some ⟨w3.heap.size, 0, none⟩) N N] 27)
 refine ⟨Whole.new (w3.alloc (.cells ((List.range N).map fun _ => Value.int .i64 0).toArray 3)) (w3.heap.size + 1) _ [_] (by simp), by rw [List.map_map]; exact h1, ((Below.refl _ w3).alloc (qr _) _).alloc (by simp) _⟩
end
theorem onsX_at {X : Chs} {ps : List Pk} {i : Nat} (hip : i < ps.length) : (onsX X ps).getD i [] = (List.range (pkOf ps i).fs.length).map (X.on i) := by
 unfold onsX
 rw [List.getD_eq_getElem?_getD, List.getElem?_map, List.getElem?_range hip]; rfl
set_option maxRecDepth 100000 in
set_option maxHeartbeats 6400000 in
theorem literals_q (ps : List Pk) (v : Ws) (l : List Mem) (S : Nat → Prop) (A B : Option Addr) (n c q1 d1 : Nat) (A1 A2 A3 A4 : Option Addr) (n1 c1 n2 c2 n3 c3 n4 c4 : Nat) (w : World) (hT : RTree w S A n ps) (hnc : n ≤ c) (hc : c ≤ maxLen) (hV : WsAt w S A1 n1 c1 A2 n2 c2 A3 n3 c3 A4 n4 c4 v) (hL : RSet w S B q1 l) (hqd : q1 ≤ d1) (hd : d1 ≤ maxLen) (hS : ∀ k, S k → k < w.heap.size) :
  Calls Tryz.prog 13 #[.agg #[.slice A n c], .agg #[.slice A1 n1 c1, .slice A2 n2 c2, .slice A3 n3 c3, .slice A4 n4 c4], .slice B q1 d1] w (LiteralsQ ps v l w) := by
 have X0 := qh (Lb.new w A n c [.slice A1 n1 c1, .slice A2 n2 c2, .slice A3 n3 c3, .slice A4 n4 c4])
 have HT := qh hT; have HS := qh hS; have HW := qh hV; have HL := qh hL
 have HQL := qh hL.len
 have HCC := qh (And.intro hnc hc)
 have Hlt := qh (fun (wx : World) (hb : Below w.heap.size w wx) k hk => ql (HS.out k hk) hb.size)
 have Hva := qh (valid_any ps v l S A B n c q1 d1 A1 A2 A3 A4 n1 c1 n2 c2 n3 c3 n4 c4 _ (HT.out.under X0.out.bel HS.out) hnc hc (HW.out.under X0.out.bel HS.out) (HL.out.under X0.out.bel HS.out) hqd hd (Hlt.out _ X0.out.bel))
 have Hch := qh (fun (wx : World) (hb : Below w.heap.size w wx) => choices_any ps v S A n c A1 n1 c1 A2 n2 c2 A3 n3 c3 A4 n4 c4 wx (HT.out.under hb HS.out) hnc hc (HW.out.under hb HS.out) (Hlt.out _ hb))
 unfold maxLen at hc hd
 clear hT hV hS hL
 obtain ⟨z, hz⟩ : ∃ z, z = validE ps v l := ⟨_, rfl⟩
 rw [← hz] at Hva
 have HZ := qh hz
 clear hz
 go_enter Tryz.func13, Tryz.ntmps13
 go_wp2_with (first | (go_at_call 18; refine Hva.out.mono ?_; rintro e w2 ⟨rfl, hb2⟩; refine Hid.out ?_))
 refine qh ?_
 have X2 := qh (X0.out.move hb2)
 clear hb2 Hva X0
 by_cases h0 : z = 0
 ·subst h0
  have hwz : ckWish ps v = 0 := by
   have h := HZ.out
   unfold validE at h
   split at h
   ·rename_i h2; exact absurd h.symm h2
   ·rename_i h2; simpa using h2
  have hsz : ckSet ps l = 0 := by
   have h := HZ.out
   unfold validE at h
   rw [if_neg (by rw [hwz]; simp)] at h
   exact h.symm
  have HC2 := qh (Hch.out _ X2.out.bel hwz)
  have HSZ := qh hsz
  have t0 := X2.out.t.cell 0
  have v0 := X2.out.wi.cell 0; have v1 := X2.out.wi.cell 1; have v2 := X2.out.wi.cell 2; have v3 := X2.out.wi.cell 3
  have wlt := X2.out.wi.lt
  have tlt := X2.out.t.lt
  have HWZ := qh hwz
  simp only [qgz, qgs] at t0 v0 v1 v2 v3
  clear hwz hsz Hch
  go_wp2_with (first | (go_at_call 44; refine HC2.out.mono ?_; rintro e w3 ⟨q, hq1, hq2, hq3, hq4, hq5, hq6, hq7, rfl, hd3, hb3⟩; refine Hid.out ?_))
  refine qh ?_
  subst hq3 hq5
  have HX := qh hq6
  have X3 := qh (X2.out.move hb3)
  have HD3 := qh hd3
  have HLen := qh hd3.len
  have WP := qh (wish_parts HWZ.out)
  have hmany : manyC q.ps ≤ 14 := (tree_parts WP.out.tree).2.1
  obtain ⟨P, hs, HK⟩ := HD3.out
  have d3 := HK.blk.cell 3
  have dlt := HK.blk.lt
  simp only [qgz, qgs] at d3
  obtain ⟨MC, hMC⟩ : ∃ x, x = manyC q.ps := ⟨_, rfl⟩
  rw [← hMC] at d3 hmany
  have HMC := qh hMC
  obtain ⟨N, hN⟩ : ∃ x : Nat, x = MC + 1 := ⟨_, rfl⟩
  have hms := fun wx => make_intsN N (by omega) wx (x := (MC : Int) + 1) (by omega)
  have HN := qh hN
  have henter : ∀ (args : Array Value) (W : World), (callFunc 48 args).run Tryz.prog W = .ok (.enter 48 args) W := fun args W => by kernel_rfl
  have L4 := qh (Lst.new w3 N)
  have X4 := qh (X3.out.below L4.out.bel X3.out.wi.lt)
  have t0 := X3.out.t.cell 0
  have tlt := X3.out.t.lt
  have tlt2 : w.heap.size < w3.heap.size + 1 := by omega
  have h8 : q.n ≤ 8 := by rw [← HLen.out]; exact (tree_parts WP.out.tree).1
  have HA0 : Hid (Asg q.ps v l ((List.range N).map fun _ => 0) (Qp q.ps v 0)) := qh (by rw [hN, hMC]; exact Asg.start)
  simp only [List.getElem?_cons_zero] at t0
  clear hd3 hb3 hq1 hq2 hq4 hq6 hq7 HC2 v0 v1 v2 v3 wlt X2 HK hMC hN
  go_wp2
  generalize (w3.alloc (.cells ((List.range N).map fun _ => Value.int .i64 0).toArray 3)).alloc (.cells #[.slice (some ⟨w3.heap.size, 0, none⟩) N N] 27) = w4 at L4 X4 ⊢
  clear t0 tlt tlt2
  have t0 := X4.out.t.cell 0
  have tlt := X4.out.t.lt
  simp only [List.getElem?_cons_zero] at t0
  go_wp2
  have HB4 : Hid (Below w4.heap.size w4 w4) := qh (Below.refl _ _)
  have tlt4 : w3.heap.size + 1 < w4.heap.size := L4.out.bm.lt
  have HLT4 := qh tlt4
  have HDI : Hid (DIn q.X q.ps ⟨MC, [], fun _ _ => 0⟩) := qh (by rw [HMC.out, HX.out]; exact DIn.start WP.out.ok)
  have HNZ : Hid (∀ i k, i < q.ps.length → k < (pkOf q.ps i).fs.length → q.X.on i k ≠ 0) := qh (fun i k hi hk => by rw [HX.out]; exact ((chW_ok WP.out.ok).on i hi k hk).1)
  have HNP : Hid (∀ i, i < q.ps.length → q.X.pick i ≠ 0) := qh (fun i hi => by rw [HX.out]; exact ((chW_ok WP.out.ok).pick i hi).1)
  have HM14 := qh hmany
  clear t0 tlt tlt4 d3 dlt hms hmany
  go_loopg [41] q.n (fun g iv wr => ∃ (i : Nat) (md : List Int), Hid (i + g = q.n) ∧ iv = .int .i64 i ∧ Hid (Lst w3 N md wr) ∧ Hid (Asg q.ps v l md (Qp q.ps v i)))
  case atStart => exact ⟨0, _, qh (Nat.zero_add _), rfl, L4, HA0⟩
  case round =>
   obtain ⟨g3, rfl⟩ : ∃ x : Nat, x = gk := ⟨_, rfl⟩
   obtain ⟨wo, rfl⟩ : ∃ x : World, x = wr := ⟨_, rfl⟩
   obtain ⟨i, md, Hi, rfl, LO, HA⟩ := hrel
   clear HB4
   by_cases hi : i < q.n
   ·have hip : i < q.ps.length := by rw [HLen.out]; exact hi
    have hi1 : (i : Int) < q.n := by omega
    have hal : Below wo.heap.size wo (wo.alloc (.cells #[.int .i64 (i : Int)] 3)) := (Below.refl _ wo).alloc (qr _) _
    have IX := qh (Whole.new wo wo.heap.size 3 [.int .i64 (i : Int)] rfl)
    have LX := qh (LO.out.move hal)
    have X5 := qh (X3.out.below LX.out.bel X3.out.wi.lt)
    have Hix := qh (indexF_M (RMem _ S) (fun m : Mem => decide (m.pl = (i : Int))) B q1 d1 l 50 #[.pointer (some ⟨wo.heap.size, 0, none⟩)] _ S (HL.out.under X5.out.bel HS.out) (Hlt.out _ X5.out.bel) (Nat.le_trans hqd hd) ⟨fun args W => by kernel_rfl, fun m hm cx W hW hR => by
     obtain ⟨A5, n5, c5, rfl, _⟩ := hR
     have hc := (IX.out.below hW IX.out.lt).cell 0
     simp only [List.getElem?_cons_zero] at hc
     exact litAt_any m.pl A5 n5 c5 wo.heap.size i W hc⟩ (fun x y hR => by obtain ⟨A5, n5, c5, rfl, _⟩ := hR; exact ⟨_, _, _, _, rfl⟩))
    clear hal
    go_wp2_with (first | (go_at_call 49; refine Hix.out.mono ?_; rintro e w5 ⟨rfl, hb5⟩; refine Hid.out ?_))
    refine qh ?_
    have L5 := qh (LX.out.move hb5)
    have hbd := below_drewN (Below.refl w5.heap.size w5) 1
    have LD := qh (L5.out.move hbd)
    have I5 := qh (IX.out.below hb5 IX.out.lt)
    have ID := qh (I5.out.below hbd I5.out.lt)
    have HMDL : Hid (md.length = N) := qh (by rw [HA.out.len, HN.out, HMC.out])
    obtain ⟨pb, po, hpA⟩ := HD3.out.pA (by omega)
    obtain ⟨c1, c2, c3, c4⟩ := (HD3.out.move L5.out.bel).pk hpA hi
    have hpn := HNP.out i hip
    have hpi := HDI.out.pick i hip
    dsimp only at hpi
    obtain ⟨x, hx⟩ : ∃ x, x = q.X.pick i := ⟨_, rfl⟩
    have HXI := qh hx
    rw [← hx] at c2 hpi hpn
    have hx0 : x ≠ 0 := hpn
    have hxN : x.natAbs < N := by have := HN.out; omega
    have i0 := I5.out.cell 0
    have ilt := I5.out.lt
    simp only [List.getElem?_cons_zero] at i0
    have hi0 : (0 : Int) ≤ (i : Int) := by omega
    have hpc : q.n ≤ q.pc := HD3.out.caps.2.1.1
    clear hb5 hbd hpn hpi hx Hix LX IX
    rcases atP_ix (l := l) (i := i) with ⟨hix, hat⟩ | ⟨k, m, hix, hlk, hat⟩
    ·rw [hix]
     have HAT := qh hat
     clear hix hat
     have Hset := qh (litSet_any x false (w3.heap.size + 1) w3.heap.size N _ LD.out.bm md LD.out.g HMDL.out hx0 hxN (by have := HM14.out; have := HN.out; omega))
     go_upto_region 11 with fail
     refine wp_region_held_drew (S := (fun w' => w'.cell? ⟨q.b, 1, none⟩ = some (.slice (some ⟨pb, po, none⟩) q.n q.pc) ∧ w'.cell? ⟨pb, po + i, none⟩ = some (.int .i64 x) ∧ w'.cell? ⟨wo.heap.size, 0, none⟩ = some (.int .i64 (i : Int)))) (by kernel_rfl) (⟨c1, c2, i0⟩) (fun hHeld => ?_)
     first | (refine tkA (v := ?_) held_at0 ?_ ?_; rotate_left; focus ((intro w_ hSw; (try dsimp only at hSw); go_simp; (try with_reducible rfl)); done)) | (refine tkB held_at0 ?_)
     (try simp only [Act.put, qsa, qsz, qss])
     first | (refine tkA (v := ?_) held_at1 ?_ ?_; rotate_left; focus ((intro w_ hSw; (try dsimp only at hSw); go_simp; (try with_reducible rfl)); done)) | (refine tkB held_at1 ?_)
     (try simp only [Act.put, qsa, qsz, qss])
     first | (refine tkA (v := ?_) held_at2 ?_ ?_; rotate_left; focus ((intro w_ hSw; (try dsimp only at hSw); go_simp; (try with_reducible rfl)); done)) | (refine tkB held_at2 ?_)
     (try simp only [Act.put, qsa, qsz, qss])
     first | (refine tkA (v := ?_) held_at3 ?_ ?_; rotate_left; focus ((intro w_ hSw; (try dsimp only at hSw); go_simp; (try with_reducible rfl)); done)) | (refine tkB held_at3 ?_)
     (try simp only [Act.put, qsa, qsz, qss])
     first | (refine tkA (v := ?_) held_at4 ?_ ?_; rotate_left; focus ((intro w_ hSw; (try dsimp only at hSw); go_simp; (try with_reducible rfl)); done)) | (refine tkB held_at4 ?_)
     (try simp only [Act.put, qsa, qsz, qss])
     first | (refine tkA (v := ?_) held_at5 ?_ ?_; rotate_left; focus ((intro w_ hSw; (try dsimp only at hSw); go_simp; (try with_reducible rfl)); done)) | (refine tkB held_at5 ?_)
     (try simp only [Act.put, qsa, qsz, qss])
     first | (refine tkA (v := ?_) held_at6 ?_ ?_; rotate_left; focus ((intro w_ hSw; (try dsimp only at hSw); go_simp; (try with_reducible rfl)); done)) | (refine tkB held_at6 ?_)
     (try simp only [Act.put, qsa, qsz, qss])
     first | (refine tkA (v := ?_) held_at7 ?_ ?_; rotate_left; focus ((intro w_ hSw; (try dsimp only at hSw); go_simp; (try with_reducible rfl)); done)) | (refine tkB held_at7 ?_)
     (try simp only [Act.put, qsa, qsz, qss])
     first | (refine tkA (v := ?_) held_at8 ?_ ?_; rotate_left; focus ((intro w_ hSw; (try dsimp only at hSw); go_simp; (try with_reducible rfl)); done)) | (refine tkB held_at8 ?_)
     (try simp only [Act.put, qsa, qsz, qss])
     first | (refine tkA (v := ?_) held_at9 ?_ ?_; rotate_left; focus ((intro w_ hSw; (try dsimp only at hSw); go_simp; (try with_reducible rfl)); done)) | (refine tkB held_at9 ?_)
     (try simp only [Act.put, qsa, qsz, qss])
     refine wpAnyH_ready (rs := [10]) (by kernel_rfl) (by simp) ?_
     refine AllReadyH.cons held_at10 (fun K hK => ?_) AllReadyH.nil
     (try simp only [qsa, qsz, qss])
     go_simp
     go_at_call 48
     refine Hset.out.mono ?_
     rintro e6 w6 ⟨rfl, hw6⟩
     have HY : Hid ((if (decide (0 < x) == false) = true then (x.natAbs : Int) else -(x.natAbs : Int)) = litV q.ps v l x.natAbs) := qh (by have := (litV_pick WP.out.ok (v := v) (l := l) hip (t := false) (by rw [HAT.out]; rfl)); rw [← HX.out, ← HXI.out] at this; exact this.symm)
     have L6 := qh (LD.out.put x.natAbs (if (decide (0 < x) == false) = true then (x.natAbs : Int) else -(x.natAbs : Int)))
     have I6 := qh (ID.out.far (p := ⟨w3.heap.size, x.natAbs, none⟩) (by show wo.heap.size ≠ w3.heap.size; have := LO.out.bm.lt; omega) (.int .i64 (if (decide (0 < x) == false) = true then (x.natAbs : Int) else -(x.natAbs : Int))))
     rw [← hw6] at L6 I6
     clear hw6 Hset
     have HA6 : Hid (Asg q.ps v l _ (Qf q.ps v i 0)) := qh ((HA.out.put (p := x.natAbs) (y := (if (decide (0 < x) == false) = true then (x.natAbs : Int) else -(x.natAbs : Int))) (by rw [← HMC.out, ← HN.out]; exact hxN) HY.out).mono fun y hy => by rw [HXI.out, HX.out]; exact Qf_zero hy)
     generalize md.set x.natAbs (if (decide (0 < x) == false) = true then (x.natAbs : Int) else -(x.natAbs : Int)) = md6 at L6 HA6
     obtain ⟨c1', c2', c3', c4'⟩ := (HD3.out.move L6.out.bel).pk hpA hi
     rw [← HXI.out] at c2'
     have i0' := I6.out.cell 0
     simp only [List.getElem?_cons_zero] at i0'
     refine hK.out _ _ (⟨c1', c2', i0'⟩) (fun hHeld => ?_)
     clear hK K
     (try simp only [Act.put, qsa, qsz, qss])
     refine wpAnyH_done (by kernel_rfl) ?_ _
     clear c1 c2 c3 c4 c1' c2' c3' c4' i0 hHeld
     obtain ⟨P6, hs6, hK6⟩ := (HD3.out.move L6.out.bel).cells
     have d2 := hK6.blk.cell 2
     have dlt := hK6.blk.lt
     have hoc5 : q.n ≤ q.oc := hK6.caps.2.2.1
     simp only [qgz, qgs] at d2
     clear hK6
     obtain ⟨P3, hs3, hK3⟩ := HD3.out.cells
     obtain ⟨b4, o4, A5, n5, c5, hoA, hbS4, hoc3, hor, hn5, hc5⟩ := hK3.st.ons.at_ hi
     rw [onsX_at hip] at hor
     have hn5l := hor.len
     simp only [List.length_map, List.length_range] at hn5l
     rw [hoA] at d2
     have hb43 : b4 < w3.heap.size := (hK3.s1 _ hbS4).2.1
     have hb4 : b4 < w6.heap.size := ql hb43 L6.out.bel.size
     have hoc := (L6.out.bel.cell (p := ⟨b4, o4 + i, none⟩) hb43).trans hoc3
     have HOR := qh hor
     have HS1 := qh (fun k hk => (hK3.s1 k hk).2.1)
     have HN5 := qh hn5l
     have hn14 : n5 ≤ 14 := by
      have h := flagsBef_mono (ps := q.ps) (i := i + 1) (j := q.ps.length) (by omega)
      have h2 := (tree_parts WP.out.tree).2.1
      unfold manyC at h2
      simp only [flagsBef] at h
      omega
     have i0 := I6.out.cell 0
     have ilt := I6.out.lt
     simp only [List.getElem?_cons_zero] at i0
     clear hK3 hoA hbS4 hor hn5 hc5 hn5l hoc3 hb43 hpA hpc LD ID L5 I5
     go_wp2
     go_quiet (fail)
     rename_i nq
     have L7 := qh (L6.out.move (below_drewN (Below.refl _ w6) nq))
     generalize w6.drewN nq = w7 at L7 ⊢
     clear d2 dlt hoc hb4 i0 ilt L6 I6
     go_wp2
     go_loopg [66] n5 (fun g iv wr => ∃ (kk : Nat) (mr : List Int), Hid (kk + g = n5) ∧ iv = .int .i64 kk ∧ Hid (Lst w3 N mr wr) ∧ Hid (Asg q.ps v l mr (Qf q.ps v i kk)))
     case atStart => exact ⟨0, _, qh (Nat.zero_add _), rfl, L7, HA6⟩
     case round =>
      obtain ⟨kk, mr, Hk, rfl, LR, HR⟩ := hrel
      clear L7 HA6
      by_cases hk : kk < n5
      ·obtain ⟨b6, o6, rfl, hbS6, hfc⟩ := (HOR.out.below LR.out.bel HS1.out).at_ hk
       have hkl : kk < (pkOf q.ps i).fs.length := by have := HN5.out; omega
       rw [getD_range hkl] at hfc
       have hb6 : b6 < wr.heap.size := ql (HS1.out _ hbS6) LR.out.bel.size
       have hob := HDI.out.on i kk hip hkl
       have hoz := HNZ.out i kk hip hkl
       dsimp only at hob
       obtain ⟨x2, hx2⟩ : ∃ x, x = q.X.on i kk := ⟨_, rfl⟩
       have HX2 := qh hx2
       rw [← hx2] at hfc hob hoz
       have hkn : (kk : Int) < n5 := by omega
       have hkk0 : (0 : Int) ≤ (kk : Int) := by omega
       have hx2N : x2.natAbs < N := by have := HN.out; omega
       have hx2b : -200000 ≤ x2 ∧ x2 ≤ 200000 := by have := HN.out; have := HM14.out; omega
       have HMR : Hid (mr.length = N) := qh (by rw [HR.out.len, HN.out, HMC.out])
       clear hbS6 hob hx2
       have hwr : IntKind.i64.wrap (-x2) = -x2 := IntWalk.i64_in _ (by omega)
       obtain ⟨y, hy⟩ : ∃ y : Nat, y = x2.natAbs := ⟨_, rfl⟩
       have hmx : max x2 (-x2) = (y : Int) := by omega
       have hyN : (y : Int) < N := by omega
       have hyn : y < N := by omega
       have hwy : IntKind.i64.wrap (-(y : Int)) = -(y : Int) := IntWalk.i64_in _ (by omega)
       have m0 := LR.out.bm.cell 0
       have mlt := LR.out.bm.lt
       have gf := LR.out.g.free y
       have glt := LR.out.g.lt
       have hcy : -(max x2 (-x2)) = -(y : Int) := by omega
       have gc : wr.cell? ⟨w3.heap.size, y, none⟩ = some (.int .i64 (mr.getD y 0)) := by
        have hmr := HMR.out
        rw [LR.out.g.cell, List.getElem?_map, List.getElem?_eq_getElem (by omega), List.getD_eq_getElem?_getD, List.getElem?_eq_getElem (by omega)]; rfl
       simp only [List.getElem?_cons_zero] at m0
       have L8 := qh (LR.out.put y (-(y : Int)))
       have HA8 : Hid (Asg q.ps v l (mr.set y (-(y : Int))) (Qf q.ps v i (kk + 1))) := qh ((HR.out.put (p := y) (by rw [← HMC.out, ← HN.out]; exact hyn) (by rw [hy, HX2.out, HX.out]; exact (litV_off hip hkl HAT.out).symm)).mono fun z hz => by rw [hy, HX2.out, HX.out]; exact Qf_succ hz)
       clear hy hcy hx2N
       go_wp2
       go_roundg (gk - 1)
       case measure => have := Hk.out; omega
       case rel => exact ⟨kk + 1, _, qh (by have := Hk.out; omega), by go_num, L8, HA8⟩
      ·have hkn : ¬ (kk : Int) < n5 := by omega
       have HKE : Hid (kk = (pkOf q.ps i).fs.length) := qh (by have := HN5.out; have := Hk.out; omega)
       go_wp2
       go_roundg (g3 - 1)
       case measure => have := Hi.out; omega
       case rel => exact ⟨i + 1, mr, qh (by have := Hi.out; omega), by go_num, LR, qh (HR.out.mono fun y hy => by rw [HKE.out]; exact Qp_succ hy)⟩
    ·rw [hix]
     have HAT := qh hat
     have HLK := qh hlk
     have hk0 : (0 : Int) ≤ (k : Int) := by omega
     have hkq : k < q1 := by rw [← HQL.out]; exact (List.getElem?_eq_some_iff.1 hlk).1
     have hkqi : (k : Int) < q1 := by omega
     have HOK : Hid (m.on.length = (pkOf q.ps i).fs.length) := qh (by
      have h1 := ckMs_mem (ckSet_zero HSZ.out).2 m (List.mem_of_getElem? hlk)
      have h2 := List.find?_some hat
      have h3 : m.pl = (i : Int) := of_decide_eq_true h2
      rw [h1.2.2, h3])
     clear hix hat hlk
     have Hset := qh (litSet_any x true (w3.heap.size + 1) w3.heap.size N _ LD.out.bm md LD.out.g HMDL.out hx0 hxN (by have := HM14.out; have := HN.out; omega))
     go_upto_region 11 with fail
     refine wp_region_held_drew (S := (fun w' => w'.cell? ⟨q.b, 1, none⟩ = some (.slice (some ⟨pb, po, none⟩) q.n q.pc) ∧ w'.cell? ⟨pb, po + i, none⟩ = some (.int .i64 x) ∧ w'.cell? ⟨wo.heap.size, 0, none⟩ = some (.int .i64 (i : Int)))) (by kernel_rfl) (⟨c1, c2, i0⟩) (fun hHeld => ?_)
     first | (refine tkA (v := ?_) held_at0 ?_ ?_; rotate_left; focus ((intro w_ hSw; (try dsimp only at hSw); go_simp; (try with_reducible rfl)); done)) | (refine tkB held_at0 ?_)
     (try simp only [Act.put, qsa, qsz, qss])
     first | (refine tkA (v := ?_) held_at1 ?_ ?_; rotate_left; focus ((intro w_ hSw; (try dsimp only at hSw); go_simp; (try with_reducible rfl)); done)) | (refine tkB held_at1 ?_)
     (try simp only [Act.put, qsa, qsz, qss])
     first | (refine tkA (v := ?_) held_at2 ?_ ?_; rotate_left; focus ((intro w_ hSw; (try dsimp only at hSw); go_simp; (try with_reducible rfl)); done)) | (refine tkB held_at2 ?_)
     (try simp only [Act.put, qsa, qsz, qss])
     first | (refine tkA (v := ?_) held_at3 ?_ ?_; rotate_left; focus ((intro w_ hSw; (try dsimp only at hSw); go_simp; (try with_reducible rfl)); done)) | (refine tkB held_at3 ?_)
     (try simp only [Act.put, qsa, qsz, qss])
     first | (refine tkA (v := ?_) held_at4 ?_ ?_; rotate_left; focus ((intro w_ hSw; (try dsimp only at hSw); go_simp; (try with_reducible rfl)); done)) | (refine tkB held_at4 ?_)
     (try simp only [Act.put, qsa, qsz, qss])
     first | (refine tkA (v := ?_) held_at5 ?_ ?_; rotate_left; focus ((intro w_ hSw; (try dsimp only at hSw); go_simp; (try with_reducible rfl)); done)) | (refine tkB held_at5 ?_)
     (try simp only [Act.put, qsa, qsz, qss])
     first | (refine tkA (v := ?_) held_at6 ?_ ?_; rotate_left; focus ((intro w_ hSw; (try dsimp only at hSw); go_simp; (try with_reducible rfl)); done)) | (refine tkB held_at6 ?_)
     (try simp only [Act.put, qsa, qsz, qss])
     first | (refine tkA (v := ?_) held_at7 ?_ ?_; rotate_left; focus ((intro w_ hSw; (try dsimp only at hSw); go_simp; (try with_reducible rfl)); done)) | (refine tkB held_at7 ?_)
     (try simp only [Act.put, qsa, qsz, qss])
     first | (refine tkA (v := ?_) held_at8 ?_ ?_; rotate_left; focus ((intro w_ hSw; (try dsimp only at hSw); go_simp; (try with_reducible rfl)); done)) | (refine tkB held_at8 ?_)
     (try simp only [Act.put, qsa, qsz, qss])
     first | (refine tkA (v := ?_) held_at9 ?_ ?_; rotate_left; focus ((intro w_ hSw; (try dsimp only at hSw); go_simp; (try with_reducible rfl)); done)) | (refine tkB held_at9 ?_)
     (try simp only [Act.put, qsa, qsz, qss])
     refine wpAnyH_ready (rs := [10]) (by kernel_rfl) (by simp) ?_
     refine AllReadyH.cons held_at10 (fun K hK => ?_) AllReadyH.nil
     (try simp only [qsa, qsz, qss])
     go_simp
     go_at_call 48
     refine Hset.out.mono ?_
     rintro e6 w6 ⟨rfl, hw6⟩
     have HY : Hid ((if (decide (0 < x) == true) = true then (x.natAbs : Int) else -(x.natAbs : Int)) = litV q.ps v l x.natAbs) := qh (by have := (litV_pick WP.out.ok (v := v) (l := l) hip (t := true) (by rw [HAT.out]; rfl)); rw [← HX.out, ← HXI.out] at this; exact this.symm)
     have L6 := qh (LD.out.put x.natAbs (if (decide (0 < x) == true) = true then (x.natAbs : Int) else -(x.natAbs : Int)))
     have I6 := qh (ID.out.far (p := ⟨w3.heap.size, x.natAbs, none⟩) (by show wo.heap.size ≠ w3.heap.size; have := LO.out.bm.lt; omega) (.int .i64 (if (decide (0 < x) == true) = true then (x.natAbs : Int) else -(x.natAbs : Int))))
     rw [← hw6] at L6 I6
     clear hw6 Hset
     have HA6 : Hid (Asg q.ps v l _ (Qf q.ps v i 0)) := qh ((HA.out.put (p := x.natAbs) (y := (if (decide (0 < x) == true) = true then (x.natAbs : Int) else -(x.natAbs : Int))) (by rw [← HMC.out, ← HN.out]; exact hxN) HY.out).mono fun y hy => by rw [HXI.out, HX.out]; exact Qf_zero hy)
     generalize md.set x.natAbs (if (decide (0 < x) == true) = true then (x.natAbs : Int) else -(x.natAbs : Int)) = md6 at L6 HA6
     obtain ⟨c1', c2', c3', c4'⟩ := (HD3.out.move L6.out.bel).pk hpA hi
     rw [← HXI.out] at c2'
     have i0' := I6.out.cell 0
     simp only [List.getElem?_cons_zero] at i0'
     refine hK.out _ _ (⟨c1', c2', i0'⟩) (fun hHeld => ?_)
     clear hK K
     (try simp only [Act.put, qsa, qsz, qss])
     refine wpAnyH_done (by kernel_rfl) ?_ _
     clear c1 c2 c3 c4 c1' c2' c3' c4' i0 hHeld
     obtain ⟨P6, hs6, hK6⟩ := (HD3.out.move L6.out.bel).cells
     have d2 := hK6.blk.cell 2
     have dlt := hK6.blk.lt
     have hoc5 : q.n ≤ q.oc := hK6.caps.2.2.1
     simp only [qgz, qgs] at d2
     clear hK6
     obtain ⟨P3, hs3, hK3⟩ := HD3.out.cells
     obtain ⟨b4, o4, A5, n5, c5, hoA, hbS4, hoc3, hor, hn5, hc5⟩ := hK3.st.ons.at_ hi
     rw [onsX_at hip] at hor
     have hn5l := hor.len
     simp only [List.length_map, List.length_range] at hn5l
     rw [hoA] at d2
     have hb43 : b4 < w3.heap.size := (hK3.s1 _ hbS4).2.1
     have hb4 : b4 < w6.heap.size := ql hb43 L6.out.bel.size
     have hoc := (L6.out.bel.cell (p := ⟨b4, o4 + i, none⟩) hb43).trans hoc3
     have HOR := qh hor
     have HS1 := qh (fun k hk => (hK3.s1 k hk).2.1)
     have HN5 := qh hn5l
     have hn14 : n5 ≤ 14 := by
      have h := flagsBef_mono (ps := q.ps) (i := i + 1) (j := q.ps.length) (by omega)
      have h2 := (tree_parts WP.out.tree).2.1
      unfold manyC at h2
      simp only [flagsBef] at h
      omega
     have i0 := I6.out.cell 0
     have ilt := I6.out.lt
     simp only [List.getElem?_cons_zero] at i0
     clear hK3 hoA hbS4 hor hn5 hc5 hn5l hoc3 hb43 hpA hpc LD ID L5 I5
     go_wp2
     go_quiet (fail)
     rename_i nq
     have L7 := qh (L6.out.move (below_drewN (Below.refl _ w6) nq))
     generalize w6.drewN nq = w7 at L7 ⊢
     clear d2 dlt hoc hb4 i0 ilt L6 I6
     go_wp2
     go_loopg [66] n5 (fun g iv wr => ∃ (kk : Nat) (mr : List Int), Hid (kk + g = n5) ∧ iv = .int .i64 kk ∧ Hid (Lst w3 N mr wr) ∧ Hid (Asg q.ps v l mr (Qf q.ps v i kk)))
     case atStart => exact ⟨0, _, qh (Nat.zero_add _), rfl, L7, HA6⟩
     case round =>
      obtain ⟨kk, mr, Hk, rfl, LR, HR⟩ := hrel
      clear L7 HA6
      by_cases hk : kk < n5
      ·obtain ⟨b6, o6, rfl, hbS6, hfc⟩ := (HOR.out.below LR.out.bel HS1.out).at_ hk
       have hkl : kk < (pkOf q.ps i).fs.length := by have := HN5.out; omega
       rw [getD_range hkl] at hfc
       have hb6 : b6 < wr.heap.size := ql (HS1.out _ hbS6) LR.out.bel.size
       have hob := HDI.out.on i kk hip hkl
       have hoz := HNZ.out i kk hip hkl
       dsimp only at hob
       obtain ⟨x2, hx2⟩ : ∃ x, x = q.X.on i kk := ⟨_, rfl⟩
       have HX2 := qh hx2
       rw [← hx2] at hfc hob hoz
       have hkn : (kk : Int) < n5 := by omega
       have hkk0 : (0 : Int) ≤ (kk : Int) := by omega
       have hx2N : x2.natAbs < N := by have := HN.out; omega
       have hx2b : -200000 ≤ x2 ∧ x2 ≤ 200000 := by have := HN.out; have := HM14.out; omega
       have HMR : Hid (mr.length = N) := qh (by rw [HR.out.len, HN.out, HMC.out])
       clear hbS6 hob hx2
       obtain ⟨mb, mo, m', B', kb, db, hBe, hbS, hm', hkd, hdm, hon, g0, g1⟩ := (HL.out.under ((X3.out.below LR.out.bel X3.out.wi.lt).bel) HS.out).at_ hkq
       rw [HLK.out] at hm'
       injection hm' with hm'
       subst hm'
       subst hBe
       have hbk : kb = n5 := by rw [← hon.len, HOK.out, HN5.out]
       subst hbk
       obtain ⟨b7, o7, rfl, hbS7, h7⟩ := hon.at_ hk
       rw [show m.on.getD kk false = onOf m.on kk from rfl] at h7
       have hmb : mb < wr.heap.size := ql (HS.out _ hbS) (X3.out.below LR.out.bel X3.out.wi.lt).bel.size
       have hb7 : b7 < wr.heap.size := ql (HS.out _ hbS7) (X3.out.below LR.out.bel X3.out.wi.lt).bel.size
       obtain ⟨ob, hob2⟩ : ∃ y, y = onOf m.on kk := ⟨_, rfl⟩
       have HOB := qh hob2
       rw [← hob2] at h7
       have Hset2 := qh (litSet_any x2 ob (w3.heap.size + 1) w3.heap.size N wr LR.out.bm mr LR.out.g HMR.out hoz hx2N (by have := HM14.out; have := HN.out; omega))
       have HA8 : Hid (Asg q.ps v l (mr.set x2.natAbs (if (decide (0 < x2) == ob) = true then (x2.natAbs : Int) else -(x2.natAbs : Int))) (Qf q.ps v i (kk + 1))) := qh ((HR.out.put (p := x2.natAbs) (by rw [← HMC.out, ← HN.out]; exact hx2N) (by rw [HOB.out, HX2.out, HX.out]; exact (litV_on hip hkl HAT.out).symm)).mono fun z hz => by rw [HX2.out, HX.out]; exact Qf_succ hz)
       have L8 := qh (LR.out.put x2.natAbs (if (decide (0 < x2) == ob) = true then (x2.natAbs : Int) else -(x2.natAbs : Int)))
       obtain ⟨yv, hyv⟩ : ∃ y : Int, y = (if (decide (0 < x2) == ob) = true then (x2.natAbs : Int) else -(x2.natAbs : Int)) := ⟨_, rfl⟩
       rw [← hyv] at Hset2 HA8 L8
       clear hyv
       have hqc : q1 ≤ d1 := hqd
       clear hon hob2 hbS hbS7 hoz hx2N
       go_wp2_with (first | (go_at_call 48; refine Hset2.out.mono ?_; rintro e8 w8 ⟨rfl, hw8⟩; have hw9 := hw8.symm; subst hw9; refine Hid.out ?_))
       refine qh ?_
       go_wp2
       go_roundg (gk - 1)
       case measure => have := Hk.out; omega
       case rel => exact ⟨kk + 1, _, qh (by have := Hk.out; omega), by go_num, L8, HA8⟩
      ·have hkn : ¬ (kk : Int) < n5 := by omega
       have HKE : Hid (kk = (pkOf q.ps i).fs.length) := qh (by have := HN5.out; have := Hk.out; omega)
       go_wp2
       go_roundg (g3 - 1)
       case measure => have := Hi.out; omega
       case rel => exact ⟨i + 1, mr, qh (by have := Hi.out; omega), by go_num, LR, qh (HR.out.mono fun y hy => by rw [HKE.out]; exact Qp_succ hy)⟩
   ·have hi1 : ¬ (i : Int) < q.n := by omega
    have HI : Hid (i = q.n) := qh (by have := Hi.out; omega)
    have m0 := LO.out.bm.cell 0
    have mlt := LO.out.bm.lt
    simp only [List.getElem?_cons_zero] at m0
    have hN1 : (1 : Int) ≤ N := by have := HN.out; omega
    have hN2 : 1 ≤ N := by omega
    have HMDL : Hid (md.length = N) := qh (by rw [HA.out.len, HN.out, HMC.out])
    have HFIN : Hid (litL q.ps v l = md.drop 1) := qh (by
     unfold litL
     rw [if_pos HZ.out.symm]
     exact (Asg.done WP.out.ok (by rw [HLen.out, ← HI.out]; exact HA.out)).symm)
    have HLL : Hid ((litL q.ps v l).length = N - 1) := qh (by rw [HFIN.out, List.length_drop, HMDL.out])
    have HBZ : Hid (Below w.heap.size w wo) := qh ((X3.out.below LO.out.bel X3.out.wi.lt).bel)
    have HT2 := qh (LO.out.tail HMDL.out hN2)
    have HW3 : Hid (w.heap.size ≤ w3.heap.size ∧ w3.heap.size < wo.heap.size ∧ N ≤ 100000) := qh (by have := X3.out.wi.lt; have := LO.out.g.lt; have := HM14.out; have := HN.out; omega)
    have HG1 : Hid (LiteralsP q.ps v l w (.returned (.tuple #[.slice (some ⟨w3.heap.size, 1, none⟩) (N - 1 : Nat) (N - 1 : Nat), .int .i64 0])) wo) := qh (by
     refine ⟨some ⟨w3.heap.size, 1, none⟩, N - 1, ?_, ?_, ?_, ?_, HBZ.out⟩
     ·rw [HLL.out, ← HZ.out]
     ·rw [HLL.out, HFIN.out]
      exact HT2.out.more fun k hk => by subst hk; exact ⟨HW3.out.1, HW3.out.2.1⟩
     ·rw [HLL.out]; exact qr _
     ·have := HW3.out.2.2; unfold maxLen; omega)
    have HG2 : Hid (N = 1 → LiteralsP q.ps v l w (.returned (.tuple #[.slice (some ⟨w3.heap.size, 0, none⟩) 0 0, .int .i64 0])) wo) := qh (fun h1 => by
     have h0 : litL q.ps v l = [] := List.eq_nil_of_length_eq_zero (by rw [HLL.out, h1])
     refine ⟨some ⟨w3.heap.size, 0, none⟩, 0, ?_, ?_, ?_, Nat.zero_le _, HBZ.out⟩
     ·rw [h0, ← HZ.out]; rfl
     ·rw [h0]; exact RInts.nil_
     ·rw [h0]; exact qr _)
    have HQ1 : Hid (LiteralsQ q.ps v l w (.returned (.tuple #[.slice (some ⟨w3.heap.size, 1, none⟩) (N - 1 : Nat) (N - 1 : Nat), .int .i64 0])) wo) := qh ⟨HG1.out, fun A n c z e h0 => by
     simp at e
     refine ⟨w3.heap.size, .int .i64 (md.headD 0), e.1.1.symm, HW3.out.1, ?_⟩
     have hg := LO.out.g
     rw [HFIN.out]
     match md, HMDL.out, hg with
     | [], hl, _ => simp at hl; omega
     | d :: r, _, hg => exact hg⟩
    have HQ2 : Hid (N = 1 → LiteralsQ q.ps v l w (.returned (.tuple #[.slice (some ⟨w3.heap.size, 0, none⟩) 0 0, .int .i64 0])) wo) := qh (fun h1 => LiteralsQ.none_ (HG2.out h1))
    clear HMDL HFIN HLL HBZ HT2 HW3 HG1 HG2
    go_wp2
    all_goals go_ret2
    all_goals first | exact HQ1.out | exact HQ2.out (by omega)
 ·have HE : Hid (validE ps v l = z) := qh HZ.out.symm
  have h0b : (z == 0) = false := by simpa using h0
  go_wp2
  go_ret2
  exact LiteralsQ.none_ (LiteralsP.err h0 HE.out X2.out.bel)
theorem literals_any (ps : List Pk) (v : Ws) (l : List Mem) (S : Nat → Prop) (A B : Option Addr) (n c q1 d1 : Nat) (A1 A2 A3 A4 : Option Addr) (n1 c1 n2 c2 n3 c3 n4 c4 : Nat) (w : World) (hT : RTree w S A n ps) (hnc : n ≤ c) (hc : c ≤ maxLen) (hV : WsAt w S A1 n1 c1 A2 n2 c2 A3 n3 c3 A4 n4 c4 v) (hL : RSet w S B q1 l) (hqd : q1 ≤ d1) (hd : d1 ≤ maxLen) (hS : ∀ k, S k → k < w.heap.size) :
  Calls Tryz.prog 13 #[.agg #[.slice A n c], .agg #[.slice A1 n1 c1, .slice A2 n2 c2, .slice A3 n3 c3, .slice A4 n4 c4], .slice B q1 d1] w (LiteralsP ps v l w) :=
 (literals_q ps v l S A B n c q1 d1 A1 A2 A3 A4 n1 c1 n2 c2 n3 c3 n4 c4 w hT hnc hc hV hL hqd hd hS).mono fun _ _ h => h.1
end
/- ResolveBest, walked: it returns true. -/
section
open Go.RowKit Qm

theorem litL_ok {ps : List Pk} {v : Ws} {l : List Mem} (h : validE ps v l = 0) : litL ps v l = litsB (chVec ps v l) := by unfold litL; rw [if_pos h]
end
/- quartermasterlaw.encoded, walked: it returns true. -/
section
open Go.RowKit Qm

def atE : At := ⟨[97], 0, 0, 0, [], false⟩
def wsE : Ws := ⟨[atE], [⟨3, []⟩], [], []⟩
def memE : List Mem := [⟨1, [false]⟩, ⟨3, []⟩]
def bitsE : List Bool := [false, false, true, false, false]
theorem enc_E1 : ckWish smallT wsE = 0 := by decide +kernel
theorem enc_E2 : validE smallT wsE memE = 0 := by decide +kernel
theorem enc_E3 : litL smallT wsE memE = [-1, -2, 3, -4, -5] := by decide +kernel
theorem enc_E4 : setE smallT wsE bitsE = 0 := by decide +kernel
theorem enc_E5 : setV smallT wsE bitsE = memE := by decide +kernel
theorem enc_E6 : manyC smallT = 5 := by decide +kernel
theorem enc_E7 : 5 ≤ encN smallT wsE := by
 unfold encN
 rw [if_pos enc_E1, ← enc_E6]
 exact (encW_ok enc_E1).many
theorem enc_E8 : eqL sameMem memE memE = true := by decide +kernel

structure En (w : World) (T : Nat) (A : Option Addr) (c : Nat) (wx : World) : Prop where
 t : RTree wx (fun i => i < T) A 4 smallT
 tb : Whole wx T 24 [.slice A 4 c]
 a : Whole wx (T + 1) 75 (atRow atE)
 m : Whole wx (T + 1 + 1) 85 [.int .i64 3, .slice none 0 0]
 v : Whole wx (T + 1 + 1 + 1) 30 [.slice (some ⟨T + 1, 0, none⟩) 1 1, .slice (some ⟨T + 1 + 1, 0, none⟩) 1 1, .slice none 0 0, .slice none 0 0]
 bel : Below w.heap.size w wx
section
variable {w : World} {T : Nat} {A : Option Addr} {c : Nat} {wx wy : World}
theorem En.move (h : En w T A c wx) (hb : Below wx.heap.size wx wy) : En w T A c wy :=
 ⟨h.t.under hb (fun k hk => Nat.lt_trans hk h.tb.lt), h.tb.below hb h.tb.lt, h.a.below hb h.a.lt, h.m.below hb h.m.lt, h.v.below hb h.v.lt, h.bel.trans (hb.mono h.bel.size)⟩
theorem En.ws (h : En w T A c wx) : WsAt wx (fun i => i < wx.heap.size) (some ⟨T + 1, 0, none⟩) 1 1 (some ⟨T + 1 + 1, 0, none⟩) 1 1 none 0 0 none 0 0 wsE :=
 ⟨⟨by decide, by decide⟩, ⟨by decide, by decide⟩, ⟨by decide, by decide⟩, ⟨by decide, by decide⟩,
  RSeq.whole [atRow atE] [atE] h.a rfl rfl (fun x hx => by simp at hx; subst hx; rfl) (fun j x y h1 h2 => by
   match j with
   | 0 => simp at h1 h2; subst h1 h2; exact ⟨rfl, by decide, by decide⟩
   | j + 1 => simp at h1) h.a.lt,
  RSeq.whole (α := Mem) (K := 2) (R := RMem wx (fun i => i < wx.heap.size)) (n := 1) [[.int .i64 3, .slice none 0 0]] [⟨3, []⟩] h.m rfl rfl (fun x hx => by simp at hx; subst hx; rfl) (fun j u y g1 g2 => by
   match j with
   | 0 => simp at g1 g2; subst g1 g2; exact ⟨_, _, _, rfl, by decide, by decide, Row.nil_⟩
   | j + 1 => simp at g1) h.m.lt, Row.nil_, RSeq.nil_⟩
theorem En.tr (h : En w T A c wx) : RTree wx (fun i => i < wx.heap.size) A 4 smallT := h.t.more fun k hk => Nat.lt_trans hk h.tb.lt
theorem En.enc (h : En w T A c wx) (hc : 4 ≤ c ∧ c ≤ maxLen) : Calls Tryz.prog 12 #[.agg #[.slice A 4 c], .agg #[.slice (some ⟨T + 1, 0, none⟩) 1 1, .slice (some ⟨T + 1 + 1, 0, none⟩) 1 1, .slice none 0 0, .slice none 0 0]] wx (EncodeP smallT wsE wx) :=
 encode_any smallT wsE (fun i => i < wx.heap.size) A 4 c _ _ _ _ 1 1 1 1 0 0 0 0 wx h.tr hc.1 hc.2 h.ws (fun _ h => h)
theorem En.lit (h : En w T A c wx) (hc : 4 ≤ c ∧ c ≤ maxLen) {B : Option Addr} (hL : RSet wx (fun i => i < wx.heap.size) B 2 memE) : Calls Tryz.prog 13 #[.agg #[.slice A 4 c], .agg #[.slice (some ⟨T + 1, 0, none⟩) 1 1, .slice (some ⟨T + 1 + 1, 0, none⟩) 1 1, .slice none 0 0, .slice none 0 0], .slice B 2 2] wx (LiteralsP smallT wsE memE wx) :=
 literals_any smallT wsE memE (fun i => i < wx.heap.size) A B 4 c 2 2 _ _ _ _ 1 1 1 1 0 0 0 0 wx h.tr hc.1 hc.2 h.ws hL (qr _) (by decide) (fun _ h => h)
theorem En.set (h : En w T A c wx) (hc : 4 ≤ c ∧ c ≤ maxLen) {B : Option Addr} (hM : RBools wx (fun i => i < wx.heap.size) B 5 bitsE) : Calls Tryz.prog 15 #[.agg #[.slice A 4 c], .agg #[.slice (some ⟨T + 1, 0, none⟩) 1 1, .slice (some ⟨T + 1 + 1, 0, none⟩) 1 1, .slice none 0 0, .slice none 0 0], .slice B 5 5] wx (SetP smallT wsE bitsE wx) :=
 eset_any smallT wsE bitsE (fun i => i < wx.heap.size) A B 4 c 5 5 _ _ _ _ 1 1 1 1 0 0 0 0 wx h.tr hc.1 hc.2 h.ws hM (qr _) (by decide) (fun _ h => h)
end
theorem set_memE {wx : World} {b b2 : Nat} {t t2 : TypeId} (h1 : Whole wx b t [.bool false]) (h2 : Whole wx b2 t2 [.int .i64 1, .slice (some ⟨b, 0, none⟩) 1 1, .int .i64 3, .slice none 0 0]) : RSet wx (fun i => i < wx.heap.size) (some ⟨b2, 0, none⟩) 2 memE :=
 RSeq.whole (α := Mem) (K := 2) (R := RMem wx (fun i => i < wx.heap.size)) (n := 2) [[.int .i64 1, .slice (some ⟨b, 0, none⟩) 1 1], [.int .i64 3, .slice none 0 0]] memE h2 rfl rfl (fun x hx => by simp at hx; rcases hx with rfl | rfl <;> rfl) (fun j u y g1 g2 => by
   match j with
   | 0 => simp [memE] at g1 g2; subst g1 g2; exact ⟨_, _, _, rfl, by decide, by decide, h1.bools (xs := [false]) h1.lt rfl⟩
   | 1 => simp [memE] at g1 g2; subst g1 g2; exact ⟨_, _, _, rfl, by decide, by decide, Row.nil_⟩
   | j + 2 => simp at g1) h2.lt
set_option maxRecDepth 100000 in
set_option maxHeartbeats 6400000 in
theorem encoded_any (w : World) (hL : LaidV w) (hM : MaxW w) :
  Calls Tryz.prog 14 #[] w fun e w' => e = .returned (.bool true) ∧ Below w.heap.size w w' := by
 have Hsm := qh (small_any w hL hM)
 unfold SmallPost at Hsm
 clear hL hM
 go_enter Tryz.func14, Tryz.ntmps14
 go_upto_region 3 with (first | (go_at_call 51; refine Hsm.out.mono ?_; rintro e w1 ⟨A, c, rfl, hT, hc1, hc2, hb1⟩; refine Hid.out ?_))
 refine qh ?_
 go_upto_region 3 with fail
 have h1 := Whole.new w1 w1.heap.size 24 [.slice A 4 c] rfl
 have h2 := Whole.new (w1.alloc (.cells #[.slice A 4 c] 24)) (w1.heap.size + 1) 75 (atRow atE) (by simp)
 have h3 := Whole.new ((w1.alloc (.cells #[.slice A 4 c] 24)).alloc (.cells (atRow atE).toArray 75)) (w1.heap.size + 1 + 1) 85 [.int .i64 3, .slice none 0 0] (by simp)
 have h4 := Whole.new (((w1.alloc (.cells #[.slice A 4 c] 24)).alloc (.cells (atRow atE).toArray 75)).alloc (.cells #[.int .i64 3, .slice none 0 0] 85)) (w1.heap.size + 1 + 1 + 1) 30 [.slice (some ⟨w1.heap.size + 1, 0, none⟩) 1 1, .slice (some ⟨w1.heap.size + 1 + 1, 0, none⟩) 1 1, .slice none 0 0, .slice none 0 0] (by simp)
 have hbl : Below w1.heap.size w1 ((((w1.alloc (.cells #[.slice A 4 c] 24)).alloc (.cells (atRow atE).toArray 75)).alloc (.cells #[.int .i64 3, .slice none 0 0] 85)).alloc (.cells #[.slice (some ⟨w1.heap.size + 1, 0, none⟩) 1 1, .slice (some ⟨w1.heap.size + 1 + 1, 0, none⟩) 1 1, .slice none 0 0, .slice none 0 0] 30)) := ((((Below.refl _ w1).alloc (qr _) _).alloc (by simp) _).alloc (by simp; omega) _).alloc (by simp; omega) _
 have Y3 : Hid (En w w1.heap.size A c _) := qh ⟨(hT.under hbl fun k hk => hk.2).more fun k hk => hk.2, ((h1.alloc _).alloc _).alloc _, (h2.alloc _).alloc _, h3.alloc _, h4, hb1.trans (hbl.mono hb1.size)⟩
 unfold atRow atE at Y3
 clear h1 h2 h3 h4 hbl hT hb1
 generalize w1.heap.size = T at Y3 ⊢
 generalize World.alloc (World.alloc (World.alloc (World.alloc w1 _) _) _) _ = w3 at Y3 ⊢
 have HE3 := qh (Y3.out.enc ⟨hc1, hc2⟩)
 have t0 := Y3.out.tb.cell 0
 have v0 := Y3.out.v.cell 0; have v1 := Y3.out.v.cell 1; have v2 := Y3.out.v.cell 2; have v3 := Y3.out.v.cell 3
 simp only [qgz, qgs] at t0 v0 v1 v2 v3
 have vlt := Y3.out.v.lt
 have tlt := Y3.out.tb.lt
 go_upto_region 4 with (first | (go_at_call 12; refine HE3.out.mono ?_; rintro e w5 ⟨F, cF, rfl, hF1, hF2, hF3, hb5⟩; refine Hid.out ?_))
 refine qh ?_
 have Y5 := qh (Y3.out.move hb5)
 clear t0 v0 v1 v2 v3 vlt tlt HE3 Y3 hb5 hF1
 obtain ⟨N5, hN5⟩ : ∃ x, x = encN smallT wsE := ⟨_, rfl⟩
 have HN5 : Hid (5 ≤ N5) := qh (by rw [hN5]; exact enc_E7)
 rw [← hN5, enc_E1]
 clear hN5
 go_upto_region 4 with fail
 have YF := qh (Y5.out.move ((Below.refl _ w5).alloc (qr _) (.cells #[.int .i64 (N5 : Int), .slice F (encC smallT wsE).length cF] 33)))
 have HF := qh (Whole.new w5 w5.heap.size 33 [.int .i64 (N5 : Int), .slice F (encC smallT wsE).length cF] rfl)
 obtain ⟨fb, hfb⟩ : ∃ x, x = w5.heap.size := ⟨_, rfl⟩
 rw [← hfb] at HF ⊢
 clear hfb Y5
 generalize w5.alloc (.cells #[.int .i64 (N5 : Int), .slice F (encC smallT wsE).length cF] 33) = w6 at YF HF ⊢
 have hW1 := Whole.new w6 w6.heap.size 4 [.bool false] rfl
 have hW2 := Whole.new (w6.alloc (.cells #[.bool false] 4)) (w6.heap.size + 1) 85 [.int .i64 1, .slice (some ⟨w6.heap.size, 0, none⟩) 1 1, .int .i64 3, .slice none 0 0] (by simp)
 have hbx : Below w6.heap.size w6 ((w6.alloc (.cells #[.bool false] 4)).alloc (.cells #[.int .i64 1, .slice (some ⟨w6.heap.size, 0, none⟩) 1 1, .int .i64 3, .slice none 0 0] 85)) := ((Below.refl _ _).alloc (qr _) _).alloc (by simp) _
 have Y7 := qh (YF.out.move hbx)
 have HL7 := qh (Y7.out.lit ⟨hc1, hc2⟩ (set_memE (hW1.alloc _) hW2))
 have HF7 := qh (HF.out.below hbx HF.out.lt)
 clear hW1 hW2 hbx HF
 have t0 := YF.out.tb.cell 0
 have v0 := YF.out.v.cell 0; have v1 := YF.out.v.cell 1; have v2 := YF.out.v.cell 2; have v3 := YF.out.v.cell 3
 simp only [qgz, qgs] at t0 v0 v1 v2 v3
 have vlt := YF.out.v.lt
 have tlt := YF.out.tb.lt
 have tlt1 : T < w6.heap.size + 1 := by omega
 have vlt1 : T + 1 + 1 + 1 < w6.heap.size + 1 := by omega
 go_upto_region 5 with (first | (go_at_call 13; refine HL7.out.mono ?_; rintro e w8 ⟨L8, cL, rfl, hL1, hL2, hL3, hb8⟩; refine Hid.out ?_))
 refine qh ?_
 have Y8 := qh (Y7.out.move hb8)
 have HF8 := qh (HF7.out.below hb8 HF7.out.lt)
 rw [enc_E3] at hL1 hL2 ⊢
 rw [enc_E2]
 have HL8 := qh (hL1.more (S' := fun k => k < w8.heap.size) fun k hk => hk.2)
 clear t0 v0 v1 v2 v3 vlt tlt tlt1 vlt1 HL7 YF Y7 hb8 HF7 hL1
 go_upto_region 5 with fail
 have hW5 := Whole.new w8 w8.heap.size 4 [.bool false, .bool false, .bool true, .bool false, .bool false] rfl
 have hbz : Below w8.heap.size w8 (w8.alloc (.cells #[.bool false, .bool false, .bool true, .bool false, .bool false] 4)) := (Below.refl _ _).alloc (qr _) _
 have Y9 := qh (Y8.out.move hbz)
 have HF9 := qh (HF8.out.below hbz HF8.out.lt)
 have HL9 := qh ((HL8.out.below hbz fun k hk => hk).more (S' := fun k => k < (w8.alloc (.cells #[.bool false, .bool false, .bool true, .bool false, .bool false] 4)).heap.size) fun k hk => ql hk hbz.size)
 have HS9 := qh (Y9.out.set ⟨hc1, hc2⟩ (hW5.bools (xs := bitsE) hW5.lt rfl))
 clear hW5 hbz HF8 HL8
 have t0 := Y8.out.tb.cell 0
 have v0 := Y8.out.v.cell 0; have v1 := Y8.out.v.cell 1; have v2 := Y8.out.v.cell 2; have v3 := Y8.out.v.cell 3
 simp only [qgz, qgs] at t0 v0 v1 v2 v3
 have vlt := Y8.out.v.lt
 have tlt := Y8.out.tb.lt
 go_upto_region 6 with (first | (go_at_call 15; refine HS9.out.mono ?_; rintro e w10 ⟨M10, cM, rfl, hM1, hM2, hM3, hb10⟩; refine Hid.out ?_))
 refine qh ?_
 have Y10 := qh (Y9.out.move hb10)
 have HF10 := qh (HF9.out.below hb10 HF9.out.lt)
 have hL10 := HL9.out.below hb10 fun k hk => hk
 rw [enc_E5] at hM1 hM2 ⊢
 rw [show memE.length = 2 from rfl] at hM1 hM2 ⊢
 rw [enc_E4]
 have hal := (Below.refl w10.heap.size w10).alloc (qr _) (.cells #[.int .i64 (-1), .int .i64 (-2), .int .i64 3, .int .i64 (-4), .int .i64 (-5)] 3)
 have hI := Whole.new w10 w10.heap.size 3 [.int .i64 (-1), .int .i64 (-2), .int .i64 3, .int .i64 (-4), .int .i64 (-5)] rfl
 have hEQ := equal_int L8 (some ⟨w10.heap.size, 0, none⟩) 5 5 cL 5 [-1, -2, 3, -4, -5] [-1, -2, 3, -4, -5] _ (fun k => k < (w10.alloc (.cells #[.int .i64 (-1), .int .i64 (-2), .int .i64 3, .int .i64 (-4), .int .i64 (-5)] 3)).heap.size) ((hL10.more (S' := fun k => k < w10.heap.size) fun k hk => ql hk hb10.size).below hal (fun k hk => hk) |>.more fun k hk => ql hk hal.size) (hI.ints (xs := [-1, -2, 3, -4, -5]) hI.lt rfl) (by decide) (by decide)
 rw [show (([-1, -2, 3, -4, -5] : List Int) == [-1, -2, 3, -4, -5]) = true from by decide] at hEQ
 have HEQ := qh hEQ
 have HM := qh (hM1.more (S' := fun k => k < w10.heap.size) fun k hk => hk.2)
 have Y11 := qh (Y10.out.move hal)
 have HM11 := qh ((HM.out.under hal fun k hk => hk).more (S' := fun k => k < (w10.alloc (.cells #[.int .i64 (-1), .int .i64 (-2), .int .i64 3, .int .i64 (-4), .int .i64 (-5)] 3)).heap.size) fun k hk => ql hk hal.size)
 have f0 := HF10.out.cell 0
 have flt := HF10.out.lt
 have hn5 : (5 : Int) ≤ (N5 : Int) := by have := HN5.out; omega
 simp only [List.getElem?_cons_zero] at f0
 clear t0 v0 v1 v2 v3 vlt tlt HS9 Y8 Y9 HF9 HL9 hb10 hL10 hal hI hEQ hM1 Y10 HM
 go_wp2_with (first | (go_at_call 32; refine HEQ.out.mono ?_; rintro e w12 ⟨rfl, nq, rfl⟩; refine Hid.out ?_))
 refine qh ?_
 have Y12 := qh (Y11.out.move (below_drewN (Below.refl _ _) nq))
 have HM12 := qh ((HM11.out.under (below_drewN (Below.refl _ _) nq) fun k hk => hk).more (S' := fun k => k < (World.drewN (w10.alloc (.cells #[.int .i64 (-1), .int .i64 (-2), .int .i64 3, .int .i64 (-4), .int .i64 (-5)] 3)) nq).heap.size) fun k hk => ql hk (below_drewN (Below.refl 0 _) nq).size)
 clear Y11 HM11 HEQ f0 flt
 generalize World.drewN (World.alloc w10 _) nq = w12 at Y12 HM12 ⊢
 have hW1 := Whole.new w12 w12.heap.size 4 [.bool false] rfl
 have hW2 := Whole.new (w12.alloc (.cells #[.bool false] 4)) (w12.heap.size + 1) 85 [.int .i64 1, .slice (some ⟨w12.heap.size, 0, none⟩) 1 1, .int .i64 3, .slice none 0 0] (by simp)
 have hbx : Below w12.heap.size w12 ((w12.alloc (.cells #[.bool false] 4)).alloc (.cells #[.int .i64 1, .slice (some ⟨w12.heap.size, 0, none⟩) 1 1, .int .i64 3, .slice none 0 0] 85)) := ((Below.refl _ _).alloc (qr _) _).alloc (by simp) _
 have Y13 := qh (Y12.out.move hbx)
 have hSS := sameSetr_any memE memE (fun k => k < ((w12.alloc (.cells #[.bool false] 4)).alloc (.cells #[.int .i64 1, .slice (some ⟨w12.heap.size, 0, none⟩) 1 1, .int .i64 3, .slice none 0 0] 85)).heap.size) M10 (some ⟨w12.heap.size + 1, 0, none⟩) 2 cM 2 2 _ ((HM12.out.under hbx fun k hk => hk).more fun k hk => ql hk hbx.size) (set_memE (hW1.alloc _) hW2) (fun _ h => h) (by decide) (by decide)
 rw [enc_E8] at hSS
 have HSS := qh hSS
 clear hSS hW1 hW2 hbx
 go_wp2_with (first | (go_at_call 24; refine HSS.out.mono ?_; rintro e w14 ⟨rfl, hb14⟩; refine Hid.out ?_))
 refine qh ?_
 have Y14 := qh (Y13.out.move hb14)
 clear hb14
 go_wp2
 go_ret
 exact ⟨rfl, Y14.out.bel⟩
end
end Go.Proofs.YtedbhlgjcnnknaaGreatDoor
