/- Parts of the proof: walks and plain laws, side by side. -/
import Derived.Test.YtedbhlgjcnnknaaGreatDoorM27
import Derived.Test.YtedbhlgjcnnknaaGreatDoorM22
import Derived.Test.YtedbhlgjcnnknaaGreatDoorM3
import Derived.Test.YtedbhlgjcnnknaaGreatDoorShelf
import Derived.Test.YtedbhlgjcnnknaaGreatDoorM23
import Derived.Test.YtedbhlgjcnnknaaGreatDoorM2
import Derived.Test.YtedbhlgjcnnknaaGreatDoorM16
import Derived.Test.YtedbhlgjcnnknaaGreatDoorM7
import Derived.Test.YtedbhlgjcnnknaaGreatDoorM21
import Derived.Test.YtedbhlgjcnnknaaGreatDoorM17
import Derived.Maps.AppendAt
import Derived.Test.YtedbhlgjcnnknaaGreatDoorM19
import Derived.Test.YtedbhlgjcnnknaaGreatDoorM25
set_option linter.unusedVariables false
set_option linter.unusedSimpArgs false
set_option linter.unusedSectionVars false
namespace Go.Proofs.YtedbhlgjcnnknaaGreatDoor
/- valid.Holds, walked. -/
section
open Go.RowKit Qm

theorem ckSet_zero {ps : List Pk} {l : List Mem} (h : ckSet ps l = 0) : ckTree ps = 0 ∧ ckMs ps none l = 0 := by
 unfold ckSet at h
 by_cases h0 : ckTree ps = 0
 ·rw [if_neg (by simpa using h0)] at h; exact ⟨h0, h⟩
 ·rw [if_pos h0] at h; exact absurd h h0
theorem Cx.of {ps : List Pk} {l : List Mem} {S : Nat → Prop} {A B : Option Addr} {n c q d : Nat} {w : World} (h : ckSet ps l = 0) (hT : RTree w S A n ps) (hnc : n ≤ c) (hc : c ≤ maxLen) (hL : RSet w S B q l) (hqd : q ≤ d) (hd : d ≤ maxLen) (hS : ∀ k, S k → k < w.heap.size) : Cx ps l S A n c B q d w :=
 ⟨hT, hL, hnc, hc, by rw [← hT.len]; exact ckTree_len (ckSet_zero h).1, hqd, hd, ckMs_mem (ckSet_zero h).2, hS⟩
theorem own_flags {ps : List Pk} {l : List Mem} (h : ckSet ps l = 0) {k : Nat} (hk : k < l.length) : ∀ f ∈ flagsN (pkOf ps (memAt l k).pl).nd, f ∈ (pkOf ps (memAt l k).pl).fs := by
 obtain ⟨h1, h2⟩ := ckSet_zero h
 have hm : memAt l k ∈ l := by
  rw [memAt_at (List.getElem?_eq_getElem hk)]; exact List.getElem_mem hk
 obtain ⟨a, b, _⟩ := ckMs_mem h2 _ hm
 have hp : pkOf ps (memAt l k).pl ∈ ps := by
  unfold pkOf
  have hlt : (memAt l k).pl.toNat < ps.length := by omega
  rw [List.getD_eq_getElem?_getD, List.getElem?_eq_getElem hlt]
  exact List.getElem_mem hlt
 exact (pkOk (ckTree_mem h1 _ hp)).sub
end
/- slices.Contains of ints. (Of the shelf: Tryz.slices_Contains_int Tryz.slices_Contains_int_empty) -/
section
open Go.RowKit

theorem ints_cell {w : World} {S : Nat → Prop} {b o n : Nat} {xs : List Int} (h : RInts w S (some ⟨b, o, none⟩) n xs) : ∀ j, j < xs.length → w.cell? ⟨b, o + j, none⟩ = some (.int .i64 (xs.getD j 0)) := by
 intro j hj
 obtain ⟨b', o', e, _, hc⟩ := h.at_ (k := j) (by have := h.len; omega)
 injection e with e; injection e with e1 e2
 subst e1 e2
 exact hc
theorem containsI_any (A : Option Addr) (n c : Nat) (xs : List Int) (x : Int) (w : World) (S : Nat → Prop) (h : RInts w S A n xs) (hn : n ≤ maxLen) :
  Calls Tryz.prog 43 #[.slice A n c, .int .i64 x] w fun e w' => e = .returned (.bool (xs.contains x)) ∧ w' = w := by
 have hl := h.len
 unfold maxLen at hn
 by_cases h0 : n = 0
 ·subst h0
  obtain rfl := List.eq_nil_of_length_eq_zero hl
  exact (Tryz.slices_Contains_int_empty A c x w).mono fun e w' ⟨he, hw⟩ => ⟨by simpa using he, hw⟩
 ·obtain ⟨b, o, rfl, _⟩ := Row.some_lit h (by omega)
  refine (Tryz.slices_Contains_int b o n c xs x w (by omega) (by omega) (ints_cell h)).mono fun e w' ⟨he, hw⟩ => ⟨?_, hw⟩
  rw [he, List.take_of_length_le (by omega)]

end
/- valid.valid, walked. -/
section
open Go.RowKit Qm

theorem all_take_succ {α : Type} {f : α → Bool} {l : List α} {j : Nat} {x : α} (h : l[j]? = some x) : (l.take (j + 1)).all f = ((l.take j).all f && f x) := by
 obtain ⟨hj, rfl⟩ := List.getElem?_eq_some_iff.1 h
 rw [List.take_succ_eq_append_getElem hj, List.all_append]; simp
theorem all_take_false {α : Type} {f : α → Bool} {l : List α} {j : Nat} {x : α} (h : l[j]? = some x) (hf : f x = false) : l.all f = false := by
 rw [Bool.eq_false_iff]
 intro ha
 have := List.all_eq_true.1 ha x (List.mem_of_getElem? h)
 rw [hf] at this; cases this
theorem allOk_false {ps : List Pk} {ms : List Int} {l : List Mem} {i : Nat} (hi : i < l.length) (h : oneOk ps ms l i = false) : allOk ps ms l l.length = false := by
 rw [Bool.eq_false_iff]
 intro ha
 have := allOk_at ha i hi
 rw [h] at this; cases this
theorem loneB_step {ps : List Pk} {p : Pk} {l : List Mem} {j : Nat} {o : Mem} (h : l[j]? = some o) : loneB ps p (l.drop j) = if (pkOf ps o.pl).nm = p.nm ∧ (pkOf ps o.pl).slot = p.slot then false else loneB ps p (l.drop (j + 1)) := by
 obtain ⟨hj, rfl⟩ := List.getElem?_eq_some_iff.1 h
 rw [List.drop_eq_getElem_cons hj]; rfl
set_option maxRecDepth 100000 in
set_option maxHeartbeats 6400000 in
theorem validR_any (ps : List Pk) (v : Ws) (l : List Mem) (S : Nat → Prop) (A B : Option Addr) (n c q d : Nat) (A1 A2 A3 A4 : Option Addr) (n1 c1 n2 c2 n3 c3 n4 c4 : Nat) (w : World) (C : Cx ps l S A n c B q d w) (hck : ckSet ps l = 0) (hV : WsAt w S A1 n1 c1 A2 n2 c2 A3 n3 c3 A4 n4 c4 v) :
  Calls Tryz.prog 57 #[.agg #[.slice A n c], .agg #[.slice A1 n1 c1, .slice A2 n2 c2, .slice A3 n3 c3, .slice A4 n4 c4], .slice B q d] w fun e w' => e = .returned (.bool (validP ps v.ts v.ms l)) ∧ Below w.heap.size w w' := by
 have X0 := qh (Wb.new w A n c [.slice A1 n1 c1, .slice A2 n2 c2, .slice A3 n3 c3, .slice A4 n4 c4])
 have HC := qh C; have HV := qh hV; have HCK := qh hck; clear hV hck
 have Hpl := qh C.t.len
 have Hll := qh C.s.len
 have Hts := qh HV.out.ts.len
 have H1 := HV.out.h1; have H3 := HV.out.h3
 have hqd := C.qd; have hdm := C.dm; have hn8 := C.n8; have hcm := C.cm
 unfold maxLen at H1 H3 hdm hcm
 clear C
 have HR : Hid (validP ps v.ts v.ms l = (v.ts.all (fun a => l.any (fun m => isA ps m a)) && allOk ps v.ms l l.length)) := qh rfl
 generalize validP ps v.ts v.ms l = R at HR ⊢
 go_enter Tryz.func57, Tryz.ntmps57
 go_wp2
 go_loopg [18] n1 (fun g iv wr => ∃ j : Nat, Hid (j + g = n1) ∧ iv = .int .i64 j ∧ Hid ((v.ts.take j).all (fun a => l.any (fun m => isA ps m a)) = true) ∧ Hid (Wb w A n c [.slice A1 n1 c1, .slice A2 n2 c2, .slice A3 n3 c3, .slice A4 n4 c4] wr))
 case atStart => exact ⟨0, qh (Nat.zero_add _), rfl, qh rfl, X0⟩
 case round =>
  obtain ⟨j, Hj, rfl, Hcl, XR⟩ := hrel
  clear X0
  by_cases hj : j < n1
  ·obtain ⟨b, o, x, a, rfl, hbS, ha, hxa, _, hcell⟩ := (HV.out.ts.keep (w' := wr) (fun p hp => XR.out.bel.cell (HC.out.lt _ hp)) fun _ _ h => h).at_ hj (by decide)
   obtain ⟨rfl, ha1, ha2⟩ := hxa
   have g0 := hcell 0 (by omega); have g1 := hcell 1 (by omega); have g2 := hcell 2 (by omega); have g3 := hcell 3 (by omega); have g4 := hcell 4 (by omega); have g5 := hcell 5 (by omega)
   unfold atRow at g0 g1 g2 g3 g4 g5
   simp only [List.getElem?_cons_zero, List.getElem?_cons_succ, Nat.add_zero] at g0 g1 g2 g3 g4 g5
   have X3 := qh (XR.out.alloc (.cells (atRow a).toArray 75))
   have W3 := qh (Whole.new wr wr.heap.size 75 (atRow a) rfl)
   have hcf := containsF_M (RMem w S) (fun m => isA ps m a) B q d l 85 #[.pointer (some ⟨w.heap.size, 0, none⟩), .pointer (some ⟨wr.heap.size, 0, none⟩)] _ S (RSeq.keep HC.out.s (fun p hp => X3.out.bel.cell (HC.out.lt _ hp)) fun _ _ h => h) (fun x hx => ql (HC.out.lt x hx) X3.out.bel.size) (by unfold maxLen; omega)
    ⟨fun args W => by kernel_rfl, fun m hm cx W hb hr => target_any HC.out a ha1 ha2 w.heap.size wr.heap.size hm cx hr W (X3.out.bel.trans (hb.mono X3.out.bel.size)) ((X3.out.t.below hb X3.out.t.lt).cell 0) (fun i _ => (W3.out.below hb W3.out.lt).cell i)⟩ (fun x y h => shape_mem h)
   have Hst := qh (all_take_succ (f := fun a => l.any (fun m => isA ps m a)) ha)
   have Hfa := qh (all_take_false (f := fun a => l.any (fun m => isA ps m a)) ha)
   generalize hq2 : l.any (fun m => isA ps m a) = r at hcf Hst Hfa
   have Hcf := qh hcf
   have Hq2 := qh hq2
   unfold atRow at Hcf X3
   clear hcf hcell ha hq2
   go_wp2_with (first | (go_at_call 84; refine Hcf.out.mono ?_; rintro e w4 ⟨rfl, hb4⟩; refine Hid.out ?_))
   refine qh ?_
   have X4 := qh (X3.out.move hb4)
   clear hb4 g0 g1 g2 g3 g4 g5 X3 W3
   cases r
   ·have HE : Hid (R = false) := qh (by rw [HR.out, Hfa.out rfl]; rfl)
    go_wp2
    go_ret
    exact ⟨ret_bool HE.out.symm, X4.out.bel⟩
   ·have HE : Hid ((v.ts.take (j + 1)).all (fun a => l.any (fun m => isA ps m a)) = true) := qh (by rw [Hst.out, Hcl.out]; rfl)
    go_wp2
    go_roundg (gk - 1)
    case measure => have := Hj.out; omega
    case rel => exact ⟨j + 1, qh (by have := Hj.out; omega), by go_num, HE, X4⟩
  ·obtain rfl : n1 = j := by have := Hj.out; omega
   have HRA : Hid (R = allOk ps v.ms l l.length) := qh (by
    have h := Hcl.out
    rw [List.take_of_length_le (by have := Hts.out; omega)] at h
    rw [HR.out, h]; rfl)
   clear HR Hcl
   go_wp2
   obtain ⟨wq, hwq⟩ : ∃ x, x = wr := ⟨_, rfl⟩
   rw [← hwq] at XR ⊢
   clear hwq
   go_loopg [29] q (fun g iv wr => ∃ i : Nat, Hid (i + g = q) ∧ iv = .int .i64 i ∧ Hid (allOk ps v.ms l i = true) ∧ Hid (Wb w A n c [.slice A1 n1 c1, .slice A2 n2 c2, .slice A3 n3 c3, .slice A4 n4 c4] wr))
   case atStart => exact ⟨0, qh (Nat.zero_add _), rfl, qh rfl, XR⟩
   case round =>
    obtain ⟨i, Hi, rfl, Hcl, XQ⟩ := hrel
    clear XR
    by_cases hi : i < q
    ·have hrel := qh (fun (wx : World) (hb : Below w.heap.size w wx) => (HC.out.s.under hb HC.out.lt).at_ hi)
     obtain ⟨b, o, m, E, u, v0, rfl, hbS, hm, huv, hv, _, g0, g1⟩ := (HC.out.s.under XQ.out.bel HC.out.lt).at_ hi
     obtain ⟨hp0, hp1, _⟩ := HC.out.ok m (List.mem_of_getElem? hm)
     have Hown := qh (own_flags HCK.out (k := i) (by have := Hll.out; omega))
     have hil : i < l.length := by have := Hll.out; omega
     have Hho := qh (fun cx wx (hb : Below w.heap.size w wx) hr => holds_any ps l S A n c (some ⟨b, o, none⟩) q d (pkOf ps (memAt l i).pl).nd i cx wx (HC.out.under hb) hi hr Hown.out)
     have Hone : Hid (oneOk ps v.ms l i = (!v.ms.contains (memAt l i).pl && (holdsN ps l i (memAt l i) (pkOf ps (memAt l i).pl).nd && loneB ps (pkOf ps (memAt l i).pl) (l.take i)))) := qh rfl
     have Hnx : Hid (allOk ps v.ms l (i + 1) = oneOk ps v.ms l i) := qh (by rw [allOk, Hcl.out]; rfl)
     have Hno := qh (fun h => allOk_false (ps := ps) (ms := v.ms) hil h)
     generalize oneOk ps v.ms l i = on1 at Hone Hnx Hno
     rw [memAt_at hm] at Hho Hone
     have hpl := Hpl.out
     have Hms := qh (fun wx (hb : Below w.heap.size w wx) => containsI_any A3 n3 c3 v.ms m.pl wx S (Row.below HV.out.ms hb HC.out.lt) (by unfold maxLen; omega))
     obtain ⟨pl, on⟩ := m
     dsimp only at g0 hp0 hp1 Hho Hone Hms
     obtain ⟨j, rfl⟩ : ∃ j : Nat, pl = j := ⟨pl.toNat, by omega⟩
     have hjn : j < n := by omega
     obtain ⟨b2, o2, p, F, fn, fc, kd, pa, f, no, E2, r, d', rfl, hbS2, hp, hP, hcell⟩ := (HC.out.t.under XQ.out.bel HC.out.lt).at_ hjn
     rw [pkOf_at hp] at Hho Hone
     have hho := fun wx (hb : Below w.heap.size w wx) => Hho.out (ndRow kd pa f no E2 r d') wx hb ((hP.nd.keep (w' := w) (fun p hp => (XQ.out.bel.cell (HC.out.lt _ hp)).symm)).under hb HC.out.lt)
     have h0 := hcell 0 (by omega); have h1 := hcell 1 (by omega); have h2 := hcell 2 (by omega); have h3 := hcell 3 (by omega); have h4 := hcell 4 (by omega); have h5 := hcell 5 (by omega); have h6 := hcell 6 (by omega); have h7 := hcell 7 (by omega); have h8 := hcell 8 (by omega); have h9 := hcell 9 (by omega); have h10 := hcell 10 (by omega); have h11 := hcell 11 (by omega); have h12 := hcell 12 (by omega); have h13 := hcell 13 (by omega)
     unfold pkRow ndRow at h0 h1 h2 h3 h4 h5 h6 h7 h8 h9 h10 h11 h12 h13
     simp only [List.getElem?_cons_zero, List.getElem?_cons_succ, Nat.add_zero] at h0 h1 h2 h3 h4 h5 h6 h7 h8 h9 h10 h11 h12 h13
     have hbl : b < wr.heap.size := ql (HC.out.lt _ hbS) XQ.out.bel.size
     have hbl2 : b2 < wr.heap.size := ql (HC.out.lt _ hbS2) XQ.out.bel.size
     have hbl3 : b2 < wr.heap.size + 1 := by omega
     generalize holdsN ps l i ⟨(j : Int), on⟩ p.nd = rv at Hone hho
     generalize v.ms.contains (j : Int) = mc at Hms Hone
     have hbx : Below wr.heap.size wr ((wr.alloc (.cells #[.int .i64 (j : Int), .slice E u v0] 85)).alloc (.cells (pkRow p F fn fc (ndRow kd pa f no E2 r d')).toArray 101)) := ((Below.refl _ wr).alloc (qr _) _).alloc (by simp) _
     have X3 := qh (XQ.out.move hbx)
     have P3 := qh (Whole.new (wr.alloc (.cells #[.int .i64 (j : Int), .slice E u v0] 85)) (wr.heap.size + 1) 101 (pkRow p F fn fc (ndRow kd pa f no E2 r d')) (by simp))
     have t0 := XQ.out.t.cell 0
     have v2 := XQ.out.v.cell 2
     simp only [qgz, qgs] at t0 v2
     have vlt := XQ.out.v.lt
     have tlt := XQ.out.t.lt
     have vlt1 : w.heap.size + 1 < wr.heap.size + 1 := by omega
     have tlt1 : w.heap.size < wr.heap.size + 1 := by omega
     have hjn1 : (j : Int) < n := by omega
     have hjn0 : (0 : Int) ≤ (j : Int) := by omega
     have hiq : (i : Int) ≤ d := by omega
     have hi0 : (0 : Int) ≤ (i : Int) := by omega
     have Hp : Hid (ps[j]? = some p) := qh hp
     have Hh := qh hho
     clear hho hcell hP hp hm hp0 hp1 hbx
     unfold pkRow ndRow at P3 X3
     unfold ndRow at Hh
     go_wp2_with (first | (go_at_call 43; refine (Hms.out _ X3.out.bel).mono ?_; rintro e w4 ⟨rfl, hw4⟩; have hw5 := hw4.symm; subst hw5; refine Hid.out ?_))
     refine qh ?_
     generalize World.alloc (World.alloc wr _) _ = w4 at X3 P3 ⊢
     clear t0 v2 vlt tlt vlt1 tlt1 h0 h1 h2 h3 h4 h5 h6 h7 h8 h9 h10 h11 h12 h13 hbl hbl2 hbl3 g0 g1
     cases mc
     ·have t0 := X3.out.t.cell 0
      have p0 := P3.out.cell 0; have p1 := P3.out.cell 1; have p2 := P3.out.cell 2; have p3 := P3.out.cell 3; have p4 := P3.out.cell 4; have p5 := P3.out.cell 5; have p6 := P3.out.cell 6; have p7 := P3.out.cell 7; have p8 := P3.out.cell 8; have p9 := P3.out.cell 9; have p10 := P3.out.cell 10; have p11 := P3.out.cell 11; have p12 := P3.out.cell 12; have p13 := P3.out.cell 13
      simp only [qgz, qgs] at t0 p0 p1 p2 p3 p4 p5 p6 p7 p8 p9 p10 p11 p12 p13
      go_wp2_with (first | (go_at_call 87; refine (Hh.out _ X3.out.bel).mono ?_; rintro e w6 ⟨rfl, hb6⟩; refine Hid.out ?_))
      refine qh ?_
      have X6 := qh (X3.out.move hb6)
      have P6 := qh (P3.out.below hb6 P3.out.lt)
      clear hb6 t0 p0 p1 p2 p3 p4 p5 p6 p7 p8 p9 p10 p11 p12 p13 X3 P3
      cases rv
      ·have HE : Hid (R = false) := qh (by rw [HRA.out, Hno.out (by rw [Hone.out]; rfl)])
       go_wp2
       go_ret
       exact ⟨ret_bool HE.out.symm, X6.out.bel⟩
      ·have HO : Hid (on1 = loneB ps p (l.take i)) := qh (by rw [Hone.out]; simp)
       clear Hone
       go_wp2
       clear XQ
       obtain ⟨wp, rfl⟩ : ∃ x, x = wr := ⟨_, rfl⟩
       obtain ⟨gq, rfl⟩ : ∃ x, x = gk := ⟨_, rfl⟩
       go_loopg [58] i (fun g iv wr => ∃ y : Nat, Hid (y + g = i) ∧ iv = .int .i64 y ∧ Hid (loneB ps p (l.take i) = loneB ps p ((l.take i).drop y)) ∧ Hid (Wb w (some ⟨b2, o2, none⟩) n c [.slice A1 n1 c1, .slice A2 n2 c2, .slice A3 n3 c3, .slice A4 n4 c4] wr) ∧ Hid (Whole wr (wp.heap.size + 1) 101 [.string ⟨p.nm.toArray⟩, .int .i64 p.ver, .int .i64 p.slot, .slice F fn fc, .int .i64 kd, .string ⟨pa.nm.toArray⟩, .int .i64 pa.op, .int .i64 pa.ver, .int .i64 pa.slot, .string ⟨pa.fl.toArray⟩, .bool pa.on, .string ⟨f.toArray⟩, .bool no, .slice E2 r d']))
       case atStart => exact ⟨0, qh (Nat.zero_add _), rfl, qh rfl, X6, P6⟩
       case round =>
        obtain ⟨y, Hy, rfl, Hly, XL, PL⟩ := hrel
        clear X6 P6
        by_cases hy : y < i
        ·obtain ⟨b', o', m2, E3, u2, v3, eA, hbS', hm2, _, _, _, k0, k1⟩ := (HC.out.s.under XL.out.bel HC.out.lt).at_ (j := y) (by omega)
         injection eA with eA; injection eA with e1 e2; subst e1 e2
         obtain ⟨hq0, hq1, _⟩ := HC.out.ok m2 (List.mem_of_getElem? hm2)
         have Hst := qh (loneB_step (ps := ps) (p := p) (l := l.take i) (j := y) (by rw [List.getElem?_take_of_lt hy]; exact hm2))
         have hpl := Hpl.out
         obtain ⟨pl2, on2⟩ := m2
         dsimp only at k0 hq0 hq1 Hst
         obtain ⟨z, rfl⟩ : ∃ z : Nat, pl2 = z := ⟨pl2.toNat, by omega⟩
         have hzn : z < n := by omega
         obtain ⟨b4, o4, p2, F2, fn2, fc2, kd2, pa2, f2, no2, E4, r2, d2, eA, hbS4, hp2, hP2, hcell2⟩ := (HC.out.t.under XL.out.bel HC.out.lt).at_ hzn
         injection eA with eA; injection eA with e1 e2; subst e1 e2
         rw [pkOf_at hp2] at Hst
         have e0 := hcell2 0 (by omega); have e1 := hcell2 1 (by omega); have e2 := hcell2 2 (by omega); have e3 := hcell2 3 (by omega); have e4 := hcell2 4 (by omega); have e5 := hcell2 5 (by omega); have e6 := hcell2 6 (by omega); have e7 := hcell2 7 (by omega); have e8 := hcell2 8 (by omega); have e9 := hcell2 9 (by omega); have e10 := hcell2 10 (by omega); have e11 := hcell2 11 (by omega); have e12 := hcell2 12 (by omega); have e13 := hcell2 13 (by omega)
         unfold pkRow ndRow at e0 e1 e2 e3 e4 e5 e6 e7 e8 e9 e10 e11 e12 e13
         simp only [List.getElem?_cons_zero, List.getElem?_cons_succ, Nat.add_zero] at e0 e1 e2 e3 e4 e5 e6 e7 e8 e9 e10 e11 e12 e13
         have hbl : b < wr.heap.size := ql (HC.out.lt _ hbS') XL.out.bel.size
         have hbl2 : b2 < wr.heap.size := ql (HC.out.lt _ hbS4) XL.out.bel.size
         have hbl3 : b2 < wr.heap.size + 1 := by omega
         have hbx : Below wr.heap.size wr ((wr.alloc (.cells #[.int .i64 (z : Int), .slice E3 u2 v3] 85)).alloc (.cells #[.string ⟨p2.nm.toArray⟩, .int .i64 p2.ver, .int .i64 p2.slot, .slice F2 fn2 fc2, .int .i64 kd2, .string ⟨pa2.nm.toArray⟩, .int .i64 pa2.op, .int .i64 pa2.ver, .int .i64 pa2.slot, .string ⟨pa2.fl.toArray⟩, .bool pa2.on, .string ⟨f2.toArray⟩, .bool no2, .slice E4 r2 d2] 101)) := ((Below.refl _ wr).alloc (qr _) _).alloc (by simp) _
         have X7 := qh (XL.out.move hbx)
         have P7 := qh (PL.out.below hbx PL.out.lt)
         have t0 := XL.out.t.cell 0
         have p0 := PL.out.cell 0
         have p2' := PL.out.cell 2
         simp only [qgz, qgs] at t0 p0 p2'
         have tlt := XL.out.t.lt
         have tlt1 : w.heap.size < wr.heap.size + 1 := by omega
         have plt := PL.out.lt
         have plt1 : wp.heap.size + 1 < wr.heap.size + 1 := by omega
         have hz1 : (z : Int) < n := by omega
         have hz0 : (0 : Int) ≤ (z : Int) := by omega
         have hyi : (y : Int) < i := by omega
         clear hcell2 hP2 hp2 hm2 hq0 hq1 hbx
         by_cases hnm : p2.nm = p.nm
         ·have hnm' : (p2.nm == p.nm) = true := by simpa using hnm
          by_cases hsl : p2.slot = p.slot
          ·have hsl' : (p2.slot == p.slot) = true := by simpa using hsl
           have HE : Hid (R = false) := qh (by rw [HRA.out, Hno.out (by rw [HO.out, Hly.out, Hst.out, if_pos ⟨hnm, hsl⟩])])
           clear hnm hsl
           go_wp2
           go_ret
           exact ⟨ret_bool HE.out.symm, X7.out.bel⟩
          ·have hsl' : (p2.slot == p.slot) = false := by simpa using hsl
           have HE : Hid (loneB ps p (l.take i) = loneB ps p ((l.take i).drop (y + 1))) := qh (by rw [Hly.out, Hst.out, if_neg (fun h => hsl h.2)])
           clear hnm hsl
           go_wp2
           go_roundg (gk - 1)
           case measure => have := Hy.out; omega
           case rel => exact ⟨y + 1, qh (by have := Hy.out; omega), by go_num, HE, X7, P7⟩
         ·have hnm' : (p2.nm == p.nm) = false := by simpa using hnm
          have HE : Hid (loneB ps p (l.take i) = loneB ps p ((l.take i).drop (y + 1))) := qh (by rw [Hly.out, Hst.out, if_neg (fun h => hnm h.1)])
          clear hnm
          go_wp2
          go_roundg (gk - 1)
          case measure => have := Hy.out; omega
          case rel => exact ⟨y + 1, qh (by have := Hy.out; omega), by go_num, HE, X7, P7⟩
        ·obtain rfl : i = y := by have := Hy.out; omega
         have HE : Hid (allOk ps v.ms l (i + 1) = true) := qh (by
          rw [Hnx.out, HO.out, Hly.out, List.drop_of_length_le (by rw [List.length_take]; omega)]; rfl)
         go_wp2
         go_roundg (gq - 1)
         case measure => have := Hi.out; omega
         case rel => exact ⟨i + 1, qh (by have := Hi.out; omega), by go_num, HE, XL⟩
     ·have HE : Hid (R = false) := qh (by rw [HRA.out, Hno.out (by rw [Hone.out]; rfl)])
      go_wp2
      go_ret
      exact ⟨ret_bool HE.out.symm, X3.out.bel⟩
    ·obtain rfl : q = i := by have := Hi.out; omega
     go_wp2
     go_ret
     exact ⟨ret_bool (by rw [HRA.out, Hll.out, Hcl.out]), XQ.out.bel⟩
end
/- valid.Valid, walked. -/
section
open Go.RowKit Qm

def validE (ps : List Pk) (v : Ws) (l : List Mem) : Int := if ckWish ps v ≠ 0 then ckWish ps v else ckSet ps l
def validV (ps : List Pk) (v : Ws) (l : List Mem) : Bool := decide (validE ps v l = 0) && validP ps v.ts v.ms l
set_option maxRecDepth 100000 in
set_option maxHeartbeats 3200000 in
theorem valid_any (ps : List Pk) (v : Ws) (l : List Mem) (S : Nat → Prop) (A B : Option Addr) (n c q d : Nat) (A1 A2 A3 A4 : Option Addr) (n1 c1 n2 c2 n3 c3 n4 c4 : Nat) (w : World) (hT : RTree w S A n ps) (hnc : n ≤ c) (hc : c ≤ maxLen) (hV : WsAt w S A1 n1 c1 A2 n2 c2 A3 n3 c3 A4 n4 c4 v) (hL : RSet w S B q l) (hqd : q ≤ d) (hd : d ≤ maxLen) (hS : ∀ k, S k → k < w.heap.size) :
  Calls Tryz.prog 18 #[.agg #[.slice A n c], .agg #[.slice A1 n1 c1, .slice A2 n2 c2, .slice A3 n3 c3, .slice A4 n4 c4], .slice B q d] w fun e w' => e = .returned (.tuple #[.bool (validV ps v l), .int .i64 (validE ps v l)]) ∧ Below w.heap.size w w' := by
 have X0 := qh (Wb.new w A n c [.slice A1 n1 c1, .slice A2 n2 c2, .slice A3 n3 c3, .slice A4 n4 c4])
 have HT := qh hT; have HS := qh hS; have HL := qh hL; have HV := qh hV; clear hT hS hL hV
 have Hlt := qh (fun (wx : World) (hb : Below w.heap.size w wx) k hk => ql (HS.out k hk) hb.size)
 have Hcw := qh (cwish_any ps v S A n c A1 A2 A3 A4 n1 c1 n2 c2 n3 c3 n4 c4 _ (HT.out.under X0.out.bel HS.out) hnc hc (HV.out.under X0.out.bel HS.out) (Hlt.out _ X0.out.bel))
 have Hcs := qh (fun wx (hb : Below w.heap.size w wx) => cset_any ps l S A B n c q d wx (HT.out.under hb HS.out) hnc hc (HL.out.under hb HS.out) (Nat.le_trans hqd hd) (Hlt.out _ hb))
 have HE : Hid (validE ps v l = if ckWish ps v ≠ 0 then ckWish ps v else ckSet ps l) := qh rfl
 have HVV : Hid (validV ps v l = (decide (validE ps v l = 0) && validP ps v.ts v.ms l)) := qh rfl
 generalize validE ps v l = e at HE HVV ⊢
 generalize validV ps v l = r at HVV ⊢
 generalize ckWish ps v = z at Hcw HE
 generalize hy : ckSet ps l = y at Hcs HE
 have HY := qh hy; clear hy
 by_cases z0 : z = 0
 ·subst z0
  obtain rfl : e = y := by rw [HE.out, if_neg (by simp)]
  by_cases y0 : e = 0
  ·subst y0
   have Hva := qh (fun wx (hb : Below w.heap.size w wx) => validR_any ps v l S A B n c q d A1 A2 A3 A4 n1 c1 n2 c2 n3 c3 n4 c4 wx (Cx.of HY.out (HT.out.under hb HS.out) hnc hc (HL.out.under hb HS.out) hqd hd (Hlt.out _ hb)) HY.out (HV.out.under hb HS.out))
   obtain rfl : r = validP ps v.ts v.ms l := by rw [HVV.out]; simp
   clear HVV HE
   generalize validP ps v.ts v.ms l = r at Hva ⊢
   go_enter Tryz.func18, Tryz.ntmps18
   go_wp2_with (first | (go_at_call 34; refine Hcw.out.mono ?_; rintro e w2 ⟨rfl, hb2⟩; refine Hid.out ?_))
   refine qh ?_
   have X2 := qh (X0.out.move hb2)
   clear hb2 X0 Hcw
   have t0 := X2.out.t.cell 0
   simp only [qgz, qgs] at t0
   go_wp2_with (first | (go_at_call 56; refine (Hcs.out _ X2.out.bel).mono ?_; rintro e w3 ⟨rfl, hb3⟩; refine Hid.out ?_))
   refine qh ?_
   have X3 := qh (X2.out.move hb3)
   clear hb3 X2 t0
   have t0 := X3.out.t.cell 0
   have v0 := X3.out.v.cell 0; have v1 := X3.out.v.cell 1; have v2 := X3.out.v.cell 2; have v3 := X3.out.v.cell 3
   simp only [qgz, qgs] at t0 v0 v1 v2 v3
   go_wp2_with (first | (go_at_call 57; refine (Hva.out _ X3.out.bel).mono ?_; rintro e w4 ⟨rfl, hb4⟩; refine Hid.out ?_))
   refine qh ?_
   have X4 := qh (X3.out.move hb4)
   clear hb4
   go_wp2
   go_ret2
   exact ⟨rfl, X4.out.bel⟩
  ·have y1 : (e != 0) = true := by simpa using y0
   obtain rfl : r = false := by rw [HVV.out, decide_eq_false y0]; rfl
   clear HVV HE
   go_enter Tryz.func18, Tryz.ntmps18
   go_wp2_with (first | (go_at_call 34; refine Hcw.out.mono ?_; rintro e w2 ⟨rfl, hb2⟩; refine Hid.out ?_))
   refine qh ?_
   have X2 := qh (X0.out.move hb2)
   clear hb2 X0 Hcw
   have t0 := X2.out.t.cell 0
   simp only [qgz, qgs] at t0
   go_wp2_with (first | (go_at_call 56; refine (Hcs.out _ X2.out.bel).mono ?_; rintro e w3 ⟨rfl, hb3⟩; refine Hid.out ?_))
   refine qh ?_
   have X3 := qh (X2.out.move hb3)
   clear hb3 X2 t0
   go_wp2
   go_ret2
   exact ⟨rfl, X3.out.bel⟩
 ·have z1 : (z != 0) = true := by simpa using z0
  obtain rfl : e = z := by rw [HE.out, if_pos z0]
  obtain rfl : r = false := by rw [HVV.out, decide_eq_false z0]; rfl
  clear HVV HE
  go_enter Tryz.func18, Tryz.ntmps18
  go_wp2_with (first | (go_at_call 34; refine Hcw.out.mono ?_; rintro e w2 ⟨rfl, hb2⟩; refine Hid.out ?_))
  refine qh ?_
  have X2 := qh (X0.out.move hb2)
  clear hb2 X0 Hcw
  go_wp2
  go_ret2
  exact ⟨rfl, X2.out.bel⟩
end
/- Walk: rup.Refutes. -/
section
open Go.RowKit
end
/- ResolveProves, walked: it returns true. -/
section
open Go.RowKit Qm

theorem sameMem_iff (x y : Mem) : sameMem x y = true ↔ x = y := by
 obtain ⟨p, o⟩ := x; obtain ⟨q, r⟩ := y
 unfold sameMem
 rw [Bool.and_eq_true, decide_eq_true_eq, beq_iff_eq, Mem.mk.injEq]
theorem eqL_self (l : List Mem) : eqL sameMem l l = true := (eqL_iff sameMem_iff).2 rfl
end
/- Flags gathered into a wish's list: what the loop of two laws keeps. -/
section
open Go.RowKit Qm

def pairsV (xs : List (Int × Int)) : List Value := xs.flatMap fun p => [.int .i64 p.1, .int .i64 p.2]
structure Ro (B0 : Nat) (wb : Nat) (a0 a1 a2 ov : Value) (xs : List (Int × Int)) (w wr : World) : Prop where
 b : Below B0 w wr
 wi : Whole wr wb 30 [a0, a1, a2, ov]
 o : wr.ownsRow (wb + 1) 86 2 ov xs.length (pairsV xs)
 hb : B0 ≤ wb
section
variable {B0 wb : Nat} {a0 a1 a2 ov : Value} {xs : List (Int × Int)} {w wr wy : World}
end
end
/- ResolveNothing, walked: it returns true. -/
section
open Go.RowKit Qm

structure Tn (w : World) (A : Option Addr) (n c : Nat) (wx : World) : Prop where
 t : Whole wx w.heap.size 24 [.slice A n c]
 bel : Below w.heap.size w wx
section
variable {w : World} {A : Option Addr} {n c : Nat} {wx wy : World}
end
theorem valid_zero {ps : List Pk} {v : Ws} {l : List Mem} (h : validE ps v l = 0) : ckWish ps v = 0 ∧ ckTree ps = 0 ∧ ckMs ps none l = 0 := by
 unfold validE at h
 split at h
 ·rename_i g; exact absurd h g
 ·rename_i g
  have := ckSet_zero h
  exact ⟨by simpa using g, this.1, this.2⟩
end
/- A set as literals, step by step. No program in sight. -/
section
open Go.RowKit Qm

def litV (ps : List Pk) (v : Ws) (l : List Mem) (x : Nat) : Int := if chVal ps v l (x - 1) = true then (x : Int) else -(x : Int)
structure Asg (ps : List Pk) (v : Ws) (l : List Mem) (md : List Int) (Q : Nat → Prop) : Prop where
 len : md.length = manyC ps + 1
 at_ : ∀ x, Q x → md.getD x 0 = litV ps v l x
def Qp (ps : List Pk) (v : Ws) (i x : Nat) : Prop := ∃ j, j < i ∧ (x = ((chW ps v).pick j).natAbs ∨ ∃ k, k < (pkOf ps j).fs.length ∧ x = ((chW ps v).on j k).natAbs)
def Qf (ps : List Pk) (v : Ws) (i k x : Nat) : Prop := Qp ps v i x ∨ x = ((chW ps v).pick i).natAbs ∨ ∃ j, j < k ∧ x = ((chW ps v).on i j).natAbs
theorem boolKey (a b : Bool) (x y : Int) : (if (a != b) = true then x else y) = if ((!b) == a) = true then x else y := by cases a <;> cases b <;> rfl
section
variable {ps : List Pk} {v : Ws} {l : List Mem} {md : List Int} {Q Q' : Nat → Prop}
theorem Asg.mono (h : Asg ps v l md Q) (hQ : ∀ x, Q' x → Q x) : Asg ps v l md Q' := ⟨h.len, fun x hx => h.at_ x (hQ x hx)⟩
theorem Asg.put (h : Asg ps v l md Q) {p : Nat} {y : Int} (hp : p < manyC ps + 1) (hy : y = litV ps v l p) : Asg ps v l (md.set p y) (fun x => Q x ∨ x = p) := by
 refine ⟨by rw [List.length_set]; exact h.len, fun x hx => ?_⟩
 rw [List.getD_eq_getElem?_getD, List.getElem?_set]
 by_cases e : p = x
 ·subst e
  rw [if_pos rfl, if_pos (by rw [h.len]; exact hp)]; exact hy
 ·rw [if_neg e, ← List.getD_eq_getElem?_getD]
  exact h.at_ x (hx.resolve_right fun h => e h.symm)
theorem Asg.start : Asg ps v l ((List.range (manyC ps + 1)).map fun _ => 0) (Qp ps v 0) := ⟨by simp, fun x ⟨j, hj, _⟩ => by omega⟩
theorem litV_pick (h : WsOk ps v) {i : Nat} (hi : i < ps.length) {t : Bool} (ht : (atP l i).isSome = t) :
  litV ps v l ((chW ps v).pick i).natAbs = if (decide (0 < (chW ps v).pick i) == t) = true then (((chW ps v).pick i).natAbs : Int) else -(((chW ps v).pick i).natAbs : Int) := by
 unfold litV
 rw [pick_abs, Nat.add_sub_cancel, chVal_pick h hi, ht, pick_pos]
 exact boolKey _ _ _ _
theorem litV_on {i k : Nat} (hi : i < ps.length) (hk : k < (pkOf ps i).fs.length) {m : Mem} (hm : atP l i = some m) :
  litV ps v l ((chW ps v).on i k).natAbs = if (decide (0 < (chW ps v).on i k) == onOf m.on k) = true then (((chW ps v).on i k).natAbs : Int) else -(((chW ps v).on i k).natAbs : Int) := by
 unfold litV
 rw [on_abs, Nat.add_sub_cancel, chVal_on hi hk, hm, on_pos]
 dsimp only
 exact boolKey _ _ _ _
theorem litV_off {i k : Nat} (hi : i < ps.length) (hk : k < (pkOf ps i).fs.length) (hm : atP l i = none) :
  litV ps v l ((chW ps v).on i k).natAbs = -(((chW ps v).on i k).natAbs : Int) := by
 unfold litV
 rw [on_abs, Nat.add_sub_cancel, chVal_on hi hk, hm]
 rfl
theorem Qf_succ {i k x : Nat} (h : Qf ps v i (k + 1) x) : Qf ps v i k x ∨ x = ((chW ps v).on i k).natAbs := by
 rcases h with h | h | ⟨j, hj, h⟩
 ·exact .inl (.inl h)
 ·exact .inl (.inr (.inl h))
 ·by_cases e : j = k
  ·subst e; exact .inr h
  ·exact .inl (.inr (.inr ⟨j, by omega, h⟩))
theorem Qf_zero {i x : Nat} (h : Qf ps v i 0 x) : Qp ps v i x ∨ x = ((chW ps v).pick i).natAbs := by
 rcases h with h | h | ⟨j, hj, _⟩
 ·exact .inl h
 ·exact .inr h
 ·omega
theorem Qp_succ {i x : Nat} (h : Qp ps v (i + 1) x) : Qf ps v i (pkOf ps i).fs.length x := by
 obtain ⟨j, hj, h⟩ := h
 by_cases e : j = i
 ·subst e; exact .inr h
 ·exact .inl ⟨j, by omega, h⟩
theorem Asg.done (hw : WsOk ps v) (h : Asg ps v l md (Qp ps v ps.length)) : md.drop 1 = litsB (chVec ps v l) := by
 have hl := h.len
 apply List.ext_getElem?
 intro x
 unfold litsB
 rw [List.getElem?_drop, List.getElem?_map, chVec_len]
 by_cases hx : x < manyC ps
 ·rw [List.getElem?_range hx, List.getElem?_eq_getElem (by omega)]
  have hq : Qp ps v ps.length (1 + x) := by
   rcases var_owner hw hx with ⟨i, hi, rfl⟩ | ⟨i, k, hi, hk, rfl⟩
   ·exact ⟨i, hi, .inl (by rw [pick_abs]; omega)⟩
   ·exact ⟨i, hi, .inr ⟨k, hk, by rw [on_abs]; omega⟩⟩
  have h1 := h.at_ _ hq
  rw [List.getD_eq_getElem?_getD, List.getElem?_eq_getElem (by omega), Option.getD_some] at h1
  rw [h1, Option.map_some]
  unfold litV
  rw [Nat.add_sub_cancel_left, chVec_at hx]
  congr 1
  split <;> omega
 ·rw [List.getElem?_eq_none (by omega), List.getElem?_eq_none (by simpa using hx)]; rfl
end
theorem atP_ix {l : List Mem} {i : Nat} : (ixB (fun m : Mem => decide (m.pl = (i : Int))) l = -1 ∧ atP l i = none) ∨ ∃ (k : Nat) (m : Mem), ixB (fun m : Mem => decide (m.pl = (i : Int))) l = k ∧ l[k]? = some m ∧ atP l i = some m := by
 unfold ixB atP
 cases h : l.findIdx? (fun m : Mem => decide (m.pl = (i : Int))) with
 | none =>
  left
  refine ⟨rfl, ?_⟩
  rw [List.find?_eq_none]
  rw [List.findIdx?_eq_none_iff] at h
  intro x hx
  have := h x hx
  simpa using this
 | some k =>
  right
  obtain ⟨hk, h1, h2⟩ := List.findIdx?_eq_some_iff_getElem.1 h
  refine ⟨k, l[k], rfl, List.getElem?_eq_getElem hk, ?_⟩
  rw [List.find?_eq_some_iff_getElem]
  exact ⟨h1, k, hk, rfl, fun j hj => by have := h2 j hj; simpa using this⟩
end
/- encode.Literals: its closures, walked. -/
section
open Go.RowKit Qm

set_option maxRecDepth 100000 in
set_option maxHeartbeats 3200000 in
theorem litSet_any (x : Int) (yes : Bool) (mb G N : Nat) (w : World) (hm : Whole w mb 27 [.slice (some ⟨G, 0, none⟩) N N]) (md : List Int) (hg : Whole w G 3 (md.map (.int .i64))) (hl : md.length = N) (hx : x ≠ 0) (hx2 : x.natAbs < N) (hN : N ≤ 100000) :
  Calls Tryz.prog 48 #[.int .i64 x, .bool yes, .pointer (some ⟨mb, 0, none⟩)] w fun e w' => e = .returned (.tuple #[]) ∧ w' = w.setCell ⟨G, x.natAbs, none⟩ (.int .i64 (if (decide (0 < x) == yes) = true then (x.natAbs : Int) else -(x.natAbs : Int))) := by
 have m0 := hm.cell 0
 have gc : w.cell? ⟨G, x.natAbs, none⟩ = some (.int .i64 (md.getD x.natAbs 0)) := by
  rw [hg.cell, List.getElem?_map, List.getElem?_eq_getElem (by omega), List.getD_eq_getElem?_getD, List.getElem?_eq_getElem (by omega)]; rfl
 have gf := hg.free x.natAbs
 have mlt := hm.lt
 have glt := hg.lt
 have hxb : -200000 ≤ x ∧ x ≤ 200000 := by omega
 simp only [List.getElem?_cons_zero] at m0
 clear hm hg hl
 by_cases hp : 0 < x
 ·have hd : decide ((0 : Int) < x) = true := decide_eq_true hp
  obtain ⟨k, rfl⟩ : ∃ k : Nat, x = k := ⟨x.toNat, by omega⟩
  have e1 : (k : Int).natAbs = k := by omega
  have hmx : max (k : Int) (-(k : Int)) = k := by omega
  rw [e1] at gc gf hx2 ⊢
  rw [hd]
  have hkn : (k : Int) < N := by omega
  have hk0 : (0 : Int) ≤ (k : Int) := by omega
  have hkp : decide (0 < k) = true := decide_eq_true (by omega)
  have hkp2 : 0 < k := by omega
  clear e1 hx hxb
  cases yes
  ·go_enter Tryz.func48, Tryz.ntmps48
   go_wp2
   exact bodyPost_end (results_none rfl _ _ _) rfl ⟨rfl, rfl⟩
  ·go_enter Tryz.func48, Tryz.ntmps48
   go_wp2
   exact bodyPost_end (results_none rfl _ _ _) rfl ⟨rfl, rfl⟩
 ·have hd : decide ((0 : Int) < x) = false := decide_eq_false hp
  obtain ⟨k, rfl⟩ : ∃ k : Nat, x = -(k : Int) := ⟨(-x).toNat, by omega⟩
  have e1 : (-(k : Int)).natAbs = k := by omega
  have hmx : max (-(k : Int)) (k : Int) = k := by omega
  rw [hd]
  rw [e1] at gc gf hx2 ⊢
  have hd2 : decide ((0 : Int) < -(k : Int)) = false := decide_eq_false (by omega)
  have hkn : (k : Int) < N := by omega
  have hk0 : (0 : Int) ≤ (k : Int) := by omega
  clear e1 hx hxb hd
  cases yes
  ·go_enter Tryz.func48, Tryz.ntmps48
   go_wp2
   exact bodyPost_end (results_none rfl _ _ _) rfl ⟨rfl, rfl⟩
  ·go_enter Tryz.func48, Tryz.ntmps48
   go_wp2
   exact bodyPost_end (results_none rfl _ _ _) rfl ⟨rfl, rfl⟩
set_option maxRecDepth 100000 in
set_option maxHeartbeats 3200000 in
theorem litAt_any (pl : Int) (A : Option Addr) (n c ib i : Nat) (w : World) (hi : w.cell? ⟨ib, 0, none⟩ = some (.int .i64 (i : Int))) :
  Calls Tryz.prog 50 #[.agg #[.int .i64 pl, .slice A n c], .pointer (some ⟨ib, 0, none⟩)] w fun e w' => e = .returned (.bool (decide (pl = (i : Int)))) ∧ Below w.heap.size w w' := by
 have hal : Below w.heap.size w (w.alloc (.cells #[.int .i64 pl, .slice A n c] 85)) := (Below.refl _ w).alloc (qr _) _
 have ilt := World.block_lt_of_cell? _ _ hi
 dsimp only at ilt
 have hw := (Whole.new w w.heap.size 85 [.int .i64 pl, .slice A n c] rfl).cell 0
 simp only [List.getElem?_cons_zero] at hw
 have HB := qh hal
 clear hal
 go_enter Tryz.func50, Tryz.ntmps50
 go_wp2
 go_ret
 exact ⟨ret_bool (by by_cases e : pl = (i : Int) <;> simp [e]), HB.out⟩
end
end Go.Proofs.YtedbhlgjcnnknaaGreatDoor
