/- Parts of the proof: walks and plain laws, side by side. -/
import Derived.Test.YtedbhlgjcnnknaaGreatDoorM29
import Derived.Test.YtedbhlgjcnnknaaGreatDoorM24
import Derived.Test.YtedbhlgjcnnknaaGreatDoorM7
import Derived.Test.YtedbhlgjcnnknaaGreatDoorM18
set_option linter.unusedVariables false
set_option linter.unusedSimpArgs false
set_option linter.unusedSectionVars false
namespace Go.Proofs.YtedbhlgjcnnknaaGreatDoor
/- valid.valid, walked. -/
section
open Go.RowKit Qm

theorem all_take_succ {α : Type} {f : α → Bool} {l : List α} {j : Nat} {x : α} (h : l[j]? = some x) : (l.take (j + 1)).all f = ((l.take j).all f && f x) := by
 obtain ⟨hj, rfl⟩ := List.getElem?_eq_some_iff.1 h
 rw [List.take_succ_eq_append_getElem hj, List.all_append]; simp
theorem all_take_false {α : Type} {f : α → Bool} {l : List α} {j : Nat} {x : α} (h : l[j]? = some x) (hf : f x = false) : l.all f = false := by
 rw [Bool.eq_false_iff]
 intro ha
 have := List.all_eq_true.1 ha x (List.mem_of_getElem? h)
 rw [hf] at this; cases this
theorem allOk_false {ps : List Pk} {ms : List Int} {l : List Mem} {i : Nat} (hi : i < l.length) (h : oneOk ps ms l i = false) : allOk ps ms l l.length = false := by
 rw [Bool.eq_false_iff]
 intro ha
 have := allOk_at ha i hi
 rw [h] at this; cases this
theorem loneB_step {ps : List Pk} {p : Pk} {l : List Mem} {j : Nat} {o : Mem} (h : l[j]? = some o) : loneB ps p (l.drop j) = if (pkOf ps o.pl).nm = p.nm ∧ (pkOf ps o.pl).slot = p.slot then false else loneB ps p (l.drop (j + 1)) := by
 obtain ⟨hj, rfl⟩ := List.getElem?_eq_some_iff.1 h
 rw [List.drop_eq_getElem_cons hj]; rfl
set_option maxRecDepth 100000 in
set_option maxHeartbeats 6400000 in
theorem validR_any (ps : List Pk) (v : Ws) (l : List Mem) (S : Nat → Prop) (A B : Option Addr) (n c q d : Nat) (A1 A2 A3 A4 : Option Addr) (n1 c1 n2 c2 n3 c3 n4 c4 : Nat) (w : World) (C : Cx ps l S A n c B q d w) (hck : ckSet ps l = 0) (hV : WsAt w S A1 n1 c1 A2 n2 c2 A3 n3 c3 A4 n4 c4 v) :
  Calls Tryz.prog 57 #[.agg #[.slice A n c], .agg #[.slice A1 n1 c1, .slice A2 n2 c2, .slice A3 n3 c3, .slice A4 n4 c4], .slice B q d] w fun e w' => e = .returned (.bool (validP ps v.ts v.ms l)) ∧ Below w.heap.size w w' := by
 have X0 := qh (Wb.new w A n c [.slice A1 n1 c1, .slice A2 n2 c2, .slice A3 n3 c3, .slice A4 n4 c4])
 have HC := qh C; have HV := qh hV; have HCK := qh hck; clear hV hck
 have Hpl := qh C.t.len
 have Hll := qh C.s.len
 have Hts := qh HV.out.ts.len
 have H1 := HV.out.h1; have H3 := HV.out.h3
 have hqd := C.qd; have hdm := C.dm; have hn8 := C.n8; have hcm := C.cm
 unfold maxLen at H1 H3 hdm hcm
 clear C
 have HR : Hid (validP ps v.ts v.ms l = (v.ts.all (fun a => l.any (fun m => isA ps m a)) && allOk ps v.ms l l.length)) := qh rfl
 generalize validP ps v.ts v.ms l = R at HR ⊢
 go_enter Tryz.func57, Tryz.ntmps57
 go_wp2
 go_loopg [18] n1 (fun g iv wr => ∃ j : Nat, Hid (j + g = n1) ∧ iv = .int .i64 j ∧ Hid ((v.ts.take j).all (fun a => l.any (fun m => isA ps m a)) = true) ∧ Hid (Wb w A n c [.slice A1 n1 c1, .slice A2 n2 c2, .slice A3 n3 c3, .slice A4 n4 c4] wr))
 case atStart => exact ⟨0, qh (Nat.zero_add _), rfl, qh rfl, X0⟩
 case round =>
  obtain ⟨j, Hj, rfl, Hcl, XR⟩ := hrel
  clear X0
  by_cases hj : j < n1
  ·obtain ⟨b, o, x, a, rfl, hbS, ha, hxa, _, hcell⟩ := (HV.out.ts.keep (w' := wr) (fun p hp => XR.out.bel.cell (HC.out.lt _ hp)) fun _ _ h => h).at_ hj (by decide)
   obtain ⟨rfl, ha1, ha2⟩ := hxa
   have g0 := hcell 0 (by omega); have g1 := hcell 1 (by omega); have g2 := hcell 2 (by omega); have g3 := hcell 3 (by omega); have g4 := hcell 4 (by omega); have g5 := hcell 5 (by omega)
   unfold atRow at g0 g1 g2 g3 g4 g5
   simp only [List.getElem?_cons_zero, List.getElem?_cons_succ, Nat.add_zero] at g0 g1 g2 g3 g4 g5
   have X3 := qh (XR.out.alloc (.cells (atRow a).toArray 75))
   have W3 := qh (Whole.new wr wr.heap.size 75 (atRow a) rfl)
   have hcf := containsF_M (RMem w S) (fun m => isA ps m a) B q d l 85 #[.pointer (some ⟨w.heap.size, 0, none⟩), .pointer (some ⟨wr.heap.size, 0, none⟩)] _ S (RSeq.keep HC.out.s (fun p hp => X3.out.bel.cell (HC.out.lt _ hp)) fun _ _ h => h) (fun x hx => ql (HC.out.lt x hx) X3.out.bel.size) (by unfold maxLen; omega)
    ⟨fun args W => by kernel_rfl, fun m hm cx W hb hr => target_any HC.out a ha1 ha2 w.heap.size wr.heap.size hm cx hr W (X3.out.bel.trans (hb.mono X3.out.bel.size)) ((X3.out.t.below hb X3.out.t.lt).cell 0) (fun i _ => (W3.out.below hb W3.out.lt).cell i)⟩ (fun x y h => shape_mem h)
   have Hst := qh (all_take_succ (f := fun a => l.any (fun m => isA ps m a)) ha)
   have Hfa := qh (all_take_false (f := fun a => l.any (fun m => isA ps m a)) ha)
   generalize hq2 : l.any (fun m => isA ps m a) = r at hcf Hst Hfa
   have Hcf := qh hcf
   have Hq2 := qh hq2
   unfold atRow at Hcf X3
   clear hcf hcell ha hq2
   go_wp2_with (first | (go_at_call 84; refine Hcf.out.mono ?_; rintro e w4 ⟨rfl, hb4⟩; refine Hid.out ?_))
   refine qh ?_
   have X4 := qh (X3.out.move hb4)
   clear hb4 g0 g1 g2 g3 g4 g5 X3 W3
   cases r
   ·have HE : Hid (R = false) := qh (by rw [HR.out, Hfa.out rfl]; rfl)
    go_wp2
    go_ret
    exact ⟨ret_bool HE.out.symm, X4.out.bel⟩
   ·have HE : Hid ((v.ts.take (j + 1)).all (fun a => l.any (fun m => isA ps m a)) = true) := qh (by rw [Hst.out, Hcl.out]; rfl)
    go_wp2
    go_roundg (gk - 1)
    case measure => have := Hj.out; omega
    case rel => exact ⟨j + 1, qh (by have := Hj.out; omega), by go_num, HE, X4⟩
  ·obtain rfl : n1 = j := by have := Hj.out; omega
   have HRA : Hid (R = allOk ps v.ms l l.length) := qh (by
    have h := Hcl.out
    rw [List.take_of_length_le (by have := Hts.out; omega)] at h
    rw [HR.out, h]; rfl)
   clear HR Hcl
   go_wp2
   obtain ⟨wq, hwq⟩ : ∃ x, x = wr := ⟨_, rfl⟩
   rw [← hwq] at XR ⊢
   clear hwq
   go_loopg [29] q (fun g iv wr => ∃ i : Nat, Hid (i + g = q) ∧ iv = .int .i64 i ∧ Hid (allOk ps v.ms l i = true) ∧ Hid (Wb w A n c [.slice A1 n1 c1, .slice A2 n2 c2, .slice A3 n3 c3, .slice A4 n4 c4] wr))
   case atStart => exact ⟨0, qh (Nat.zero_add _), rfl, qh rfl, XR⟩
   case round =>
    obtain ⟨i, Hi, rfl, Hcl, XQ⟩ := hrel
    clear XR
    by_cases hi : i < q
    ·have hrel := qh (fun (wx : World) (hb : Below w.heap.size w wx) => (HC.out.s.under hb HC.out.lt).at_ hi)
     obtain ⟨b, o, m, E, u, v0, rfl, hbS, hm, huv, hv, _, g0, g1⟩ := (HC.out.s.under XQ.out.bel HC.out.lt).at_ hi
     obtain ⟨hp0, hp1, _⟩ := HC.out.ok m (List.mem_of_getElem? hm)
     have Hown := qh (own_flags HCK.out (k := i) (by have := Hll.out; omega))
     have hil : i < l.length := by have := Hll.out; omega
     have Hho := qh (fun cx wx (hb : Below w.heap.size w wx) hr => holds_any ps l S A n c (some ⟨b, o, none⟩) q d (pkOf ps (memAt l i).pl).nd i cx wx (HC.out.under hb) hi hr Hown.out)
     have Hone : Hid (oneOk ps v.ms l i = (!v.ms.contains (memAt l i).pl && (holdsN ps l i (memAt l i) (pkOf ps (memAt l i).pl).nd && loneB ps (pkOf ps (memAt l i).pl) (l.take i)))) := qh rfl
     have Hnx : Hid (allOk ps v.ms l (i + 1) = oneOk ps v.ms l i) := qh (by rw [allOk, Hcl.out]; rfl)
     have Hno := qh (fun h => allOk_false (ps := ps) (ms := v.ms) hil h)
     generalize oneOk ps v.ms l i = on1 at Hone Hnx Hno
     rw [memAt_at hm] at Hho Hone
     have hpl := Hpl.out
     have Hms := qh (fun wx (hb : Below w.heap.size w wx) => containsI_any A3 n3 c3 v.ms m.pl wx S (Row.below HV.out.ms hb HC.out.lt) (by unfold maxLen; omega))
     obtain ⟨pl, on⟩ := m
     dsimp only at g0 hp0 hp1 Hho Hone Hms
     obtain ⟨j, rfl⟩ : ∃ j : Nat, pl = j := ⟨pl.toNat, by omega⟩
     have hjn : j < n := by omega
     obtain ⟨b2, o2, p, F, fn, fc, kd, pa, f, no, E2, r, d', rfl, hbS2, hp, hP, hcell⟩ := (HC.out.t.under XQ.out.bel HC.out.lt).at_ hjn
     rw [pkOf_at hp] at Hho Hone
     have hho := fun wx (hb : Below w.heap.size w wx) => Hho.out (ndRow kd pa f no E2 r d') wx hb ((hP.nd.keep (w' := w) (fun p hp => (XQ.out.bel.cell (HC.out.lt _ hp)).symm)).under hb HC.out.lt)
     have h0 := hcell 0 (by omega); have h1 := hcell 1 (by omega); have h2 := hcell 2 (by omega); have h3 := hcell 3 (by omega); have h4 := hcell 4 (by omega); have h5 := hcell 5 (by omega); have h6 := hcell 6 (by omega); have h7 := hcell 7 (by omega); have h8 := hcell 8 (by omega); have h9 := hcell 9 (by omega); have h10 := hcell 10 (by omega); have h11 := hcell 11 (by omega); have h12 := hcell 12 (by omega); have h13 := hcell 13 (by omega)
     unfold pkRow ndRow at h0 h1 h2 h3 h4 h5 h6 h7 h8 h9 h10 h11 h12 h13
     simp only [List.getElem?_cons_zero, List.getElem?_cons_succ, Nat.add_zero] at h0 h1 h2 h3 h4 h5 h6 h7 h8 h9 h10 h11 h12 h13
     have hbl : b < wr.heap.size := ql (HC.out.lt _ hbS) XQ.out.bel.size
     have hbl2 : b2 < wr.heap.size := ql (HC.out.lt _ hbS2) XQ.out.bel.size
     have hbl3 : b2 < wr.heap.size + 1 := by omega
     generalize holdsN ps l i ⟨(j : Int), on⟩ p.nd = rv at Hone hho
     generalize v.ms.contains (j : Int) = mc at Hms Hone
     have hbx : Below wr.heap.size wr ((wr.alloc (.cells #[.int .i64 (j : Int), .slice E u v0] 85)).alloc (.cells (pkRow p F fn fc (ndRow kd pa f no E2 r d')).toArray 101)) := ((Below.refl _ wr).alloc (qr _) _).alloc (by simp) _
     have X3 := qh (XQ.out.move hbx)
     have P3 := qh (Whole.new (wr.alloc (.cells #[.int .i64 (j : Int), .slice E u v0] 85)) (wr.heap.size + 1) 101 (pkRow p F fn fc (ndRow kd pa f no E2 r d')) (by simp))
     have t0 := XQ.out.t.cell 0
     have v2 := XQ.out.v.cell 2
     simp only [qgz, qgs] at t0 v2
     have vlt := XQ.out.v.lt
     have tlt := XQ.out.t.lt
     have vlt1 : w.heap.size + 1 < wr.heap.size + 1 := by omega
     have tlt1 : w.heap.size < wr.heap.size + 1 := by omega
     have hjn1 : (j : Int) < n := by omega
     have hjn0 : (0 : Int) ≤ (j : Int) := by omega
     have hiq : (i : Int) ≤ d := by omega
     have hi0 : (0 : Int) ≤ (i : Int) := by omega
     have Hp : Hid (ps[j]? = some p) := qh hp
     have Hh := qh hho
     clear hho hcell hP hp hm hp0 hp1 hbx
     unfold pkRow ndRow at P3 X3
     unfold ndRow at Hh
     go_wp2_with (first | (go_at_call 43; refine (Hms.out _ X3.out.bel).mono ?_; rintro e w4 ⟨rfl, hw4⟩; have hw5 := hw4.symm; subst hw5; refine Hid.out ?_))
     refine qh ?_
     generalize World.alloc (World.alloc wr _) _ = w4 at X3 P3 ⊢
     clear t0 v2 vlt tlt vlt1 tlt1 h0 h1 h2 h3 h4 h5 h6 h7 h8 h9 h10 h11 h12 h13 hbl hbl2 hbl3 g0 g1
     cases mc
     ·have t0 := X3.out.t.cell 0
      have p0 := P3.out.cell 0; have p1 := P3.out.cell 1; have p2 := P3.out.cell 2; have p3 := P3.out.cell 3; have p4 := P3.out.cell 4; have p5 := P3.out.cell 5; have p6 := P3.out.cell 6; have p7 := P3.out.cell 7; have p8 := P3.out.cell 8; have p9 := P3.out.cell 9; have p10 := P3.out.cell 10; have p11 := P3.out.cell 11; have p12 := P3.out.cell 12; have p13 := P3.out.cell 13
      simp only [qgz, qgs] at t0 p0 p1 p2 p3 p4 p5 p6 p7 p8 p9 p10 p11 p12 p13
      go_wp2_with (first | (go_at_call 87; refine (Hh.out _ X3.out.bel).mono ?_; rintro e w6 ⟨rfl, hb6⟩; refine Hid.out ?_))
      refine qh ?_
      have X6 := qh (X3.out.move hb6)
      have P6 := qh (P3.out.below hb6 P3.out.lt)
      clear hb6 t0 p0 p1 p2 p3 p4 p5 p6 p7 p8 p9 p10 p11 p12 p13 X3 P3
      cases rv
      ·have HE : Hid (R = false) := qh (by rw [HRA.out, Hno.out (by rw [Hone.out]; rfl)])
       go_wp2
       go_ret
       exact ⟨ret_bool HE.out.symm, X6.out.bel⟩
      ·have HO : Hid (on1 = loneB ps p (l.take i)) := qh (by rw [Hone.out]; simp)
       clear Hone
       go_wp2
       clear XQ
       obtain ⟨wp, rfl⟩ : ∃ x, x = wr := ⟨_, rfl⟩
       obtain ⟨gq, rfl⟩ : ∃ x, x = gk := ⟨_, rfl⟩
       go_loopg [58] i (fun g iv wr => ∃ y : Nat, Hid (y + g = i) ∧ iv = .int .i64 y ∧ Hid (loneB ps p (l.take i) = loneB ps p ((l.take i).drop y)) ∧ Hid (Wb w (some ⟨b2, o2, none⟩) n c [.slice A1 n1 c1, .slice A2 n2 c2, .slice A3 n3 c3, .slice A4 n4 c4] wr) ∧ Hid (Whole wr (wp.heap.size + 1) 101 [.string ⟨p.nm.toArray⟩, .int .i64 p.ver, .int .i64 p.slot, .slice F fn fc, .int .i64 kd, .string ⟨pa.nm.toArray⟩, .int .i64 pa.op, .int .i64 pa.ver, .int .i64 pa.slot, .string ⟨pa.fl.toArray⟩, .bool pa.on, .string ⟨f.toArray⟩, .bool no, .slice E2 r d']))
       case atStart => exact ⟨0, qh (Nat.zero_add _), rfl, qh rfl, X6, P6⟩
       case round =>
        obtain ⟨y, Hy, rfl, Hly, XL, PL⟩ := hrel
        clear X6 P6
        by_cases hy : y < i
        ·obtain ⟨b', o', m2, E3, u2, v3, eA, hbS', hm2, _, _, _, k0, k1⟩ := (HC.out.s.under XL.out.bel HC.out.lt).at_ (j := y) (by omega)
         injection eA with eA; injection eA with e1 e2; subst e1 e2
         obtain ⟨hq0, hq1, _⟩ := HC.out.ok m2 (List.mem_of_getElem? hm2)
         have Hst := qh (loneB_step (ps := ps) (p := p) (l := l.take i) (j := y) (by rw [List.getElem?_take_of_lt hy]; exact hm2))
         have hpl := Hpl.out
         obtain ⟨pl2, on2⟩ := m2
         dsimp only at k0 hq0 hq1 Hst
         obtain ⟨z, rfl⟩ : ∃ z : Nat, pl2 = z := ⟨pl2.toNat, by omega⟩
         have hzn : z < n := by omega
         obtain ⟨b4, o4, p2, F2, fn2, fc2, kd2, pa2, f2, no2, E4, r2, d2, eA, hbS4, hp2, hP2, hcell2⟩ := (HC.out.t.under XL.out.bel HC.out.lt).at_ hzn
         injection eA with eA; injection eA with e1 e2; subst e1 e2
         rw [pkOf_at hp2] at Hst
         have e0 := hcell2 0 (by omega); have e1 := hcell2 1 (by omega); have e2 := hcell2 2 (by omega); have e3 := hcell2 3 (by omega); have e4 := hcell2 4 (by omega); have e5 := hcell2 5 (by omega); have e6 := hcell2 6 (by omega); have e7 := hcell2 7 (by omega); have e8 := hcell2 8 (by omega); have e9 := hcell2 9 (by omega); have e10 := hcell2 10 (by omega); have e11 := hcell2 11 (by omega); have e12 := hcell2 12 (by omega); have e13 := hcell2 13 (by omega)
         unfold pkRow ndRow at e0 e1 e2 e3 e4 e5 e6 e7 e8 e9 e10 e11 e12 e13
         simp only [List.getElem?_cons_zero, List.getElem?_cons_succ, Nat.add_zero] at e0 e1 e2 e3 e4 e5 e6 e7 e8 e9 e10 e11 e12 e13
         have hbl : b < wr.heap.size := ql (HC.out.lt _ hbS') XL.out.bel.size
         have hbl2 : b2 < wr.heap.size := ql (HC.out.lt _ hbS4) XL.out.bel.size
         have hbl3 : b2 < wr.heap.size + 1 := by omega
         have hbx : Below wr.heap.size wr ((wr.alloc (.cells #[.int .i64 (z : Int), .slice E3 u2 v3] 85)).alloc (.cells #[.string ⟨p2.nm.toArray⟩, .int .i64 p2.ver, .int .i64 p2.slot, .slice F2 fn2 fc2, .int .i64 kd2, .string ⟨pa2.nm.toArray⟩, .int .i64 pa2.op, .int .i64 pa2.ver, .int .i64 pa2.slot, .string ⟨pa2.fl.toArray⟩, .bool pa2.on, .string ⟨f2.toArray⟩, .bool no2, .slice E4 r2 d2] 101)) := ((Below.refl _ wr).alloc (qr _) _).alloc (by simp) _
         have X7 := qh (XL.out.move hbx)
         have P7 := qh (PL.out.below hbx PL.out.lt)
         have t0 := XL.out.t.cell 0
         have p0 := PL.out.cell 0
         have p2' := PL.out.cell 2
         simp only [qgz, qgs] at t0 p0 p2'
         have tlt := XL.out.t.lt
         have tlt1 : w.heap.size < wr.heap.size + 1 := by omega
         have plt := PL.out.lt
         have plt1 : wp.heap.size + 1 < wr.heap.size + 1 := by omega
         have hz1 : (z : Int) < n := by omega
         have hz0 : (0 : Int) ≤ (z : Int) := by omega
         have hyi : (y : Int) < i := by omega
         clear hcell2 hP2 hp2 hm2 hq0 hq1 hbx
         by_cases hnm : p2.nm = p.nm
         ·have hnm' : (p2.nm == p.nm) = true := by simpa using hnm
          by_cases hsl : p2.slot = p.slot
          ·have hsl' : (p2.slot == p.slot) = true := by simpa using hsl
           have HE : Hid (R = false) := qh (by rw [HRA.out, Hno.out (by rw [HO.out, Hly.out, Hst.out, if_pos ⟨hnm, hsl⟩])])
           clear hnm hsl
           go_wp2
           go_ret
           exact ⟨ret_bool HE.out.symm, X7.out.bel⟩
          ·have hsl' : (p2.slot == p.slot) = false := by simpa using hsl
           have HE : Hid (loneB ps p (l.take i) = loneB ps p ((l.take i).drop (y + 1))) := qh (by rw [Hly.out, Hst.out, if_neg (fun h => hsl h.2)])
           clear hnm hsl
           go_wp2
           go_roundg (gk - 1)
           case measure => have := Hy.out; omega
           case rel => exact ⟨y + 1, qh (by have := Hy.out; omega), by go_num, HE, X7, P7⟩
         ·have hnm' : (p2.nm == p.nm) = false := by simpa using hnm
          have HE : Hid (loneB ps p (l.take i) = loneB ps p ((l.take i).drop (y + 1))) := qh (by rw [Hly.out, Hst.out, if_neg (fun h => hnm h.1)])
          clear hnm
          go_wp2
          go_roundg (gk - 1)
          case measure => have := Hy.out; omega
          case rel => exact ⟨y + 1, qh (by have := Hy.out; omega), by go_num, HE, X7, P7⟩
        ·obtain rfl : i = y := by have := Hy.out; omega
         have HE : Hid (allOk ps v.ms l (i + 1) = true) := qh (by
          rw [Hnx.out, HO.out, Hly.out, List.drop_of_length_le (by rw [List.length_take]; omega)]; rfl)
         go_wp2
         go_roundg (gq - 1)
         case measure => have := Hi.out; omega
         case rel => exact ⟨i + 1, qh (by have := Hi.out; omega), by go_num, HE, XL⟩
     ·have HE : Hid (R = false) := qh (by rw [HRA.out, Hno.out (by rw [Hone.out]; rfl)])
      go_wp2
      go_ret
      exact ⟨ret_bool HE.out.symm, X3.out.bel⟩
    ·obtain rfl : q = i := by have := Hi.out; omega
     go_wp2
     go_ret
     exact ⟨ret_bool (by rw [HRA.out, Hll.out, Hcl.out]), XQ.out.bel⟩
end
/- valid.Valid, walked. -/
section
open Go.RowKit Qm

def validE (ps : List Pk) (v : Ws) (l : List Mem) : Int := if ckWish ps v ≠ 0 then ckWish ps v else ckSet ps l
def validV (ps : List Pk) (v : Ws) (l : List Mem) : Bool := decide (validE ps v l = 0) && validP ps v.ts v.ms l
set_option maxRecDepth 100000 in
set_option maxHeartbeats 3200000 in
theorem valid_any (ps : List Pk) (v : Ws) (l : List Mem) (S : Nat → Prop) (A B : Option Addr) (n c q d : Nat) (A1 A2 A3 A4 : Option Addr) (n1 c1 n2 c2 n3 c3 n4 c4 : Nat) (w : World) (hT : RTree w S A n ps) (hnc : n ≤ c) (hc : c ≤ maxLen) (hV : WsAt w S A1 n1 c1 A2 n2 c2 A3 n3 c3 A4 n4 c4 v) (hL : RSet w S B q l) (hqd : q ≤ d) (hd : d ≤ maxLen) (hS : ∀ k, S k → k < w.heap.size) :
  Calls Tryz.prog 18 #[.agg #[.slice A n c], .agg #[.slice A1 n1 c1, .slice A2 n2 c2, .slice A3 n3 c3, .slice A4 n4 c4], .slice B q d] w fun e w' => e = .returned (.tuple #[.bool (validV ps v l), .int .i64 (validE ps v l)]) ∧ Below w.heap.size w w' := by
 have X0 := qh (Wb.new w A n c [.slice A1 n1 c1, .slice A2 n2 c2, .slice A3 n3 c3, .slice A4 n4 c4])
 have HT := qh hT; have HS := qh hS; have HL := qh hL; have HV := qh hV; clear hT hS hL hV
 have Hlt := qh (fun (wx : World) (hb : Below w.heap.size w wx) k hk => ql (HS.out k hk) hb.size)
 have Hcw := qh (cwish_any ps v S A n c A1 A2 A3 A4 n1 c1 n2 c2 n3 c3 n4 c4 _ (HT.out.under X0.out.bel HS.out) hnc hc (HV.out.under X0.out.bel HS.out) (Hlt.out _ X0.out.bel))
 have Hcs := qh (fun wx (hb : Below w.heap.size w wx) => cset_any ps l S A B n c q d wx (HT.out.under hb HS.out) hnc hc (HL.out.under hb HS.out) (Nat.le_trans hqd hd) (Hlt.out _ hb))
 have HE : Hid (validE ps v l = if ckWish ps v ≠ 0 then ckWish ps v else ckSet ps l) := qh rfl
 have HVV : Hid (validV ps v l = (decide (validE ps v l = 0) && validP ps v.ts v.ms l)) := qh rfl
 generalize validE ps v l = e at HE HVV ⊢
 generalize validV ps v l = r at HVV ⊢
 generalize ckWish ps v = z at Hcw HE
 generalize hy : ckSet ps l = y at Hcs HE
 have HY := qh hy; clear hy
 by_cases z0 : z = 0
 ·subst z0
  obtain rfl : e = y := by rw [HE.out, if_neg (by simp)]
  by_cases y0 : e = 0
  ·subst y0
   have Hva := qh (fun wx (hb : Below w.heap.size w wx) => validR_any ps v l S A B n c q d A1 A2 A3 A4 n1 c1 n2 c2 n3 c3 n4 c4 wx (Cx.of HY.out (HT.out.under hb HS.out) hnc hc (HL.out.under hb HS.out) hqd hd (Hlt.out _ hb)) HY.out (HV.out.under hb HS.out))
   obtain rfl : r = validP ps v.ts v.ms l := by rw [HVV.out]; simp
   clear HVV HE
   generalize validP ps v.ts v.ms l = r at Hva ⊢
   go_enter Tryz.func18, Tryz.ntmps18
   go_wp2_with (first | (go_at_call 34; refine Hcw.out.mono ?_; rintro e w2 ⟨rfl, hb2⟩; refine Hid.out ?_))
   refine qh ?_
   have X2 := qh (X0.out.move hb2)
   clear hb2 X0 Hcw
   have t0 := X2.out.t.cell 0
   simp only [qgz, qgs] at t0
   go_wp2_with (first | (go_at_call 56; refine (Hcs.out _ X2.out.bel).mono ?_; rintro e w3 ⟨rfl, hb3⟩; refine Hid.out ?_))
   refine qh ?_
   have X3 := qh (X2.out.move hb3)
   clear hb3 X2 t0
   have t0 := X3.out.t.cell 0
   have v0 := X3.out.v.cell 0; have v1 := X3.out.v.cell 1; have v2 := X3.out.v.cell 2; have v3 := X3.out.v.cell 3
   simp only [qgz, qgs] at t0 v0 v1 v2 v3
   go_wp2_with (first | (go_at_call 57; refine (Hva.out _ X3.out.bel).mono ?_; rintro e w4 ⟨rfl, hb4⟩; refine Hid.out ?_))
   refine qh ?_
   have X4 := qh (X3.out.move hb4)
   clear hb4
   go_wp2
   go_ret2
   exact ⟨rfl, X4.out.bel⟩
  ·have y1 : (e != 0) = true := by simpa using y0
   obtain rfl : r = false := by rw [HVV.out, decide_eq_false y0]; rfl
   clear HVV HE
   go_enter Tryz.func18, Tryz.ntmps18
   go_wp2_with (first | (go_at_call 34; refine Hcw.out.mono ?_; rintro e w2 ⟨rfl, hb2⟩; refine Hid.out ?_))
   refine qh ?_
   have X2 := qh (X0.out.move hb2)
   clear hb2 X0 Hcw
   have t0 := X2.out.t.cell 0
   simp only [qgz, qgs] at t0
   go_wp2_with (first | (go_at_call 56; refine (Hcs.out _ X2.out.bel).mono ?_; rintro e w3 ⟨rfl, hb3⟩; refine Hid.out ?_))
   refine qh ?_
   have X3 := qh (X2.out.move hb3)
   clear hb3 X2 t0
   go_wp2
   go_ret2
   exact ⟨rfl, X3.out.bel⟩
 ·have z1 : (z != 0) = true := by simpa using z0
  obtain rfl : e = z := by rw [HE.out, if_pos z0]
  obtain rfl : r = false := by rw [HVV.out, decide_eq_false z0]; rfl
  clear HVV HE
  go_enter Tryz.func18, Tryz.ntmps18
  go_wp2_with (first | (go_at_call 34; refine Hcw.out.mono ?_; rintro e w2 ⟨rfl, hb2⟩; refine Hid.out ?_))
  refine qh ?_
  have X2 := qh (X0.out.move hb2)
  clear hb2 X0 Hcw
  go_wp2
  go_ret2
  exact ⟨rfl, X2.out.bel⟩
end
/- Walk: rup.Refutes. -/
section
open Go.RowKit
set_option maxRecDepth 100000 in
set_option maxHeartbeats 2000000 in
theorem refutes_any (A A' : Option Addr) (n cap n' cap' : Nat) (vars : Int) (cs pf : List (List Int)) (w : World) (S : Nat → Prop) (hS : ∀ k, S k → k < w.heap.size)
  (hr : RClauses w S A n cs) (hr' : RClauses w S A' n' pf) (hn : n ≤ cap ∧ cap ≤ maxLen) (hn' : n' ≤ cap' ∧ cap' ≤ maxLen) (hv : -9223372036854775808 ≤ vars) (hv' : vars ≤ 9223372036854775807) :
  Calls Tryz.prog 33 #[.agg #[.int .i64 vars, .slice A n cap], .slice A' n' cap'] w fun e w' => e = .returned (.tuple #[.bool (refOk vars cs pf), .int .i64 (badErr vars cs pf)]) ∧ Below w.heap.size w w' := by
 have Hlen := qh hr'.len
 have hnm := Nat.le_trans hn'.1 hn'.2
 unfold maxLen at hnm
 obtain ⟨w0, hw0⟩ : ∃ x, x = w.alloc (.cells #[.int .i64 vars, .slice A n cap] 33) := ⟨_, rfl⟩
 have hb0 : Below w.heap.size w w0 := by rw [hw0]; exact (Below.refl _ _).alloc (qr _) _
 have hck := bad_any A A' n cap n' cap' vars cs pf w0 S (fun k hk => by have := hS k hk; have := hb0.size; omega) (hr.below hb0 hS) (hr'.below hb0 hS) hn hn' hv hv'
 have hz0 : w0.heap.size = w.heap.size + 1 := by rw [hw0]; simp
 have Hbb : Hid (∀ w1, Below w0.heap.size w0 w1 → Below w.heap.size w w1) := fun w1 h => hb0.trans (h.mono (by omega))
 have Hr' := qh hr'
 clear hr hr' hb0 hz0
 generalize hk : badK vars cs pf = k at hck
 generalize he : badErr vars cs pf = e at hck
 have Hk := qh hk; have He := qh he; clear hk he
 have HR : Hid (refOk vars cs pf = (decide (e = 0) && decide (k < 0) && decide (0 < n') && decide ((pf.getD (n' - 1) []).length = 0))) := by
  show _ = _; unfold refOk; rw [Hk.out, He.out, Hlen.out]
 rw [hw0] at hck
 have Hck := qh hck; have Hw0 := qh hw0
 clear hck hw0
 by_cases h0 : e = 0
 ·subst h0
  by_cases h1 : k < 0
  ·by_cases h2 : 0 < n'
   ·have h2' : (0 : Int) < (n' : Int) := by omega
    go_enter Tryz.func33, Tryz.ntmps33
    go_wp2_with fail
    refine Hck.out.mono ?_
    rintro e w1 ⟨rfl, hb1⟩
    have Hb1 : Hid (Below w.heap.size w w1) := Hbb.out w1 (by rw [Hw0.out]; exact hb1)
    clear hb1
    obtain ⟨b, o, A2, n2, c2, rfl, hb, hcell, hc, hnc, hcm⟩ := (Hr'.out.below Hb1.out hS).at_ (k := n' - 1) (by omega)
    have Hl2 := qh hc.len
    clear hc
    have hi : ((n' : Int) - 1) = ((n' - 1 : Nat) : Int) := by omega
    go_wp2_with fail
    go_ret2
    refine ⟨ret2_bi ?_ rfl, Hb1.out⟩
    rw [HR.out, Hl2.out]
    have : decide (0 < n') = true := by simp; omega
    rw [this, Bool.eq_iff_iff]
    simp
    omega
   ·obtain rfl : n' = 0 := by omega
    go_enter Tryz.func33, Tryz.ntmps33
    go_wp2_with fail
    refine Hck.out.mono ?_
    rintro e w1 ⟨rfl, hb1⟩
    have Hb1 : Hid (Below w.heap.size w w1) := Hbb.out w1 (by rw [Hw0.out]; exact hb1)
    clear hb1
    go_wp2_with fail
    go_ret2
    exact ⟨ret2_bi (by rw [HR.out]; simp) rfl, Hb1.out⟩
  ·go_enter Tryz.func33, Tryz.ntmps33
   go_wp2_with fail
   refine Hck.out.mono ?_
   rintro e w1 ⟨rfl, hb1⟩
   have Hb1 : Hid (Below w.heap.size w w1) := Hbb.out w1 (by rw [Hw0.out]; exact hb1)
   clear hb1
   go_wp2_with fail
   go_ret2
   exact ⟨ret2_bi (by rw [HR.out, show decide (k < 0) = false from by simp; omega]; simp) rfl, Hb1.out⟩
 ·have h0' : (e != 0) = true := by simpa using h0
  have HF : Hid (refOk vars cs pf = false) := by show _ = _; rw [HR.out]; simp [h0]
  clear h0
  go_enter Tryz.func33, Tryz.ntmps33
  go_wp2_with fail
  refine Hck.out.mono ?_
  rintro e w1 ⟨rfl, hb1⟩
  have Hb1 : Hid (Below w.heap.size w w1) := Hbb.out w1 (by rw [Hw0.out]; exact hb1)
  clear hb1
  go_wp2_with fail
  go_ret2
  exact ⟨ret2_bi HF.out.symm rfl, Hb1.out⟩
end
/- ResolveProves, walked: it returns true. -/
section
open Go.RowKit Qm

theorem sameMem_iff (x y : Mem) : sameMem x y = true ↔ x = y := by
 obtain ⟨p, o⟩ := x; obtain ⟨q, r⟩ := y
 unfold sameMem
 rw [Bool.and_eq_true, decide_eq_true_eq, beq_iff_eq, Mem.mk.injEq]
theorem eqL_self (l : List Mem) : eqL sameMem l l = true := (eqL_iff sameMem_iff).2 rfl
theorem valid_of {ps : List Pk} {v : Ws} {l : List Mem} (h : ckWish ps v = 0) (hc : ckMs ps none l = 0) (hv : validP ps v.ts v.ms l = true) : validE ps v l = 0 ∧ validV ps v l = true := by
 have e : validE ps v l = 0 := by
  unfold validE ckSet
  rw [if_neg (by rw [h]; decide), if_neg (by rw [(wish_parts h).tree]; decide)]; exact hc
 exact ⟨e, by unfold validV; rw [e, hv]; rfl⟩
theorem valid_may {ps : List Pk} {v : Ws} {l : List Mem} (h : validV ps v l = true) : May ps v := by
 unfold validV at h
 rw [Bool.and_eq_true, decide_eq_true_eq] at h
 obtain ⟨h1, h2⟩ := h
 refine ⟨l, ?_, h2⟩
 unfold validE at h1
 split at h1
 ·rename_i g; exact absurd h1 g
 ·exact (ckSet_zero h1).2
set_option maxRecDepth 100000 in
set_option maxHeartbeats 6400000 in
theorem rproves_any (ps : List Pk) (v : Ws) (lo : List Mem) (sN : Int) (S : Nat → Prop) (A B : Option Addr) (n c q d : Nat) (A1 A2 A3 A4 : Option Addr) (n1 c1 n2 c2 n3 c3 n4 c4 : Nat) (w : World) (hT : RTree w S A n ps) (hnc : n ≤ c) (hc : c ≤ maxLen) (hV : WsAt w S A1 n1 c1 A2 n2 c2 A3 n3 c3 A4 n4 c4 v) (hLo : RSet w S B q lo) (hqd : q ≤ d) (hd : d ≤ maxLen) (hs0 : -9223372036854775808 ≤ sN) (hs1 : sN ≤ 9223372036854775807) (hS : ∀ k, S k → k < w.heap.size) (hLV : LaidV w) (hMW : MaxW w) :
  Calls Tryz.prog 7 #[.agg #[.slice A n c], .agg #[.slice A1 n1 c1, .slice A2 n2 c2, .slice A3 n3 c3, .slice A4 n4 c4], .slice B q d, .int .i64 sN] w fun e w' => e = .returned (.bool true) ∧ Below w.heap.size w w' := by
 have X0 := qh (Wb.new w A n c [.slice A1 n1 c1, .slice A2 n2 c2, .slice A3 n3 c3, .slice A4 n4 c4])
 have HT := qh hT; have HV := qh hV; have HS := qh hS; have HLo := qh hLo; have HLV := qh hLV; have HMW := qh hMW; clear hT hV hS hLo hLV hMW
 have Hlt := qh (fun (wx : World) (hb : Below w.heap.size w wx) k hk => ql (HS.out k hk) hb.size)
 have HRS := qh (fun (s : Int) (hs : 1 ≤ s ∧ s ≤ 40000) wx (hb : Below w.heap.size w wx) => resolve_any ps v s S A n c A1 A2 A3 A4 n1 c1 n2 c2 n3 c3 n4 c4 wx (HT.out.under hb HS.out) hnc hc (HV.out.under hb HS.out) (Hlt.out _ hb) (by omega) (by omega))
 have HVA := qh (fun (l : List Mem) (Bl : Option Addr) (ql dl : Nat) wx (hb : Below w.heap.size w wx) (hl : RSet wx (fun k => k < wx.heap.size) Bl ql l) (h1 : ql ≤ dl) (h2 : dl ≤ maxLen) => valid_any ps v l (fun k => k < wx.heap.size) A Bl n c ql dl A1 A2 A3 A4 n1 c1 n2 c2 n3 c3 n4 c4 wx ((HT.out.under hb HS.out).more fun k hk => Hlt.out _ hb k hk) hnc hc ((HV.out.under hb HS.out).more fun k hk => Hlt.out _ hb k hk) hl h1 h2 (fun k hk => hk))
 have HEN := qh (fun wx (hb : Below w.heap.size w wx) => encode_any ps v S A n c A1 A2 A3 A4 n1 c1 n2 c2 n3 c3 n4 c4 wx (HT.out.under hb HS.out) hnc hc (HV.out.under hb HS.out) (Hlt.out _ hb))
 have HCW := qh (fun wx (hb : Below w.heap.size w wx) => cwish_any ps v S A n c A1 A2 A3 A4 n1 c1 n2 c2 n3 c3 n4 c4 wx (HT.out.under hb HS.out) hnc hc (HV.out.under hb HS.out) (Hlt.out _ hb))
 have Hrd := qh (fun wx (hb : Below w.heap.size w wx) => resolved_any wx (HLV.out.below hb) (HMW.out.below hb))
 have HAt := qh (fun wx => at_any sN 200 wx (by decide) (by decide) hs0 hs1)
 have HR0 := qh (HRS.out 40000 (by decide) _ X0.out.bel)
 obtain ⟨z, hz⟩ : ∃ z, resE ps v 40000 = z := ⟨_, rfl⟩
 have HZ := qh hz; clear hz
 obtain ⟨L, hL⟩ : ∃ L, resM ps v 40000 = L := ⟨_, rfl⟩
 have HL := qh hL; clear hL
 have t0 := X0.out.t.cell 0; have u0 := X0.out.v.cell 0; have u1 := X0.out.v.cell 1; have u2 := X0.out.v.cell 2; have u3 := X0.out.v.cell 3
 simp only [qgz, qgs] at t0 u0 u1 u2 u3
 go_enter Tryz.func7, Tryz.ntmps7
 go_upto_region 2 with (first | (go_at_call 27; refine HR0.out.mono ?_; rintro e w2 ⟨Aa, na, ca, Ba, ka, da, rfl, hSa, ha1, ha2, hPa, hk1, hk2, hb2⟩; rw [HZ.out]; refine Hid.out ?_))
 refine qh ?_
 have X2 := qh (X0.out.move hb2)
 rw [HL.out] at hSa
 have SA2 := qh (hSa.more (S' := fun k => k < w2.heap.size) fun k hk => hk.2)
 have PA2 := qh (hPa.more (S' := fun k => k < w2.heap.size) fun k hk => hk.2)
 unfold maxLen at ha2 hk2
 clear hb2 X0 HR0 hSa hPa t0 u0 u1 u2 u3
 have t0 := X2.out.t.cell 0; have u0 := X2.out.v.cell 0; have u1 := X2.out.v.cell 1; have u2 := X2.out.v.cell 2; have u3 := X2.out.v.cell 3
 simp only [qgz, qgs] at t0 u0 u1 u2 u3
 go_upto_region 2 with fail
 refine wp_region_held_drew (S := (fun w' => w'.cell? ⟨w.heap.size, 0, none⟩ = some (.slice A n c) ∧ w'.cell? ⟨w.heap.size + 1, 0, none⟩ = some (.slice A1 n1 c1) ∧ w'.cell? ⟨w.heap.size + 1, 1, none⟩ = some (.slice A2 n2 c2) ∧ w'.cell? ⟨w.heap.size + 1, 2, none⟩ = some (.slice A3 n3 c3) ∧ w'.cell? ⟨w.heap.size + 1, 3, none⟩ = some (.slice A4 n4 c4))) (by kernel_rfl) (⟨t0, u0, u1, u2, u3⟩) (fun hHeld => ?_)
 first | (refine tkA (v := ?_) held_at0 ?_ ?_; rotate_left; focus ((intro w_ hSw; (try dsimp only at hSw); go_simp; (try with_reducible rfl)); done)) | (refine tkB held_at0 ?_)
 (try simp only [Act.put, qsa, qsz, qss])
 first | (refine tkA (v := ?_) held_at1 ?_ ?_; rotate_left; focus ((intro w_ hSw; (try dsimp only at hSw); go_simp; (try with_reducible rfl)); done)) | (refine tkB held_at1 ?_)
 (try simp only [Act.put, qsa, qsz, qss])
 first | (refine tkA (v := ?_) held_at2 ?_ ?_; rotate_left; focus ((intro w_ hSw; (try dsimp only at hSw); go_simp; (try with_reducible rfl)); done)) | (refine tkB held_at2 ?_)
 (try simp only [Act.put, qsa, qsz, qss])
 refine wpAnyH_ready (rs := [3]) (by kernel_rfl) (by simp) ?_
 refine AllReadyH.cons held_at3 (fun K hK => ?_) AllReadyH.nil
 (try simp only [qsa, qsz, qss])
 go_simp
 go_at_call 17
 refine (HAt.out _).mono ?_
 rintro e wn ⟨⟨r, rfl, hr0, hr1⟩, rfl⟩
 have hwr : IntKind.i64.wrap (1 + r) = 1 + r := IntWalk.i64_in _ (by omega)
 refine hK.out _ _ (⟨t0, u0, u1, u2, u3⟩) (fun hHeld => ?_)
 clear hK K
 (try simp only [Act.put, qsa, qsz, qss])
 first | (refine tkA (v := ?_) held_at4 ?_ ?_; rotate_left; focus ((intro w_ hSw; (try dsimp only at hSw); go_simp; (try with_reducible rfl)); done)) | (refine tkB held_at4 ?_)
 (try simp only [Act.put, qsa, qsz, qss])
 refine wpAnyH_ready (rs := [5]) (by kernel_rfl) (by simp) ?_
 refine AllReadyH.cons held_at5 (fun K hK => ?_) AllReadyH.nil
 (try simp only [qsa, qsz, qss])
 go_simp
 go_at_call 27
 refine (HRS.out (1 + r) ⟨by omega, by omega⟩ _ (by first | exact X2.out.bel | exact below_drewN X2.out.bel _)).mono ?_
 rintro e wn ⟨Ab, nb, cb, Bb, kb, db, rfl, hSb, hb1, hb2, -, -, -, hb⟩
 have X3 := qh (by first | exact X2.out.move hb | exact X2.out.move ((below_drewN (Below.refl _ _) _).trans hb))
 have SA3 := qh (by first | exact (SA2.out.under hb fun k hk => hk).more (S' := fun k => k < wn.heap.size) fun k hk => ql hk hb.size | exact (SA2.out.under ((below_drewN (Below.refl _ _) _).trans hb) fun k hk => hk).more (S' := fun k => k < wn.heap.size) fun k hk => ql hk ((below_drewN (Below.refl _ _) _).trans hb).size)
 have PA3 := qh (by first | exact (PA2.out.below hb fun k hk => hk).more (S' := fun k => k < wn.heap.size) fun k hk => ql hk hb.size | exact (PA2.out.below ((below_drewN (Below.refl _ _) _).trans hb) fun k hk => hk).more (S' := fun k => k < wn.heap.size) fun k hk => ql hk ((below_drewN (Below.refl _ _) _).trans hb).size)
 have SB3 := qh (hSb.more (S' := fun k => k < wn.heap.size) fun k hk => hk.2)
 clear hb hSb t0 u0 u1 u2 u3; have t0 := X3.out.t.cell 0; have u0 := X3.out.v.cell 0; have u1 := X3.out.v.cell 1; have u2 := X3.out.v.cell 2; have u3 := X3.out.v.cell 3; simp only [qgz, qgs] at t0 u0 u1 u2 u3
 refine hK.out _ _ (⟨t0, u0, u1, u2, u3⟩) (fun hHeld => ?_)
 clear hK K
 (try simp only [Act.put, qsa, qsz, qss])
 first | (refine tkA (v := ?_) held_at6 ?_ ?_; rotate_left; focus ((intro w_ hSw; (try dsimp only at hSw); go_simp; (try with_reducible rfl)); done)) | (refine tkB held_at6 ?_)
 (try simp only [Act.put, qsa, qsz, qss])
 first | (refine tkA (v := ?_) held_at7 ?_ ?_; rotate_left; focus ((intro w_ hSw; (try dsimp only at hSw); go_simp; (try with_reducible rfl)); done)) | (refine tkB held_at7 ?_)
 (try simp only [Act.put, qsa, qsz, qss])
 first | (refine tkA (v := ?_) held_at8 ?_ ?_; rotate_left; focus ((intro w_ hSw; (try dsimp only at hSw); go_simp; (try with_reducible rfl)); done)) | (refine tkB held_at8 ?_)
 (try simp only [Act.put, qsa, qsz, qss])
 first | (refine tkA (v := ?_) held_at9 ?_ ?_; rotate_left; focus ((intro w_ hSw; (try dsimp only at hSw); go_simp; (try with_reducible rfl)); done)) | (refine tkB held_at9 ?_)
 (try simp only [Act.put, qsa, qsz, qss])
 first | (refine tkA (v := ?_) held_at10 ?_ ?_; rotate_left; focus ((intro w_ hSw; (try dsimp only at hSw); go_simp; (try with_reducible rfl)); done)) | (refine tkB held_at10 ?_)
 (try simp only [Act.put, qsa, qsz, qss])
 first | (refine tkA (v := ?_) held_at11 ?_ ?_; rotate_left; focus ((intro w_ hSw; (try dsimp only at hSw); go_simp; (try with_reducible rfl)); done)) | (refine tkB held_at11 ?_)
 (try simp only [Act.put, qsa, qsz, qss])
 first | (refine tkA (v := ?_) held_at12 ?_ ?_; rotate_left; focus ((intro w_ hSw; (try dsimp only at hSw); go_simp; (try with_reducible rfl)); done)) | (refine tkB held_at12 ?_)
 (try simp only [Act.put, qsa, qsz, qss])
 refine wpAnyH_done (by kernel_rfl) ?_ _
 skip
 have hfew := res_few (ps := ps) (v := v) (s := 1 + r) ⟨by omega, by omega⟩
 rw [HZ.out, HL.out] at hfew
 have hz8 : (z == 8) = false := by
  have h := resE_is ps v
  rw [HZ.out] at h
  have h6 := ckWish_6 ps v
  unfold Ck6 at h6
  rw [beq_eq_false_iff_ne]
  omega
 obtain ⟨y, hy⟩ : ∃ y, resE ps v (1 + r) = y := ⟨_, rfl⟩
 obtain ⟨L2, hL2⟩ : ∃ L2, resM ps v (1 + r) = L2 := ⟨_, rfl⟩
 rw [hy, hL2] at hfew
 rw [hL2] at SB3
 rw [hy]
 have HO3 := qh (Hrd.out _ X3.out.bel)
 clear hy hL2 X2 SA2 PA2 hwr
 rcases hfew with hy8 | ⟨hyz, hll⟩
 ·subst hy8
  go_upto_region 5 with (first | (go_at_call 29; refine HO3.out.mono ?_; rintro e w5 ⟨rfl, hb5⟩; refine Hid.out ?_))
  refine qh ?_
  have X5 := qh (X3.out.move hb5)
  have SA5 := qh ((SA3.out.under hb5 fun k hk => hk).more (S' := fun k => k < w5.heap.size) fun k hk => ql hk hb5.size)
  have PA5 := qh ((PA3.out.below hb5 fun k hk => hk).more (S' := fun k => k < w5.heap.size) fun k hk => ql hk hb5.size)
  clear hb5 HO3 X3 SA3 PA3 SB3 t0 u0 u1 u2 u3
  go_upto_region 5 with fail
  have t0 := X5.out.t.cell 0; have u0 := X5.out.v.cell 0; have u1 := X5.out.v.cell 1; have u2 := X5.out.v.cell 2; have u3 := X5.out.v.cell 3
  simp only [qgz, qgs] at t0 u0 u1 u2 u3
  have HV5 := qh (HVA.out lo B q d _ X5.out.bel ((HLo.out.under X5.out.bel HS.out).more fun k hk => Hlt.out _ X5.out.bel k hk) hqd hd)
  have HMY : Hid (validV ps v lo = true → May ps v) := qh valid_may
  have HVZ : Hid (validE ps v lo ≠ 0 → validV ps v lo = false) := qh fun h => by unfold validV; rw [decide_eq_false h]; rfl
  obtain ⟨ov, hov⟩ : ∃ x, validV ps v lo = x := ⟨_, rfl⟩
  obtain ⟨oe, hoe⟩ : ∃ x, validE ps v lo = x := ⟨_, rfl⟩
  rw [hov] at HMY HVZ HV5
  rw [hoe] at HVZ HV5
  clear hov hoe
  go_upto_region 6 with (first | (go_at_call 18; refine HV5.out.mono ?_; rintro e w6 ⟨rfl, hb6⟩; refine Hid.out ?_))
  refine qh ?_
  have X6 := qh (X5.out.move hb6)
  have SA6 := qh ((SA5.out.under hb6 fun k hk => hk).more (S' := fun k => k < w6.heap.size) fun k hk => ql hk hb6.size)
  have PA6 := qh ((PA5.out.below hb6 fun k hk => hk).more (S' := fun k => k < w6.heap.size) fun k hk => ql hk hb6.size)
  clear hb6 HV5 X5 SA5 PA5 t0 u0 u1 u2 u3
  have t0 := X6.out.t.cell 0; have u0 := X6.out.v.cell 0; have u1 := X6.out.v.cell 1; have u2 := X6.out.v.cell 2; have u3 := X6.out.v.cell 3
  simp only [qgz, qgs] at t0 u0 u1 u2 u3
  by_cases hz0 : z = 0
  ·subst hz0
   obtain ⟨hck, hsl, hsp⟩ := res_zero HZ.out
   rcases res_max hck with ⟨_, hbest, hrp⟩ | ⟨h7, _⟩
   ·rw [HL.out] at hbest
    obtain ⟨hve, hvv⟩ := valid_of hck hbest.ck hbest.ok
    have hv6 := HVA.out L Aa na ca w6 X6.out.bel SA6.out ha1 (by unfold maxLen; exact ha2)
    rw [hve, hvv] at hv6
    have HV6 := qh hv6
    obtain rfl : ka = 0 := by have := PA6.out.len; rw [hrp] at this; exact this.symm
    clear hve hvv hv6 hbest hrp hck hsl hsp
    go_wp2_with (first | (go_at_call 18; refine HV6.out.mono ?_; rintro e w7 ⟨rfl, hb7⟩; refine Hid.out ?_))
    refine qh ?_
    have X7 := qh (X6.out.move hb7)
    clear hb7
    go_wp2
    go_ret
    exact ⟨rfl, X7.out.bel⟩
   ·rw [HZ.out] at h7; cases h7
  ·by_cases hz7 : z = 7
   ·subst hz7
    have hck : ckWish ps v = 0 := by
     have h := resE_is ps v
     rw [HZ.out] at h
     rcases h with ⟨h, _⟩ | ⟨_, _, _, h⟩
     ·exact h
     ·exact absurd rfl h
    rcases res_max hck with ⟨h0, _⟩ | ⟨_, hno, _, _, _, hrf, hbe⟩
    ·rw [HZ.out] at h0; cases h0
    have HE6 := qh (HEN.out w6 X6.out.bel)
    have HCK := qh hck; have HRF := qh hrf; have HBE := qh hbe
    have hov : ov = false := by
     cases ov
     ·rfl
     ·exact absurd (HMY.out rfl) hno
    subst hov
    have hN4 : encN ps v ≤ 400 := by rw [(encN_of hck).1]; exact (encW_ok hck).n400
    obtain ⟨LL, hLL⟩ : ∃ x, (encC ps v).length = x := ⟨_, rfl⟩
    have HLL := qh hLL
    clear hck hno hrf hbe HMY HVZ hLL
    go_upto_region 12 with (first | (go_at_call 12; refine HE6.out.mono ?_; rintro e w7 ⟨F, cF, rfl, hcl, hcc, hcm, hb7⟩; rw [HCK.out, HLL.out]; refine Hid.out ?_))
    refine qh ?_
    rw [HLL.out] at hcl hcc
    go_upto_region 12 with fail
    have hb8 : Below w7.heap.size w7 (w7.alloc (.cells #[.int .i64 (encN ps v : Int), .slice F LL cF] 33)) := (Below.refl _ w7).alloc (qr _) _
    have F8 := qh (Whole.new w7 w7.heap.size 33 [.int .i64 (encN ps v : Int), .slice F LL cF] rfl)
    have X8 := qh ((X6.out.move hb7).move hb8)
    have hP8 := (((PA6.out.below hb7 fun k hk => hk).below hb8 fun k hk => ql hk hb7.size).more (S' := fun k => k < (w7.alloc (.cells #[.int .i64 (encN ps v : Int), .slice F LL cF] 33)).heap.size) fun k hk => ql hk (Nat.le_trans hb7.size hb8.size))
    have hrf8 := refutes_any F Ba LL cF ka da (encN ps v : Int) (encC ps v) (resP ps v 40000) (w7.alloc (.cells #[.int .i64 (encN ps v : Int), .slice F LL cF] 33)) (fun k => k < (w7.alloc (.cells #[.int .i64 (encN ps v : Int), .slice F LL cF] 33)).heap.size) (fun k hk => hk) ((hcl.below hb8 fun k hk => hk.2).more fun k hk => ql hk.2 hb8.size) hP8 ⟨hcc, hcm⟩ ⟨hk1, by unfold maxLen; exact hk2⟩ (by omega) (by omega)
    rw [HRF.out, HBE.out] at hrf8
    have HR8 := qh hrf8
    unfold maxLen at hcm
    have f0 := F8.out.cell 0; have f1 := F8.out.cell 1
    simp only [qgz, qgs] at f0 f1
    clear hb7 hb8 hcl hP8 hrf8 X6 SA6 PA6 HE6 t0 u0 u1 u2 u3
    go_wp2_with (first | (go_at_call 33; refine HR8.out.mono ?_; rintro e w9 ⟨rfl, hb9⟩; refine Hid.out ?_))
    refine qh ?_
    have X9 := qh (X8.out.move hb9)
    clear hb9 HR8 X8 F8 f0 f1
    by_cases hoe0 : oe = 0
    ·subst hoe0
     go_wp2
     go_ret
     exact ⟨rfl, X9.out.bel⟩
    ·have hoeb : (oe == 0) = false := by simpa using hoe0
     have hoen : (oe != 0) = true := by unfold bne; rw [hoeb]; rfl
     go_wp2
     go_ret
     exact ⟨rfl, X9.out.bel⟩
   ·have hzz0 : (z == 0) = false := by simpa using hz0
    have hzz7 : (z == 7) = false := by simpa using hz7
    have hck : ckWish ps v = z := by
     have h := resE_is ps v
     rw [HZ.out] at h
     rcases h with ⟨_, h | h⟩ | ⟨_, h, _⟩
     ·exact absurd h hz0
     ·exact absurd h hz7
     ·exact h.symm
    have hcw := HCW.out w6 X6.out.bel
    rw [hck] at hcw
    have HC6 := qh hcw
    have hzs : (z == z) = true := beq_self_eq_true z
    clear hck hcw HMY HVZ
    go_wp2_with (first | (go_at_call 34; refine HC6.out.mono ?_; rintro e w7 ⟨rfl, hb7⟩; refine Hid.out ?_))
    refine qh ?_
    have X7 := qh (X6.out.move hb7)
    clear hb7
    go_wp2
    go_ret
    exact ⟨ret_bool (by first | rfl | exact hzs | simp), X7.out.bel⟩
 ·have hyz := hyz.symm
  have hll := hll.symm
  subst hyz hll
  have hzz : (z == z) = true := beq_self_eq_true z
  have hz8b : (z != 8) = true := by unfold bne; rw [hz8]; rfl
  have hzzb : (z != z) = false := by unfold bne; rw [hzz]; rfl
  go_upto_region 5 with (first | (go_at_call 29; refine HO3.out.mono ?_; rintro e w4 ⟨rfl, hb4⟩; refine Hid.out ?_))
  refine qh ?_
  have X4 := qh (X3.out.move hb4)
  have SA4 := qh ((SA3.out.under hb4 fun k hk => hk).more (S' := fun k => k < w4.heap.size) fun k hk => ql hk hb4.size)
  have SB4 := (SB3.out.under hb4 fun k hk => hk).more (S' := fun k => k < w4.heap.size) fun k hk => ql hk hb4.size
  have PA4 := qh ((PA3.out.below hb4 fun k hk => hk).more (S' := fun k => k < w4.heap.size) fun k hk => ql hk hb4.size)
  have hss := sameSett_any L L (fun k => k < w4.heap.size) Aa Ab na ca nb cb w4 SA4.out SB4 (fun k hk => hk) (by unfold maxLen; omega) (Nat.le_trans hb1 hb2)
  rw [eqL_self] at hss
  have HSS := qh hss
  clear hb4 HO3 X3 SA3 PA3 SB3 t0 u0 u1 u2 u3 SB4 hss
  go_upto_region 5 with (first | (go_at_call 16; refine HSS.out.mono ?_; rintro e w5 ⟨rfl, hb5⟩; refine Hid.out ?_))
  refine qh ?_
  have X5 := qh (X4.out.move hb5)
  have SA5 := qh ((SA4.out.under hb5 fun k hk => hk).more (S' := fun k => k < w5.heap.size) fun k hk => ql hk hb5.size)
  have PA5 := qh ((PA4.out.below hb5 fun k hk => hk).more (S' := fun k => k < w5.heap.size) fun k hk => ql hk hb5.size)
  clear hb5 HSS X4 SA4 PA4
  go_upto_region 5 with fail
  have t0 := X5.out.t.cell 0; have u0 := X5.out.v.cell 0; have u1 := X5.out.v.cell 1; have u2 := X5.out.v.cell 2; have u3 := X5.out.v.cell 3
  simp only [qgz, qgs] at t0 u0 u1 u2 u3
  have HV5 := qh (HVA.out lo B q d _ X5.out.bel ((HLo.out.under X5.out.bel HS.out).more fun k hk => Hlt.out _ X5.out.bel k hk) hqd hd)
  have HMY : Hid (validV ps v lo = true → May ps v) := qh valid_may
  have HVZ : Hid (validE ps v lo ≠ 0 → validV ps v lo = false) := qh fun h => by unfold validV; rw [decide_eq_false h]; rfl
  obtain ⟨ov, hov⟩ : ∃ x, validV ps v lo = x := ⟨_, rfl⟩
  obtain ⟨oe, hoe⟩ : ∃ x, validE ps v lo = x := ⟨_, rfl⟩
  rw [hov] at HMY HVZ HV5
  rw [hoe] at HVZ HV5
  clear hov hoe
  go_upto_region 6 with (first | (go_at_call 18; refine HV5.out.mono ?_; rintro e w6 ⟨rfl, hb6⟩; refine Hid.out ?_))
  refine qh ?_
  have X6 := qh (X5.out.move hb6)
  have SA6 := qh ((SA5.out.under hb6 fun k hk => hk).more (S' := fun k => k < w6.heap.size) fun k hk => ql hk hb6.size)
  have PA6 := qh ((PA5.out.below hb6 fun k hk => hk).more (S' := fun k => k < w6.heap.size) fun k hk => ql hk hb6.size)
  clear hb6 HV5 X5 SA5 PA5 t0 u0 u1 u2 u3
  have t0 := X6.out.t.cell 0; have u0 := X6.out.v.cell 0; have u1 := X6.out.v.cell 1; have u2 := X6.out.v.cell 2; have u3 := X6.out.v.cell 3
  simp only [qgz, qgs] at t0 u0 u1 u2 u3
  by_cases hz0 : z = 0
  ·subst hz0
   obtain ⟨hck, hsl, hsp⟩ := res_zero HZ.out
   rcases res_max hck with ⟨_, hbest, hrp⟩ | ⟨h7, _⟩
   ·rw [HL.out] at hbest
    obtain ⟨hve, hvv⟩ := valid_of hck hbest.ck hbest.ok
    have hv6 := HVA.out L Aa na ca w6 X6.out.bel SA6.out ha1 (by unfold maxLen; exact ha2)
    rw [hve, hvv] at hv6
    have HV6 := qh hv6
    obtain rfl : ka = 0 := by have := PA6.out.len; rw [hrp] at this; exact this.symm
    clear hve hvv hv6 hbest hrp hck hsl hsp
    go_wp2_with (first | (go_at_call 18; refine HV6.out.mono ?_; rintro e w7 ⟨rfl, hb7⟩; refine Hid.out ?_))
    refine qh ?_
    have X7 := qh (X6.out.move hb7)
    clear hb7
    go_wp2
    go_ret
    exact ⟨rfl, X7.out.bel⟩
   ·rw [HZ.out] at h7; cases h7
  ·by_cases hz7 : z = 7
   ·subst hz7
    have hck : ckWish ps v = 0 := by
     have h := resE_is ps v
     rw [HZ.out] at h
     rcases h with ⟨h, _⟩ | ⟨_, _, _, h⟩
     ·exact h
     ·exact absurd rfl h
    rcases res_max hck with ⟨h0, _⟩ | ⟨_, hno, _, _, _, hrf, hbe⟩
    ·rw [HZ.out] at h0; cases h0
    have HE6 := qh (HEN.out w6 X6.out.bel)
    have HCK := qh hck; have HRF := qh hrf; have HBE := qh hbe
    have hov : ov = false := by
     cases ov
     ·rfl
     ·exact absurd (HMY.out rfl) hno
    subst hov
    have hN4 : encN ps v ≤ 400 := by rw [(encN_of hck).1]; exact (encW_ok hck).n400
    obtain ⟨LL, hLL⟩ : ∃ x, (encC ps v).length = x := ⟨_, rfl⟩
    have HLL := qh hLL
    clear hck hno hrf hbe HMY HVZ hLL
    go_upto_region 12 with (first | (go_at_call 12; refine HE6.out.mono ?_; rintro e w7 ⟨F, cF, rfl, hcl, hcc, hcm, hb7⟩; rw [HCK.out, HLL.out]; refine Hid.out ?_))
    refine qh ?_
    rw [HLL.out] at hcl hcc
    go_upto_region 12 with fail
    have hb8 : Below w7.heap.size w7 (w7.alloc (.cells #[.int .i64 (encN ps v : Int), .slice F LL cF] 33)) := (Below.refl _ w7).alloc (qr _) _
    have F8 := qh (Whole.new w7 w7.heap.size 33 [.int .i64 (encN ps v : Int), .slice F LL cF] rfl)
    have X8 := qh ((X6.out.move hb7).move hb8)
    have hP8 := (((PA6.out.below hb7 fun k hk => hk).below hb8 fun k hk => ql hk hb7.size).more (S' := fun k => k < (w7.alloc (.cells #[.int .i64 (encN ps v : Int), .slice F LL cF] 33)).heap.size) fun k hk => ql hk (Nat.le_trans hb7.size hb8.size))
    have hrf8 := refutes_any F Ba LL cF ka da (encN ps v : Int) (encC ps v) (resP ps v 40000) (w7.alloc (.cells #[.int .i64 (encN ps v : Int), .slice F LL cF] 33)) (fun k => k < (w7.alloc (.cells #[.int .i64 (encN ps v : Int), .slice F LL cF] 33)).heap.size) (fun k hk => hk) ((hcl.below hb8 fun k hk => hk.2).more fun k hk => ql hk.2 hb8.size) hP8 ⟨hcc, hcm⟩ ⟨hk1, by unfold maxLen; exact hk2⟩ (by omega) (by omega)
    rw [HRF.out, HBE.out] at hrf8
    have HR8 := qh hrf8
    unfold maxLen at hcm
    have f0 := F8.out.cell 0; have f1 := F8.out.cell 1
    simp only [qgz, qgs] at f0 f1
    clear hb7 hb8 hcl hP8 hrf8 X6 SA6 PA6 HE6 t0 u0 u1 u2 u3
    go_wp2_with (first | (go_at_call 33; refine HR8.out.mono ?_; rintro e w9 ⟨rfl, hb9⟩; refine Hid.out ?_))
    refine qh ?_
    have X9 := qh (X8.out.move hb9)
    clear hb9 HR8 X8 F8 f0 f1
    by_cases hoe0 : oe = 0
    ·subst hoe0
     go_wp2
     go_ret
     exact ⟨rfl, X9.out.bel⟩
    ·have hoeb : (oe == 0) = false := by simpa using hoe0
     have hoen : (oe != 0) = true := by unfold bne; rw [hoeb]; rfl
     go_wp2
     go_ret
     exact ⟨rfl, X9.out.bel⟩
   ·have hzz0 : (z == 0) = false := by simpa using hz0
    have hzz7 : (z == 7) = false := by simpa using hz7
    have hck : ckWish ps v = z := by
     have h := resE_is ps v
     rw [HZ.out] at h
     rcases h with ⟨_, h | h⟩ | ⟨_, h, _⟩
     ·exact absurd h hz0
     ·exact absurd h hz7
     ·exact h.symm
    have hcw := HCW.out w6 X6.out.bel
    rw [hck] at hcw
    have HC6 := qh hcw
    have hzs : (z == z) = true := beq_self_eq_true z
    clear hck hcw HMY HVZ
    go_wp2_with (first | (go_at_call 34; refine HC6.out.mono ?_; rintro e w7 ⟨rfl, hb7⟩; refine Hid.out ?_))
    refine qh ?_
    have X7 := qh (X6.out.move hb7)
    clear hb7
    go_wp2
    go_ret
    exact ⟨ret_bool (by first | rfl | exact hzs | simp), X7.out.bel⟩
end
end Go.Proofs.YtedbhlgjcnnknaaGreatDoor
