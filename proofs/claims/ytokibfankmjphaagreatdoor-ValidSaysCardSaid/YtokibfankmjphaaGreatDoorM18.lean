/- Parts of the proof: walks and plain laws, side by side. -/
import Derived.Test.YtokibfankmjphaaGreatDoorM17
import Derived.Test.YtokibfankmjphaaGreatDoorM14
import Derived.Test.YtokibfankmjphaaGreatDoorM15
import Derived.Test.YtokibfankmjphaaGreatDoorM12
import Derived.Deep.QuietTactic
import Derived.BigQuiet
import Derived.IntWalk
set_option linter.unusedVariables false
set_option linter.unusedSimpArgs false
set_option linter.unusedSectionVars false
/- valid.valid, walked. -/
namespace Go.Proofs.YtokibfankmjphaaGreatDoor
open Go.RowKit Qm

theorem all_take_succ {α : Type} {f : α → Bool} {l : List α} {j : Nat} {x : α} (h : l[j]? = some x) : (l.take (j + 1)).all f = ((l.take j).all f && f x) := by
  obtain ⟨hj, rfl⟩ := List.getElem?_eq_some_iff.1 h
  rw [List.take_succ_eq_append_getElem hj, List.all_append]; simp
theorem all_take_false {α : Type} {f : α → Bool} {l : List α} {j : Nat} {x : α} (h : l[j]? = some x) (hf : f x = false) : l.all f = false := by
  rw [Bool.eq_false_iff]
  intro ha
  have := List.all_eq_true.1 ha x (List.mem_of_getElem? h)
  rw [hf] at this; cases this
theorem allOk_false {ps : List Pk} {ms : List Int} {l : List Mem} {i : Nat} (hi : i < l.length) (h : oneOk ps ms l i = false) : allOk ps ms l l.length = false := by
  rw [Bool.eq_false_iff]
  intro ha
  have := allOk_at ha i hi
  rw [h] at this; cases this
theorem loneB_step {ps : List Pk} {p : Pk} {l : List Mem} {j : Nat} {o : Mem} (h : l[j]? = some o) : loneB ps p (l.drop j) = if (pkOf ps o.pl).nm = p.nm ∧ (pkOf ps o.pl).slot = p.slot then false else loneB ps p (l.drop (j + 1)) := by
  obtain ⟨hj, rfl⟩ := List.getElem?_eq_some_iff.1 h
  rw [List.drop_eq_getElem_cons hj]; rfl
set_option maxRecDepth 100000 in
set_option maxHeartbeats 6400000 in
theorem validR_any (ps : List Pk) (v : Ws) (l : List Mem) (S : Nat → Prop) (A B : Option Addr) (n c q d : Nat) (A1 A2 A3 A4 : Option Addr) (n1 c1 n2 c2 n3 c3 n4 c4 : Nat) (w : World) (C : Cx ps l S A n c B q d w) (hck : ckSet ps l = 0) (hV : WsAt w S A1 n1 c1 A2 n2 c2 A3 n3 c3 A4 n4 c4 v) :
    Calls Tryz.prog 15 #[.agg #[.slice A n c], .agg #[.slice A1 n1 c1, .slice A2 n2 c2, .slice A3 n3 c3, .slice A4 n4 c4], .slice B q d] w fun e w' => e = .returned (.bool (validP ps v.ts v.ms l)) ∧ Below w.heap.size w w' := by
  have X0 := Lib.hid (Wb.new w A n c [.slice A1 n1 c1, .slice A2 n2 c2, .slice A3 n3 c3, .slice A4 n4 c4])
  have HC := Lib.hid C; have HV := Lib.hid hV; have HCK := Lib.hid hck; clear hV hck
  have Hpl := Lib.hid C.t.len
  have Hll := Lib.hid C.s.len
  have Hts := Lib.hid HV.out.ts.len
  have H1 := HV.out.h1; have H3 := HV.out.h3
  have hqd := C.qd; have hdm := C.dm; have hn8 := C.n8; have hcm := C.cm
  unfold maxLen at H1 H3 hdm hcm
  clear C
  have HR : Hid (validP ps v.ts v.ms l = (v.ts.all (fun a => l.any (fun m => isA ps m a)) && allOk ps v.ms l l.length)) := Lib.hid rfl
  generalize validP ps v.ts v.ms l = R at HR ⊢
  go_enter Tryz.func15, Tryz.ntmps15
  go_wp2
  go_loopg [18] n1 (fun g iv wr => ∃ j : Nat, Hid (j + g = n1) ∧ iv = .int .i64 j ∧ Hid ((v.ts.take j).all (fun a => l.any (fun m => isA ps m a)) = true) ∧ Hid (Wb w A n c [.slice A1 n1 c1, .slice A2 n2 c2, .slice A3 n3 c3, .slice A4 n4 c4] wr))
  case atStart => exact ⟨0, Lib.hid (Nat.zero_add _), rfl, Lib.hid rfl, X0⟩
  case round =>
    obtain ⟨j, Hj, rfl, Hcl, XR⟩ := hrel
    clear X0
    by_cases hj : j < n1
    · obtain ⟨b, o, x, a, rfl, hbS, ha, hxa, _, hcell⟩ := (HV.out.ts.keep (w' := wr) (fun p hp => XR.out.bel.cell (HC.out.lt _ hp)) fun _ _ h => h).at_ hj (by decide)
      obtain ⟨rfl, ha1, ha2⟩ := hxa
      have g0 := hcell 0 (by omega); have g1 := hcell 1 (by omega); have g2 := hcell 2 (by omega); have g3 := hcell 3 (by omega); have g4 := hcell 4 (by omega); have g5 := hcell 5 (by omega)
      unfold atRow at g0 g1 g2 g3 g4 g5
      simp only [List.getElem?_cons_zero, List.getElem?_cons_succ, Nat.add_zero] at g0 g1 g2 g3 g4 g5
      have X3 := Lib.hid (XR.out.alloc (.cells (atRow a).toArray 43))
      have W3 := Lib.hid (Whole.new wr wr.heap.size 43 (atRow a) rfl)
      have hcf := containsF_M (RMem w S) (fun m => isA ps m a) B q d l 31 #[.pointer (some ⟨w.heap.size, 0, none⟩), .pointer (some ⟨wr.heap.size, 0, none⟩)] _ S (RSeq.keep HC.out.s (fun p hp => X3.out.bel.cell (HC.out.lt _ hp)) fun _ _ h => h) (fun x hx => Nat.lt_of_lt_of_le (HC.out.lt x hx) X3.out.bel.size) (by unfold maxLen; omega)
        ⟨fun args W => by kernel_rfl, fun m hm cx W hb hr => target_any HC.out a ha1 ha2 w.heap.size wr.heap.size hm cx hr W (X3.out.bel.trans (hb.mono X3.out.bel.size)) ((X3.out.t.below hb X3.out.t.lt).cell 0) (fun i _ => (W3.out.below hb W3.out.lt).cell i)⟩ (fun x y h => shape_mem h)
      have Hst := Lib.hid (all_take_succ (f := fun a => l.any (fun m => isA ps m a)) ha)
      have Hfa := Lib.hid (all_take_false (f := fun a => l.any (fun m => isA ps m a)) ha)
      generalize hq2 : l.any (fun m => isA ps m a) = r at hcf Hst Hfa
      have Hcf := Lib.hid hcf
      have Hq2 := Lib.hid hq2
      unfold atRow at Hcf X3
      clear hcf hcell ha hq2
      go_wp2_with (first | (go_at_call 24; refine Hcf.out.mono ?_; rintro e w4 ⟨rfl, hb4⟩; refine Hid.out ?_))
      refine Lib.hid ?_
      have X4 := Lib.hid (X3.out.move hb4)
      clear hb4 g0 g1 g2 g3 g4 g5 X3 W3
      cases r
      · have HE : Hid (R = false) := Lib.hid (by rw [HR.out, Hfa.out rfl]; rfl)
        go_wp2
        go_ret
        exact ⟨ret_bool HE.out.symm, X4.out.bel⟩
      · have HE : Hid ((v.ts.take (j + 1)).all (fun a => l.any (fun m => isA ps m a)) = true) := Lib.hid (by rw [Hst.out, Hcl.out]; rfl)
        go_wp2
        go_roundg (gk - 1)
        case measure => have := Hj.out; omega
        case rel => exact ⟨j + 1, Lib.hid (by have := Hj.out; omega), by go_num, HE, X4⟩
    · obtain rfl : n1 = j := by have := Hj.out; omega
      have HRA : Hid (R = allOk ps v.ms l l.length) := Lib.hid (by
        have h := Hcl.out
        rw [List.take_of_length_le (by have := Hts.out; omega)] at h
        rw [HR.out, h]; rfl)
      clear HR Hcl
      go_wp2
      obtain ⟨wq, hwq⟩ : ∃ x, x = wr := ⟨_, rfl⟩
      rw [← hwq] at XR ⊢
      clear hwq
      go_loopg [29] q (fun g iv wr => ∃ i : Nat, Hid (i + g = q) ∧ iv = .int .i64 i ∧ Hid (allOk ps v.ms l i = true) ∧ Hid (Wb w A n c [.slice A1 n1 c1, .slice A2 n2 c2, .slice A3 n3 c3, .slice A4 n4 c4] wr))
      case atStart => exact ⟨0, Lib.hid (Nat.zero_add _), rfl, Lib.hid rfl, XR⟩
      case round =>
        obtain ⟨i, Hi, rfl, Hcl, XQ⟩ := hrel
        clear XR
        by_cases hi : i < q
        · have hrel := Lib.hid (fun (wx : World) (hb : Below w.heap.size w wx) => (HC.out.s.under hb HC.out.lt).at_ hi)
          obtain ⟨b, o, m, E, u, v0, rfl, hbS, hm, huv, hv, _, g0, g1⟩ := (HC.out.s.under XQ.out.bel HC.out.lt).at_ hi
          obtain ⟨hp0, hp1, _⟩ := HC.out.ok m (List.mem_of_getElem? hm)
          have Hown := Lib.hid (own_flags HCK.out (k := i) (by have := Hll.out; omega))
          have hil : i < l.length := by have := Hll.out; omega
          have Hho := Lib.hid (fun cx wx (hb : Below w.heap.size w wx) hr => holds_any ps l S A n c (some ⟨b, o, none⟩) q d (pkOf ps (memAt l i).pl).nd i cx wx (HC.out.under hb) hi hr Hown.out)
          have Hone : Hid (oneOk ps v.ms l i = (!v.ms.contains (memAt l i).pl && (holdsN ps l i (memAt l i) (pkOf ps (memAt l i).pl).nd && loneB ps (pkOf ps (memAt l i).pl) (l.take i)))) := Lib.hid rfl
          have Hnx : Hid (allOk ps v.ms l (i + 1) = oneOk ps v.ms l i) := Lib.hid (by rw [allOk, Hcl.out]; rfl)
          have Hno := Lib.hid (fun h => allOk_false (ps := ps) (ms := v.ms) hil h)
          generalize oneOk ps v.ms l i = on1 at Hone Hnx Hno
          rw [memAt_at hm] at Hho Hone
          have hpl := Hpl.out
          have Hms := Lib.hid (fun wx (hb : Below w.heap.size w wx) => containsI_any A3 n3 c3 v.ms m.pl wx S (Row.below HV.out.ms hb HC.out.lt) (by unfold maxLen; omega))
          obtain ⟨pl, on⟩ := m
          dsimp only at g0 hp0 hp1 Hho Hone Hms
          obtain ⟨j, rfl⟩ : ∃ j : Nat, pl = j := ⟨pl.toNat, by omega⟩
          have hjn : j < n := by omega
          obtain ⟨b2, o2, p, F, fn, fc, kd, pa, f, no, E2, r, d', rfl, hbS2, hp, hP, hcell⟩ := (HC.out.t.under XQ.out.bel HC.out.lt).at_ hjn
          rw [pkOf_at hp] at Hho Hone
          have hho := fun wx (hb : Below w.heap.size w wx) => Hho.out (ndRow kd pa f no E2 r d') wx hb ((hP.nd.keep (w' := w) (fun p hp => (XQ.out.bel.cell (HC.out.lt _ hp)).symm)).under hb HC.out.lt)
          have h0 := hcell 0 (by omega); have h1 := hcell 1 (by omega); have h2 := hcell 2 (by omega); have h3 := hcell 3 (by omega); have h4 := hcell 4 (by omega); have h5 := hcell 5 (by omega); have h6 := hcell 6 (by omega); have h7 := hcell 7 (by omega); have h8 := hcell 8 (by omega); have h9 := hcell 9 (by omega); have h10 := hcell 10 (by omega); have h11 := hcell 11 (by omega); have h12 := hcell 12 (by omega); have h13 := hcell 13 (by omega)
          unfold pkRow ndRow at h0 h1 h2 h3 h4 h5 h6 h7 h8 h9 h10 h11 h12 h13
          simp only [List.getElem?_cons_zero, List.getElem?_cons_succ, Nat.add_zero] at h0 h1 h2 h3 h4 h5 h6 h7 h8 h9 h10 h11 h12 h13
          have hbl : b < wr.heap.size := Nat.lt_of_lt_of_le (HC.out.lt _ hbS) XQ.out.bel.size
          have hbl2 : b2 < wr.heap.size := Nat.lt_of_lt_of_le (HC.out.lt _ hbS2) XQ.out.bel.size
          have hbl3 : b2 < wr.heap.size + 1 := by omega
          generalize holdsN ps l i ⟨(j : Int), on⟩ p.nd = rv at Hone hho
          generalize v.ms.contains (j : Int) = mc at Hms Hone
          have hbx : Below wr.heap.size wr ((wr.alloc (.cells #[.int .i64 (j : Int), .slice E u v0] 51)).alloc (.cells (pkRow p F fn fc (ndRow kd pa f no E2 r d')).toArray 48)) := ((Below.refl _ wr).alloc (Nat.le_refl _) _).alloc (by simp) _
          have X3 := Lib.hid (XQ.out.move hbx)
          have P3 := Lib.hid (Whole.new (wr.alloc (.cells #[.int .i64 (j : Int), .slice E u v0] 51)) (wr.heap.size + 1) 48 (pkRow p F fn fc (ndRow kd pa f no E2 r d')) (by simp))
          have t0 := XQ.out.t.cell 0
          have v2 := XQ.out.v.cell 2
          simp only [List.getElem?_cons_zero, List.getElem?_cons_succ] at t0 v2
          have vlt := XQ.out.v.lt
          have tlt := XQ.out.t.lt
          have vlt1 : w.heap.size + 1 < wr.heap.size + 1 := by omega
          have tlt1 : w.heap.size < wr.heap.size + 1 := by omega
          have hjn1 : (j : Int) < n := by omega
          have hjn0 : (0 : Int) ≤ (j : Int) := by omega
          have hiq : (i : Int) ≤ d := by omega
          have hi0 : (0 : Int) ≤ (i : Int) := by omega
          have Hp : Hid (ps[j]? = some p) := Lib.hid hp
          have Hh := Lib.hid hho
          clear hho hcell hP hp hm hp0 hp1 hbx
          unfold pkRow ndRow at P3 X3
          unfold ndRow at Hh
          go_wp2_with (first | (go_at_call 28; refine (Hms.out _ X3.out.bel).mono ?_; rintro e w4 ⟨rfl, hw4⟩; have hw5 := hw4.symm; subst hw5; refine Hid.out ?_))
          refine Lib.hid ?_
          generalize World.alloc (World.alloc wr _) _ = w4 at X3 P3 ⊢
          clear t0 v2 vlt tlt vlt1 tlt1 h0 h1 h2 h3 h4 h5 h6 h7 h8 h9 h10 h11 h12 h13 hbl hbl2 hbl3 g0 g1
          cases mc
          · have t0 := X3.out.t.cell 0
            have p0 := P3.out.cell 0; have p1 := P3.out.cell 1; have p2 := P3.out.cell 2; have p3 := P3.out.cell 3; have p4 := P3.out.cell 4; have p5 := P3.out.cell 5; have p6 := P3.out.cell 6; have p7 := P3.out.cell 7; have p8 := P3.out.cell 8; have p9 := P3.out.cell 9; have p10 := P3.out.cell 10; have p11 := P3.out.cell 11; have p12 := P3.out.cell 12; have p13 := P3.out.cell 13
            simp only [List.getElem?_cons_zero, List.getElem?_cons_succ] at t0 p0 p1 p2 p3 p4 p5 p6 p7 p8 p9 p10 p11 p12 p13
            go_wp2_with (first | (go_at_call 17; refine (Hh.out _ X3.out.bel).mono ?_; rintro e w6 ⟨rfl, hb6⟩; refine Hid.out ?_))
            refine Lib.hid ?_
            have X6 := Lib.hid (X3.out.move hb6)
            have P6 := Lib.hid (P3.out.below hb6 P3.out.lt)
            clear hb6 t0 p0 p1 p2 p3 p4 p5 p6 p7 p8 p9 p10 p11 p12 p13 X3 P3
            cases rv
            · have HE : Hid (R = false) := Lib.hid (by rw [HRA.out, Hno.out (by rw [Hone.out]; rfl)])
              go_wp2
              go_ret
              exact ⟨ret_bool HE.out.symm, X6.out.bel⟩
            · have HO : Hid (on1 = loneB ps p (l.take i)) := Lib.hid (by rw [Hone.out]; simp)
              clear Hone
              go_wp2
              clear XQ
              obtain ⟨wp, rfl⟩ : ∃ x, x = wr := ⟨_, rfl⟩
              obtain ⟨gq, rfl⟩ : ∃ x, x = gk := ⟨_, rfl⟩
              go_loopg [58] i (fun g iv wr => ∃ y : Nat, Hid (y + g = i) ∧ iv = .int .i64 y ∧ Hid (loneB ps p (l.take i) = loneB ps p ((l.take i).drop y)) ∧ Hid (Wb w (some ⟨b2, o2, none⟩) n c [.slice A1 n1 c1, .slice A2 n2 c2, .slice A3 n3 c3, .slice A4 n4 c4] wr) ∧ Hid (Whole wr (wp.heap.size + 1) 48 [.string ⟨p.nm.toArray⟩, .int .i64 p.ver, .int .i64 p.slot, .slice F fn fc, .int .i64 kd, .string ⟨pa.nm.toArray⟩, .int .i64 pa.op, .int .i64 pa.ver, .int .i64 pa.slot, .string ⟨pa.fl.toArray⟩, .bool pa.on, .string ⟨f.toArray⟩, .bool no, .slice E2 r d']))
              case atStart => exact ⟨0, Lib.hid (Nat.zero_add _), rfl, Lib.hid rfl, X6, P6⟩
              case round =>
                obtain ⟨y, Hy, rfl, Hly, XL, PL⟩ := hrel
                clear X6 P6
                by_cases hy : y < i
                · obtain ⟨b', o', m2, E3, u2, v3, eA, hbS', hm2, _, _, _, k0, k1⟩ := (HC.out.s.under XL.out.bel HC.out.lt).at_ (j := y) (by omega)
                  injection eA with eA; injection eA with e1 e2; subst e1 e2
                  obtain ⟨hq0, hq1, _⟩ := HC.out.ok m2 (List.mem_of_getElem? hm2)
                  have Hst := Lib.hid (loneB_step (ps := ps) (p := p) (l := l.take i) (j := y) (by rw [List.getElem?_take_of_lt hy]; exact hm2))
                  have hpl := Hpl.out
                  obtain ⟨pl2, on2⟩ := m2
                  dsimp only at k0 hq0 hq1 Hst
                  obtain ⟨z, rfl⟩ : ∃ z : Nat, pl2 = z := ⟨pl2.toNat, by omega⟩
                  have hzn : z < n := by omega
                  obtain ⟨b4, o4, p2, F2, fn2, fc2, kd2, pa2, f2, no2, E4, r2, d2, eA, hbS4, hp2, hP2, hcell2⟩ := (HC.out.t.under XL.out.bel HC.out.lt).at_ hzn
                  injection eA with eA; injection eA with e1 e2; subst e1 e2
                  rw [pkOf_at hp2] at Hst
                  have e0 := hcell2 0 (by omega); have e1 := hcell2 1 (by omega); have e2 := hcell2 2 (by omega); have e3 := hcell2 3 (by omega); have e4 := hcell2 4 (by omega); have e5 := hcell2 5 (by omega); have e6 := hcell2 6 (by omega); have e7 := hcell2 7 (by omega); have e8 := hcell2 8 (by omega); have e9 := hcell2 9 (by omega); have e10 := hcell2 10 (by omega); have e11 := hcell2 11 (by omega); have e12 := hcell2 12 (by omega); have e13 := hcell2 13 (by omega)
                  unfold pkRow ndRow at e0 e1 e2 e3 e4 e5 e6 e7 e8 e9 e10 e11 e12 e13
                  simp only [List.getElem?_cons_zero, List.getElem?_cons_succ, Nat.add_zero] at e0 e1 e2 e3 e4 e5 e6 e7 e8 e9 e10 e11 e12 e13
                  have hbl : b < wr.heap.size := Nat.lt_of_lt_of_le (HC.out.lt _ hbS') XL.out.bel.size
                  have hbl2 : b2 < wr.heap.size := Nat.lt_of_lt_of_le (HC.out.lt _ hbS4) XL.out.bel.size
                  have hbl3 : b2 < wr.heap.size + 1 := by omega
                  have hbx : Below wr.heap.size wr ((wr.alloc (.cells #[.int .i64 (z : Int), .slice E3 u2 v3] 51)).alloc (.cells #[.string ⟨p2.nm.toArray⟩, .int .i64 p2.ver, .int .i64 p2.slot, .slice F2 fn2 fc2, .int .i64 kd2, .string ⟨pa2.nm.toArray⟩, .int .i64 pa2.op, .int .i64 pa2.ver, .int .i64 pa2.slot, .string ⟨pa2.fl.toArray⟩, .bool pa2.on, .string ⟨f2.toArray⟩, .bool no2, .slice E4 r2 d2] 48)) := ((Below.refl _ wr).alloc (Nat.le_refl _) _).alloc (by simp) _
                  have X7 := Lib.hid (XL.out.move hbx)
                  have P7 := Lib.hid (PL.out.below hbx PL.out.lt)
                  have t0 := XL.out.t.cell 0
                  have p0 := PL.out.cell 0
                  have p2' := PL.out.cell 2
                  simp only [List.getElem?_cons_zero, List.getElem?_cons_succ] at t0 p0 p2'
                  have tlt := XL.out.t.lt
                  have tlt1 : w.heap.size < wr.heap.size + 1 := by omega
                  have plt := PL.out.lt
                  have plt1 : wp.heap.size + 1 < wr.heap.size + 1 := by omega
                  have hz1 : (z : Int) < n := by omega
                  have hz0 : (0 : Int) ≤ (z : Int) := by omega
                  have hyi : (y : Int) < i := by omega
                  clear hcell2 hP2 hp2 hm2 hq0 hq1 hbx
                  by_cases hnm : p2.nm = p.nm
                  · have hnm' : (p2.nm == p.nm) = true := by simpa using hnm
                    by_cases hsl : p2.slot = p.slot
                    · have hsl' : (p2.slot == p.slot) = true := by simpa using hsl
                      have HE : Hid (R = false) := Lib.hid (by rw [HRA.out, Hno.out (by rw [HO.out, Hly.out, Hst.out, if_pos ⟨hnm, hsl⟩])])
                      clear hnm hsl
                      go_wp2
                      go_ret
                      exact ⟨ret_bool HE.out.symm, X7.out.bel⟩
                    · have hsl' : (p2.slot == p.slot) = false := by simpa using hsl
                      have HE : Hid (loneB ps p (l.take i) = loneB ps p ((l.take i).drop (y + 1))) := Lib.hid (by rw [Hly.out, Hst.out, if_neg (fun h => hsl h.2)])
                      clear hnm hsl
                      go_wp2
                      go_roundg (gk - 1)
                      case measure => have := Hy.out; omega
                      case rel => exact ⟨y + 1, Lib.hid (by have := Hy.out; omega), by go_num, HE, X7, P7⟩
                  · have hnm' : (p2.nm == p.nm) = false := by simpa using hnm
                    have HE : Hid (loneB ps p (l.take i) = loneB ps p ((l.take i).drop (y + 1))) := Lib.hid (by rw [Hly.out, Hst.out, if_neg (fun h => hnm h.1)])
                    clear hnm
                    go_wp2
                    go_roundg (gk - 1)
                    case measure => have := Hy.out; omega
                    case rel => exact ⟨y + 1, Lib.hid (by have := Hy.out; omega), by go_num, HE, X7, P7⟩
                · obtain rfl : i = y := by have := Hy.out; omega
                  have HE : Hid (allOk ps v.ms l (i + 1) = true) := Lib.hid (by
                    rw [Hnx.out, HO.out, Hly.out, List.drop_of_length_le (by rw [List.length_take]; omega)]; rfl)
                  go_wp2
                  go_roundg (gq - 1)
                  case measure => have := Hi.out; omega
                  case rel => exact ⟨i + 1, Lib.hid (by have := Hi.out; omega), by go_num, HE, XL⟩
          · have HE : Hid (R = false) := Lib.hid (by rw [HRA.out, Hno.out (by rw [Hone.out]; rfl)])
            go_wp2
            go_ret
            exact ⟨ret_bool HE.out.symm, X3.out.bel⟩
        · obtain rfl : q = i := by have := Hi.out; omega
          go_wp2
          go_ret
          exact ⟨ret_bool (by rw [HRA.out, Hll.out, Hcl.out]), XQ.out.bel⟩
end Go.Proofs.YtokibfankmjphaaGreatDoor

/- valid.Valid, walked. -/
namespace Go.Proofs.YtokibfankmjphaaGreatDoor
open Go.RowKit Qm

def validE (ps : List Pk) (v : Ws) (l : List Mem) : Int := if ckWish ps v ≠ 0 then ckWish ps v else ckSet ps l
def validV (ps : List Pk) (v : Ws) (l : List Mem) : Bool := decide (validE ps v l = 0) && validP ps v.ts v.ms l
set_option maxRecDepth 100000 in
set_option maxHeartbeats 3200000 in
theorem valid_any (ps : List Pk) (v : Ws) (l : List Mem) (S : Nat → Prop) (A B : Option Addr) (n c q d : Nat) (A1 A2 A3 A4 : Option Addr) (n1 c1 n2 c2 n3 c3 n4 c4 : Nat) (w : World) (hT : RTree w S A n ps) (hnc : n ≤ c) (hc : c ≤ maxLen) (hV : WsAt w S A1 n1 c1 A2 n2 c2 A3 n3 c3 A4 n4 c4 v) (hL : RSet w S B q l) (hqd : q ≤ d) (hd : d ≤ maxLen) (hS : ∀ k, S k → k < w.heap.size) :
    Calls Tryz.prog 5 #[.agg #[.slice A n c], .agg #[.slice A1 n1 c1, .slice A2 n2 c2, .slice A3 n3 c3, .slice A4 n4 c4], .slice B q d] w fun e w' => e = .returned (.tuple #[.bool (validV ps v l), .int .i64 (validE ps v l)]) ∧ Below w.heap.size w w' := by
  have X0 := Lib.hid (Wb.new w A n c [.slice A1 n1 c1, .slice A2 n2 c2, .slice A3 n3 c3, .slice A4 n4 c4])
  have HT := Lib.hid hT; have HS := Lib.hid hS; have HL := Lib.hid hL; have HV := Lib.hid hV; clear hT hS hL hV
  have Hlt := Lib.hid (fun (wx : World) (hb : Below w.heap.size w wx) k hk => Nat.lt_of_lt_of_le (HS.out k hk) hb.size)
  have Hcw := Lib.hid (cwish_any ps v S A n c A1 A2 A3 A4 n1 c1 n2 c2 n3 c3 n4 c4 _ (HT.out.under X0.out.bel HS.out) hnc hc (HV.out.under X0.out.bel HS.out) (Hlt.out _ X0.out.bel))
  have Hcs := Lib.hid (fun wx (hb : Below w.heap.size w wx) => cset_any ps l S A B n c q d wx (HT.out.under hb HS.out) hnc hc (HL.out.under hb HS.out) (Nat.le_trans hqd hd) (Hlt.out _ hb))
  have HE : Hid (validE ps v l = if ckWish ps v ≠ 0 then ckWish ps v else ckSet ps l) := Lib.hid rfl
  have HVV : Hid (validV ps v l = (decide (validE ps v l = 0) && validP ps v.ts v.ms l)) := Lib.hid rfl
  generalize validE ps v l = e at HE HVV ⊢
  generalize validV ps v l = r at HVV ⊢
  generalize ckWish ps v = z at Hcw HE
  generalize hy : ckSet ps l = y at Hcs HE
  have HY := Lib.hid hy; clear hy
  by_cases z0 : z = 0
  · subst z0
    obtain rfl : e = y := by rw [HE.out, if_neg (by simp)]
    by_cases y0 : e = 0
    · subst y0
      have Hva := Lib.hid (fun wx (hb : Below w.heap.size w wx) => validR_any ps v l S A B n c q d A1 A2 A3 A4 n1 c1 n2 c2 n3 c3 n4 c4 wx (Cx.of HY.out (HT.out.under hb HS.out) hnc hc (HL.out.under hb HS.out) hqd hd (Hlt.out _ hb)) HY.out (HV.out.under hb HS.out))
      obtain rfl : r = validP ps v.ts v.ms l := by rw [HVV.out]; simp
      clear HVV HE
      generalize validP ps v.ts v.ms l = r at Hva ⊢
      go_enter Tryz.func5, Tryz.ntmps5
      go_wp2_with (first | (go_at_call 10; refine Hcw.out.mono ?_; rintro e w2 ⟨rfl, hb2⟩; refine Hid.out ?_))
      refine Lib.hid ?_
      have X2 := Lib.hid (X0.out.move hb2)
      clear hb2 X0 Hcw
      have t0 := X2.out.t.cell 0
      simp only [List.getElem?_cons_zero, List.getElem?_cons_succ] at t0
      go_wp2_with (first | (go_at_call 14; refine (Hcs.out _ X2.out.bel).mono ?_; rintro e w3 ⟨rfl, hb3⟩; refine Hid.out ?_))
      refine Lib.hid ?_
      have X3 := Lib.hid (X2.out.move hb3)
      clear hb3 X2 t0
      have t0 := X3.out.t.cell 0
      have v0 := X3.out.v.cell 0; have v1 := X3.out.v.cell 1; have v2 := X3.out.v.cell 2; have v3 := X3.out.v.cell 3
      simp only [List.getElem?_cons_zero, List.getElem?_cons_succ] at t0 v0 v1 v2 v3
      go_wp2_with (first | (go_at_call 15; refine (Hva.out _ X3.out.bel).mono ?_; rintro e w4 ⟨rfl, hb4⟩; refine Hid.out ?_))
      refine Lib.hid ?_
      have X4 := Lib.hid (X3.out.move hb4)
      clear hb4
      go_wp2
      go_ret2
      exact ⟨rfl, X4.out.bel⟩
    · have y1 : (e != 0) = true := by simpa using y0
      obtain rfl : r = false := by rw [HVV.out, decide_eq_false y0]; rfl
      clear HVV HE
      go_enter Tryz.func5, Tryz.ntmps5
      go_wp2_with (first | (go_at_call 10; refine Hcw.out.mono ?_; rintro e w2 ⟨rfl, hb2⟩; refine Hid.out ?_))
      refine Lib.hid ?_
      have X2 := Lib.hid (X0.out.move hb2)
      clear hb2 X0 Hcw
      have t0 := X2.out.t.cell 0
      simp only [List.getElem?_cons_zero, List.getElem?_cons_succ] at t0
      go_wp2_with (first | (go_at_call 14; refine (Hcs.out _ X2.out.bel).mono ?_; rintro e w3 ⟨rfl, hb3⟩; refine Hid.out ?_))
      refine Lib.hid ?_
      have X3 := Lib.hid (X2.out.move hb3)
      clear hb3 X2 t0
      go_wp2
      go_ret2
      exact ⟨rfl, X3.out.bel⟩
  · have z1 : (z != 0) = true := by simpa using z0
    obtain rfl : e = z := by rw [HE.out, if_pos z0]
    obtain rfl : r = false := by rw [HVV.out, decide_eq_false z0]; rfl
    clear HVV HE
    go_enter Tryz.func5, Tryz.ntmps5
    go_wp2_with (first | (go_at_call 10; refine Hcw.out.mono ?_; rintro e w2 ⟨rfl, hb2⟩; refine Hid.out ?_))
    refine Lib.hid ?_
    have X2 := Lib.hid (X0.out.move hb2)
    clear hb2 X0 Hcw
    go_wp2
    go_ret2
    exact ⟨rfl, X2.out.bel⟩
end Go.Proofs.YtokibfankmjphaaGreatDoor

/- quartermasterlaw.allowed, walked: it returns true. -/
namespace Go.Proofs.YtokibfankmjphaaGreatDoor
open Go.RowKit Qm

theorem flat_lenG {K : Nat} : ∀ {cs : List (List Value)}, (∀ x ∈ cs, x.length = K) → cs.flatten.length = cs.length * K
  | [], _ => by simp
  | c :: r, h => by
    have := flat_lenG (K := K) (cs := r) fun x hx => h x (List.mem_cons_of_mem _ hx)
    have h0 := h c (List.mem_cons_self ..)
    rw [List.flatten_cons, List.length_append, this, h0, List.length_cons, Nat.succ_mul]; omega
/-- A block that is known whole, read as elements. -/
theorem RSeq.whole {α : Type} {K : Nat} {R : List Value → α → Prop} {w : World} {S : Nat → Prop} {b n : Nat} {t : TypeId} (cs : List (List Value)) (ys : List α) (h : Whole w b t cs.flatten) (hl : ys.length = n) (hn : cs.length = n) (hK : ∀ x ∈ cs, x.length = K)
    (hR : ∀ (j : Nat) (x : List Value) (y : α), cs[j]? = some x → ys[j]? = some y → R x y) (hb : S b) : RSeq K R w S (some ⟨b, 0, none⟩) n ys :=
  ⟨cs, hl, hn, h.row hb (by rw [flat_lenG hK, hn]), hK, hR⟩
def atA : At := ⟨[97], 0, 0, 0, [], false⟩
def wsA : Ws := ⟨[atA], [], [], []⟩
theorem val_A1 : validV smallT wsA [⟨1, [false]⟩] = true := by decide +kernel
theorem val_A2 : validV smallT wsA [⟨1, [true]⟩] = false := by decide +kernel
theorem val_A3 : validV smallT wsA [⟨0, []⟩, ⟨2, []⟩, ⟨3, []⟩] = false := by decide +kernel
theorem err_A1 : validE smallT wsA [⟨1, [false]⟩] = 0 := by decide +kernel
theorem err_A2 : validE smallT wsA [⟨1, [true]⟩] = 0 := by decide +kernel
theorem err_A3 : validE smallT wsA [⟨0, []⟩, ⟨2, []⟩, ⟨3, []⟩] = 0 := by decide +kernel

/-- The tree and the wish of the closed facts. -/
structure Al (w : World) (T : Nat) (A : Option Addr) (c : Nat) (wx : World) : Prop where
  t : RTree wx (fun i => i < T) A 4 smallT
  tb : Whole wx T 24 [.slice A 4 c]
  a : Whole wx (T + 1) 43 (atRow atA)
  v : Whole wx (T + 1 + 1) 30 [.slice (some ⟨T + 1, 0, none⟩) 1 1, .slice none 0 0, .slice none 0 0, .slice none 0 0]
  bel : Below w.heap.size w wx
theorem Al.move {w : World} {T : Nat} {A : Option Addr} {c : Nat} {wx wy : World} (h : Al w T A c wx) (hb : Below wx.heap.size wx wy) : Al w T A c wy :=
  ⟨h.t.under hb (fun k hk => Nat.lt_trans hk h.tb.lt), h.tb.below hb h.tb.lt, h.a.below hb h.a.lt, h.v.below hb h.v.lt, h.bel.trans (hb.mono h.bel.size)⟩
theorem Al.ws {w : World} {T : Nat} {A : Option Addr} {c : Nat} {wx : World} (h : Al w T A c wx) : WsAt wx (fun i => i < wx.heap.size) (some ⟨T + 1, 0, none⟩) 1 1 none 0 0 none 0 0 none 0 0 wsA :=
  ⟨⟨by decide, by decide⟩, ⟨by decide, by decide⟩, ⟨by decide, by decide⟩, ⟨by decide, by decide⟩,
    RSeq.whole [atRow atA] [atA] h.a rfl rfl (fun x hx => by simp at hx; subst hx; rfl) (fun j x y h1 h2 => by
      match j with
      | 0 => simp at h1 h2; subst h1 h2; exact ⟨rfl, by decide, by decide⟩
      | j + 1 => simp at h1) h.a.lt, RSet.nil_, Row.nil_, RSeq.nil_⟩
theorem Al.valid {w : World} {T : Nat} {A : Option Addr} {c : Nat} {wx : World} (h : Al w T A c wx) (hc : 4 ≤ c ∧ c ≤ maxLen) {B : Option Addr} {q : Nat} {l : List Mem} (hq : q ≤ maxLen) (hL : RSet wx (fun i => i < wx.heap.size) B q l) :
    Calls Tryz.prog 5 #[.agg #[.slice A 4 c], .agg #[.slice (some ⟨T + 1, 0, none⟩) 1 1, .slice none 0 0, .slice none 0 0, .slice none 0 0], .slice B q q] wx fun e w' => e = .returned (.tuple #[.bool (validV smallT wsA l), .int .i64 (validE smallT wsA l)]) ∧ Below wx.heap.size wx w' :=
  valid_any smallT wsA l (fun i => i < wx.heap.size) A B 4 c q q (some ⟨T + 1, 0, none⟩) none none none 1 1 0 0 0 0 0 0 wx (h.t.more fun k hk => Nat.lt_trans hk h.tb.lt) hc.1 hc.2 h.ws hL (Nat.le_refl _) hq (fun _ h => h)
theorem set_one {wx : World} {b b2 : Nat} {t t2 : TypeId} {x : Bool} (h1 : Whole wx b t [.bool x]) (h2 : Whole wx b2 t2 [.int .i64 1, .slice (some ⟨b, 0, none⟩) 1 1]) : RSet wx (fun i => i < wx.heap.size) (some ⟨b2, 0, none⟩) 1 [⟨1, [x]⟩] :=
  RSeq.whole (α := Mem) (K := 2) (R := RMem wx (fun i => i < wx.heap.size)) (n := 1) [[.int .i64 1, .slice (some ⟨b, 0, none⟩) 1 1]] [⟨1, [x]⟩] h2 rfl rfl (fun x hx => by simp at hx; subst hx; rfl) (fun j u y g1 g2 => by
      match j with
      | 0 => simp at g1 g2; subst g1 g2; exact ⟨_, _, _, rfl, by decide, by decide, h1.bools (xs := [x]) h1.lt rfl⟩
      | j + 1 => simp at g1) h2.lt
theorem set_three {wx : World} {b2 : Nat} {t2 : TypeId} (h2 : Whole wx b2 t2 [.int .i64 0, .slice none 0 0, .int .i64 2, .slice none 0 0, .int .i64 3, .slice none 0 0]) : RSet wx (fun i => i < wx.heap.size) (some ⟨b2, 0, none⟩) 3 [⟨0, []⟩, ⟨2, []⟩, ⟨3, []⟩] :=
  RSeq.whole (α := Mem) (K := 2) (R := RMem wx (fun i => i < wx.heap.size)) (n := 3) [[.int .i64 0, .slice none 0 0], [.int .i64 2, .slice none 0 0], [.int .i64 3, .slice none 0 0]] [⟨0, []⟩, ⟨2, []⟩, ⟨3, []⟩] h2 rfl rfl (fun x hx => by simp at hx; rcases hx with rfl | rfl | rfl <;> rfl) (fun j u y g1 g2 => by
      match j with
      | 0 => simp at g1 g2; subst g1 g2; exact ⟨_, _, _, rfl, by decide, by decide, Row.nil_⟩
      | 1 => simp at g1 g2; subst g1 g2; exact ⟨_, _, _, rfl, by decide, by decide, Row.nil_⟩
      | 2 => simp at g1 g2; subst g1 g2; exact ⟨_, _, _, rfl, by decide, by decide, Row.nil_⟩
      | j + 3 => simp at g1) h2.lt
set_option maxRecDepth 100000 in
set_option maxHeartbeats 3200000 in
theorem allowed_any (w : World) (hL : LaidV w) (hM : MaxW w) :
    Calls Tryz.prog 6 #[] w fun e w' => e = .returned (.bool true) ∧ Below w.heap.size w w' := by
  have Hsm := Lib.hid (small_any w hL hM)
  unfold SmallPost at Hsm
  clear hL hM
  go_enter Tryz.func6, Tryz.ntmps6
  go_upto_region 3 with (first | (go_at_call 16; refine Hsm.out.mono ?_; rintro e w1 ⟨A, c, rfl, hT, hc1, hc2, hb1⟩; refine Hid.out ?_))
  refine Lib.hid ?_
  go_upto_region 3 with fail
  have h1 := Whole.new w1 w1.heap.size 24 [.slice A 4 c] rfl
  have h2 := Whole.new (w1.alloc (.cells #[.slice A 4 c] 24)) (w1.heap.size + 1) 43 (atRow atA) (by simp)
  have h3 := Whole.new ((w1.alloc (.cells #[.slice A 4 c] 24)).alloc (.cells (atRow atA).toArray 43)) (w1.heap.size + 1 + 1) 30 [.slice (some ⟨w1.heap.size + 1, 0, none⟩) 1 1, .slice none 0 0, .slice none 0 0, .slice none 0 0] (by simp)
  have hbl : Below w1.heap.size w1 (((w1.alloc (.cells #[.slice A 4 c] 24)).alloc (.cells (atRow atA).toArray 43)).alloc (.cells #[.slice (some ⟨w1.heap.size + 1, 0, none⟩) 1 1, .slice none 0 0, .slice none 0 0, .slice none 0 0] 30)) := (((Below.refl _ _).alloc (Nat.le_refl _) _).alloc (by simp) _).alloc (by simp; omega) _
  have Y3 : Hid (Al w w1.heap.size A c _) := Lib.hid ⟨(hT.under hbl fun k hk => hk.2).more fun k hk => hk.2, (h1.alloc _).alloc _, h2.alloc _, h3, hb1.trans (hbl.mono hb1.size)⟩
  unfold atRow atA at Y3
  clear h1 h2 h3 hbl hT hb1
  generalize w1.heap.size = T at Y3 ⊢
  generalize World.alloc (World.alloc (World.alloc w1 _) _) _ = w3 at Y3 ⊢
  have hW1 := Whole.new w3 w3.heap.size 4 [.bool false] rfl
  have hW2 := Whole.new (w3.alloc (.cells #[.bool false] 4)) (w3.heap.size + 1) 51 [.int .i64 1, .slice (some ⟨w3.heap.size, 0, none⟩) 1 1] (by simp)
  have hbx : Below w3.heap.size w3 ((w3.alloc (.cells #[.bool false] 4)).alloc (.cells #[.int .i64 1, .slice (some ⟨w3.heap.size, 0, none⟩) 1 1] 51)) := ((Below.refl _ _).alloc (Nat.le_refl _) _).alloc (by simp) _
  have Y4 := Lib.hid (Y3.out.move hbx)
  have hva := Y4.out.valid ⟨hc1, hc2⟩ (by decide) (set_one (hW1.alloc _) hW2)
  rw [val_A1, err_A1] at hva
  have Hva := Lib.hid hva; clear hva hW1 hW2 hbx
  have t0 := Y3.out.tb.cell 0
  have v0 := Y3.out.v.cell 0; have v1 := Y3.out.v.cell 1; have v2 := Y3.out.v.cell 2; have v3 := Y3.out.v.cell 3
  simp only [List.getElem?_cons_zero, List.getElem?_cons_succ] at t0 v0 v1 v2 v3
  have vlt := Y3.out.v.lt
  have tlt := Y3.out.tb.lt
  have tlt1 : T < w3.heap.size + 1 := by omega
  have vlt1 : T + 1 + 1 < w3.heap.size + 1 := by omega
  go_upto_region 4 with (first | (go_at_call 5; refine Hva.out.mono ?_; rintro e w5 ⟨rfl, hb5⟩; refine Hid.out ?_))
  refine Lib.hid ?_
  have Y5 := Lib.hid (Y4.out.move hb5)
  clear hb5 t0 v0 v1 v2 v3 vlt tlt tlt1 vlt1 Y3 Y4 Hva
  go_upto_region 4 with fail
  have hW1 := Whole.new w5 w5.heap.size 4 [.bool true] rfl
  have hW2 := Whole.new (w5.alloc (.cells #[.bool true] 4)) (w5.heap.size + 1) 51 [.int .i64 1, .slice (some ⟨w5.heap.size, 0, none⟩) 1 1] (by simp)
  have hbx : Below w5.heap.size w5 ((w5.alloc (.cells #[.bool true] 4)).alloc (.cells #[.int .i64 1, .slice (some ⟨w5.heap.size, 0, none⟩) 1 1] 51)) := ((Below.refl _ _).alloc (Nat.le_refl _) _).alloc (by simp) _
  have Y6 := Lib.hid (Y5.out.move hbx)
  have hva := Y6.out.valid ⟨hc1, hc2⟩ (by decide) (set_one (hW1.alloc _) hW2)
  rw [val_A2, err_A2] at hva
  have Hva := Lib.hid hva; clear hva hW1 hW2 hbx
  have t0 := Y5.out.tb.cell 0
  have v0 := Y5.out.v.cell 0; have v1 := Y5.out.v.cell 1; have v2 := Y5.out.v.cell 2; have v3 := Y5.out.v.cell 3
  simp only [List.getElem?_cons_zero, List.getElem?_cons_succ] at t0 v0 v1 v2 v3
  have vlt := Y5.out.v.lt
  have tlt := Y5.out.tb.lt
  have tlt1 : T < w5.heap.size + 1 := by omega
  have vlt1 : T + 1 + 1 < w5.heap.size + 1 := by omega
  go_upto_region 5 with (first | (go_at_call 5; refine Hva.out.mono ?_; rintro e w7 ⟨rfl, hb7⟩; refine Hid.out ?_))
  refine Lib.hid ?_
  have Y7 := Lib.hid (Y6.out.move hb7)
  clear hb7 t0 v0 v1 v2 v3 vlt tlt tlt1 vlt1 Y5 Y6 Hva
  go_upto_region 5 with fail
  have hW2 := Whole.new w7 w7.heap.size 51 [.int .i64 0, .slice none 0 0, .int .i64 2, .slice none 0 0, .int .i64 3, .slice none 0 0] rfl
  have Y8 := Lib.hid (Y7.out.move ((Below.refl _ w7).alloc (Nat.le_refl _) (.cells #[.int .i64 0, .slice none 0 0, .int .i64 2, .slice none 0 0, .int .i64 3, .slice none 0 0] 51)))
  have hva := Y8.out.valid ⟨hc1, hc2⟩ (by decide) (set_three hW2)
  rw [val_A3, err_A3] at hva
  have Hva := Lib.hid hva; clear hva hW2
  have t0 := Y7.out.tb.cell 0
  have v0 := Y7.out.v.cell 0; have v1 := Y7.out.v.cell 1; have v2 := Y7.out.v.cell 2; have v3 := Y7.out.v.cell 3
  simp only [List.getElem?_cons_zero, List.getElem?_cons_succ] at t0 v0 v1 v2 v3
  have vlt := Y7.out.v.lt
  have tlt := Y7.out.tb.lt
  go_wp2_with (first | (go_at_call 5; refine Hva.out.mono ?_; rintro e w9 ⟨rfl, hb9⟩; refine Hid.out ?_))
  refine Lib.hid ?_
  have Y9 := Lib.hid (Y8.out.move hb9)
  clear hb9
  go_wp2
  go_ret
  exact ⟨rfl, Y9.out.bel⟩
end Go.Proofs.YtokibfankmjphaaGreatDoor

/- quartermasterref.CheckSet, walked. -/
namespace Go.Proofs.YtokibfankmjphaaGreatDoor
open Go.RowKit Qm

set_option maxRecDepth 100000 in
set_option maxHeartbeats 3200000 in
theorem rcset_any (ps : List Pk) (l : List Mem) (S : Nat → Prop) (A B : Option Addr) (n c k d : Nat) (w : World) (hT : RTree w S A n ps) (hn8 : n ≤ 8) (hnc : n ≤ c) (hc : c ≤ maxLen) (hL : RSet w S B k l) (hk : k ≤ maxLen) (hS : ∀ k, S k → k < w.heap.size) :
    Calls Tryz.prog 11 #[.agg #[.slice A n c], .slice B k d] w fun e w' => e = .returned (.int .i64 (ckMs ps none l)) ∧ Below w.heap.size w w' := by
  have Hpl := Lib.hid hT.len
  have Hll := Lib.hid hL.len
  have X2 := Lib.hid (Tx.new w A n c)
  have HT := Lib.hid hT; have HS := Lib.hid hS; have HL := Lib.hid hL; clear hT hS hL
  obtain ⟨R, hR⟩ : ∃ R, R = ckMs ps none l := ⟨_, rfl⟩
  rw [← hR]
  have HK1 := Lib.hid hR
  clear hR
  unfold maxLen at hc hk
  go_enter Tryz.func11, Tryz.ntmps11
  go_wp2
  go_loopg [5, 10] k (fun g lv iv wr => ∃ (j : Nat) (la : Int), Hid (j + g = k) ∧ iv = .int .i64 j ∧ lv = .int .i64 la ∧ Hid (∀ q, prevOf (l.map Mem.pl) j = some q → la = q) ∧ Hid (ckMs ps none l = ckMs ps (prevOf (l.map Mem.pl) j) (l.drop j)) ∧ Hid (Tx w A n c wr))
  case atStart => exact ⟨0, -1, Lib.hid (Nat.zero_add _), rfl, rfl, Lib.hid (fun q h => by rw [prevOf_zero] at h; cases h), Lib.hid rfl, X2⟩
  case round =>
    obtain ⟨j, la, Hj, rfl, rfl, Hla, Hcl, XR⟩ := hrel
    clear X2
    by_cases hj : j < k
    · obtain ⟨b, o, m, E, q, r, rfl, hbS, hm, hqr, hr, hon, g0, g1⟩ := (HL.out.under XR.out.below HS.out).at_ hj
      have Hst := Lib.hid (ckMs_step (ps := ps) hm)
      have HMj : Hid (∀ i : Nat, j = i + 1 → ∃ m', l[i]? = some m') := Lib.hid fun i hi => ⟨_, List.getElem?_eq_getElem (by have := Hll.out; omega)⟩
      have Hol := Lib.hid hon.len
      have hbl : b < wr.heap.size := Nat.lt_of_lt_of_le (HS.out _ hbS) XR.out.below.size
      have X3 := Lib.hid (XR.out.move ((Below.refl _ wr).alloc (Nat.le_refl _) (.cells #[.int .i64 m.pl, .slice E q r] 51)))
      have Hmj : Hid (prevOf (l.map Mem.pl) (j + 1) = some m.pl) := Lib.hid (prevOf_succ (by rw [List.getElem?_map, hm]; rfl))
      obtain ⟨pl, on⟩ := m
      dsimp only at g0 g1 Hst Hol X3 Hmj
      clear hm hon
      have t0 := XR.out.whole.cell 0
      simp only [List.getElem?_cons_zero] at t0
      have tlt := XR.out.whole.lt
      by_cases hneg : pl < 0
      · have HE : Hid (ckMs ps (prevOf (l.map Mem.pl) j) (l.drop j) = 5) := Lib.hid (by rw [Hst.out, if_pos (.inl hneg)])
        have hneg' : decide (pl < 0) = true := decide_eq_true hneg
        go_wp2
        go_ret
        exact ⟨ret_int (by rw [HK1.out, Hcl.out, HE.out]), X3.out.below⟩
      have hneg' : decide (pl < 0) = false := decide_eq_false hneg
      by_cases hpn : (n : Int) ≤ pl
      ·
        have HE : Hid (ckMs ps (prevOf (l.map Mem.pl) j) (l.drop j) = 5) := Lib.hid (by rw [Hst.out, if_pos (.inr (by rw [Hpl.out]; exact hpn))])
        have hpn' : decide ((n : Int) ≤ pl) = true := decide_eq_true hpn
        go_wp2
        go_ret
        exact ⟨ret_int (by rw [HK1.out, Hcl.out, HE.out]), X3.out.below⟩
      obtain ⟨y, rfl⟩ : ∃ y : Nat, pl = y := ⟨pl.toNat, by omega⟩
      have hyn : y < n := by omega
      obtain ⟨b2, o2, p, D, fn, fc, kd, pa, f, no, F, fq, fd, rfl, hbS2, hp, hP, hcell⟩ := (HT.out.under XR.out.below HS.out).at_ hyn
      have h3 := hcell 3 (by omega)
      unfold pkRow ndRow at h3
      simp only [List.getElem?_cons_zero, List.getElem?_cons_succ] at h3
      have Hfl : Hid ((pkOf ps (y : Int)).fs.length = fn) := Lib.hid (by unfold pkOf; rw [Int.toNat_natCast, List.getD_eq_getElem?_getD, hp]; exact hP.fs.len)
      have hbl2 : b2 < wr.heap.size := Nat.lt_of_lt_of_le (HS.out _ hbS2) XR.out.below.size
      clear hcell hp hP
      have HSt2 : Hid (ckMs ps (prevOf (l.map Mem.pl) j) (l.drop j) = if badPl (prevOf (l.map Mem.pl) j) (y : Int) = true then 6 else if q ≠ fn then 4 else ckMs ps (prevOf (l.map Mem.pl) (j + 1)) (l.drop (j + 1))) := Lib.hid (by
        rw [Hst.out, if_neg (by have := Hpl.out; omega), Hfl.out, Hol.out])
      clear Hst
      have hy0 : (0 : Int) ≤ (y : Int) := by omega
      have hy1 : (y : Int) < n := by omega
      rcases j with _ | i
      · have HX : Hid (ckMs ps (prevOf (l.map Mem.pl) 0) (l.drop 0) = if q ≠ fn then 4 else ckMs ps (prevOf (l.map Mem.pl) (0 + 1)) (l.drop (0 + 1))) := Lib.hid (by rw [HSt2.out, if_neg (by rw [prevOf_zero]; simp [badPl])])
        simp only [Nat.zero_mul, Nat.add_zero] at g0 g1
        by_cases hq : q = fn
        · have HE : Hid (ckMs ps (prevOf (l.map Mem.pl) 0) (l.drop 0) = ckMs ps (prevOf (l.map Mem.pl) (0 + 1)) (l.drop (0 + 1))) := Lib.hid (by rw [HX.out, if_neg (by simpa using hq)])
          subst hq
          go_wp2
          go_quiet (fail)
          go_wp2
          go_roundg (gk - 1)
          case measure => have := Hj.out; omega
          case rel => exact ⟨0 + 1, y, Lib.hid (by have := Hj.out; omega), by go_num, rfl, Lib.hid (fun q h => by rw [Hmj.out] at h; exact Option.some.inj h), Lib.hid (by rw [Hcl.out, HE.out]), Lib.hid (X3.out.drew _)⟩
        · have HE : Hid (ckMs ps (prevOf (l.map Mem.pl) 0) (l.drop 0) = 4) := Lib.hid (by rw [HX.out, if_pos hq])
          have hq' : ((q : Int) != (fn : Int)) = true := by simp; omega
          go_wp2
          go_quiet (fail)
          go_wp2
          go_ret
          exact ⟨ret_int (by rw [HK1.out, Hcl.out, HE.out]), below_drewN X3.out.below _⟩
      · obtain ⟨b', o', m', E', q', r', e, _, hm', _, _, _, k0, _⟩ := (HL.out.under XR.out.below HS.out).at_ (j := i) (by omega)
        injection e with e; injection e with e1 e2; subst e1 e2
        have Hpr : Hid (prevOf (l.map Mem.pl) (i + 1) = some m'.pl) := Lib.hid (prevOf_succ (by rw [List.getElem?_map, hm']; rfl))
        have HSt3 : Hid (ckMs ps (prevOf (l.map Mem.pl) (i + 1)) (l.drop (i + 1)) = if badPl (some m'.pl) (y : Int) = true then 6 else if q ≠ fn then 4 else ckMs ps (prevOf (l.map Mem.pl) (i + 1 + 1)) (l.drop (i + 1 + 1))) := Lib.hid (by rw [HSt2.out, Hpr.out])
        have hla : m'.pl = la := (Hla.out _ Hpr.out).symm
        rw [hla] at HSt3
        clear hm' HSt2 hla k0
        have hwr : IntKind.i64.wrap ((i : Int) + 1 - 1) = (i : Int) := by rw [IntKind.wrap_i64]; omega
        have hwr0 : IntKind.i64.wrap (i : Int) = (i : Int) := by rw [IntKind.wrap_i64]; omega
        have hin : i < k := by omega
        have hin2 : (i : Int) < k := by omega
        have hin3 : (0 : Int) < (i : Int) + 1 := by omega
        by_cases hb : (y : Int) ≤ la
        · have HE : Hid (ckMs ps (prevOf (l.map Mem.pl) (i + 1)) (l.drop (i + 1)) = 6) := Lib.hid (by rw [HSt3.out, if_pos (by simpa [badPl] using hb)])
          have hb' : decide ((y : Int) ≤ la) = true := decide_eq_true hb
          go_wp2
          go_ret
          exact ⟨ret_int (by rw [HK1.out, Hcl.out, HE.out]), X3.out.below⟩
        · have HX : Hid (ckMs ps (prevOf (l.map Mem.pl) (i + 1)) (l.drop (i + 1)) = if q ≠ fn then 4 else ckMs ps (prevOf (l.map Mem.pl) (i + 1 + 1)) (l.drop (i + 1 + 1))) := Lib.hid (by rw [HSt3.out, if_neg (by simpa [badPl] using hb)])
          have hb' : decide ((y : Int) ≤ la) = false := decide_eq_false hb
          by_cases hq : q = fn
          · have HE : Hid (ckMs ps (prevOf (l.map Mem.pl) (i + 1)) (l.drop (i + 1)) = ckMs ps (prevOf (l.map Mem.pl) ((i + 1) + 1)) (l.drop ((i + 1) + 1))) := Lib.hid (by rw [HX.out, if_neg (by simpa using hq)])
            subst hq
            go_wp2
            go_quiet (fail)
            go_wp2
            go_roundg (gk - 1)
            case measure => have := Hj.out; omega
            case rel => exact ⟨(i + 1) + 1, y, Lib.hid (by have := Hj.out; omega), by go_num, rfl, Lib.hid (fun q h => by rw [Hmj.out] at h; exact Option.some.inj h), Lib.hid (by rw [Hcl.out, HE.out]), Lib.hid (X3.out.drew _)⟩
          · have HE : Hid (ckMs ps (prevOf (l.map Mem.pl) (i + 1)) (l.drop (i + 1)) = 4) := Lib.hid (by rw [HX.out, if_pos hq])
            have hq' : ((q : Int) != (fn : Int)) = true := by simp; omega
            go_wp2
            go_quiet (fail)
            go_wp2
            go_ret
            exact ⟨ret_int (by rw [HK1.out, Hcl.out, HE.out]), below_drewN X3.out.below _⟩
    · obtain rfl : k = j := by have := Hj.out; omega
      go_wp2
      go_ret
      exact ⟨ret_int (by rw [HK1.out, Hcl.out, ckMs_done (by have := Hll.out; omega)]), XR.out.below⟩
end Go.Proofs.YtokibfankmjphaaGreatDoor
