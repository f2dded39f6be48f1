/- Parts of the proof: walks and plain laws, side by side. -/
import Derived.Test.YtokibfankmjphaaGreatDoorM21
import Derived.Test.YtokibfankmjphaaGreatDoorM18
import Derived.Test.YtokibfankmjphaaGreatDoorM4
import Derived.Test.YtokibfankmjphaaGreatDoorM2
import Derived.Test.YtokibfankmjphaaGreatDoorM3
import Derived.Test.YtokibfankmjphaaGreatDoorM19
set_option linter.unusedVariables false
set_option linter.unusedSimpArgs false
set_option linter.unusedSectionVars false
/- quartermasterref.IsValid, walked. -/
namespace Go.Proofs.YtokibfankmjphaaGreatDoor
open Go.RowKit Qm

set_option maxRecDepth 100000 in
set_option maxHeartbeats 1600000 in
/-- Whether one member is what a target asks, by the document. -/
theorem rtarget_any {ps : List Pk} {l : List Mem} {S : Nat → Prop} {A B : Option Addr} {n c q d : Nat} {w0 : World} (C : Cx ps l S A n c B q d w0) (hfs : ∀ p ∈ ps, ∀ f ∈ p.fs, f ≠ []) (a : At) (h1 : a.nm.length ≤ maxLen) (h2 : a.fl.length ≤ maxLen) (tb nb : Nat) {m : Mem} (hm : m ∈ l) (cx : List Value) (hx : RMem w0 S cx m) (w : World) (hb : Below w0.heap.size w0 w)
    (ht : w.cell? ⟨tb, 0, none⟩ = some (.slice A n c)) (hn : ∀ i, i < 6 → w.cell? ⟨nb, i, none⟩ = (atRow a)[i]?) :
    Calls Tryz.prog 25 #[.agg cx.toArray, .pointer (some ⟨tb, 0, none⟩), .pointer (some ⟨nb, 0, none⟩)] w fun e w' => e = .returned (.bool (isA ps m a)) ∧ Below w.heap.size w w' := by
  obtain ⟨E, k, r, rfl, hkr, hr, hon⟩ := hx
  have hb1 : Below w.heap.size w (w.alloc (.cells #[.int .i64 m.pl, .slice E k r] 51)) := (Below.refl _ w).alloc (Nat.le_refl _) _
  have hb2 := hb.trans (hb1.mono hb.size)
  have HI := Lib.hid (ris_any ps m a S A E n c k r _ (C.t.under hb2 C.lt) (Row.below hon hb2 C.lt) hkr (C.ok m hm) (fun k hk => Nat.lt_of_lt_of_le (C.lt k hk) hb2.size) C.n8 hfs h1 h2)
  have HB := Lib.hid hb1
  have g1 := hn 0 (by omega); have g2 := hn 1 (by omega); have g3 := hn 2 (by omega); have g4 := hn 3 (by omega); have g5 := hn 4 (by omega); have g6 := hn 5 (by omega)
  unfold atRow at g1 g2 g3 g4 g5 g6
  simp only [List.getElem?_cons_zero, List.getElem?_cons_succ] at g1 g2 g3 g4 g5 g6
  have tlt := World.block_lt_of_cell? _ _ ht
  have nlt := World.block_lt_of_cell? _ _ g1
  dsimp only at tlt nlt
  clear hb1 hb2 hb hon hn C hm hfs
  go_enter Tryz.func25, Tryz.ntmps25
  go_wp2_with (first | (go_at_call 26; refine HI.out.mono ?_; rintro e w3 ⟨rfl, hb3⟩; refine Hid.out ?_))
  refine Lib.hid ?_
  have HB3 := Lib.hid (HB.out.trans (hb3.mono HB.out.size))
  clear hb3
  go_wp2
  go_ret
  exact ⟨rfl, HB3.out⟩
theorem vsadd (a b : Qm.W) (h : a.length + b.length ≤ 1000000) (wx : World) : (Op.stringOp .add ⟨a.toArray⟩ ⟨b.toArray⟩).run Tryz.prog wx = .ok (.string ⟨(a ++ b).toArray⟩) wx := by
  rw [run_string_add_sum wx _ _ (by rw [bsz, bsz]; omega)]
  exact congrArg (fun z => Result.ok (Value.string z) wx) (bapp a b)
theorem zeroBoolV (w : World) : (zeroValue 4).run Tryz.prog w = .ok (.bool false) w := by kernel_rfl
theorem oneOk_seen {ps : List Pk} (h : ckTree ps = 0) {ms : List Int} {l : List Mem} (hl : ∀ m ∈ l, MemOk ps m) {i : Nat} {m : Mem} (hm : l[i]? = some m) :
    oneOk ps ms l i = (!seenB ps l i (keyS ps m) && (!ms.contains m.pl && holdsN ps l i m (pkOf ps m.pl).nd)) := by
  unfold oneOk holdsAt
  rw [memAt_at hm, ← seen_lone h hl (hl m (List.mem_of_getElem? hm)) i]
  cases ms.contains m.pl <;> cases seenB ps l i (keyS ps m) <;> cases holdsN ps l i m (pkOf ps m.pl).nd <;> rfl
set_option maxRecDepth 100000 in
set_option maxHeartbeats 6400000 in
theorem risvalid_any (ps : List Pk) (v : Ws) (l : List Mem) (S : Nat → Prop) (A B : Option Addr) (n c q d : Nat) (A1 A2 A3 A4 : Option Addr) (n1 c1 n2 c2 n3 c3 n4 c4 : Nat) (w : World) (C : Cx ps l S A n c B q d w) (hck : ckSet ps l = 0) (hV : WsAt w S A1 n1 c1 A2 n2 c2 A3 n3 c3 A4 n4 c4 v) :
    Calls Tryz.prog 12 #[.agg #[.slice A n c], .agg #[.slice A1 n1 c1, .slice A2 n2 c2, .slice A3 n3 c3, .slice A4 n4 c4], .slice B q d] w fun e w' => e = .returned (.bool (validP ps v.ts v.ms l)) ∧ Below w.heap.size w w' := by
  have hct := (ckSet_zero hck).1
  have Hfs : Hid (∀ p ∈ ps, ∀ f ∈ p.fs, f ≠ []) := Lib.hid fun p hp f hf e => by
    have := (isName_len (ckFlags_names (pkOk (ckTree_mem hct p hp)).fs f hf)).1
    rw [e] at this; simp at this
  have Hnd : Hid (∀ p ∈ ps, p.fs.Nodup) := Lib.hid fun p hp => flags_nodup (pkOk (ckTree_mem hct p hp))
  have HTR := Lib.hid hct
  have X0 := Lib.hid (Wb.new w A n c [.slice A1 n1 c1, .slice A2 n2 c2, .slice A3 n3 c3, .slice A4 n4 c4])
  have HC := Lib.hid C; have HV := Lib.hid hV; have HCK := Lib.hid hck; clear hV hck hct
  have Hpl := Lib.hid C.t.len
  have Hll := Lib.hid C.s.len
  have Hts := Lib.hid HV.out.ts.len
  have H1 := HV.out.h1; have H3 := HV.out.h3
  have hqd := C.qd; have hdm := C.dm; have hn8 := C.n8; have hcm := C.cm
  unfold maxLen at H1 H3 hdm hcm
  clear C
  have HR : Hid (validP ps v.ts v.ms l = (v.ts.all (fun a => l.any (fun m => isA ps m a)) && allOk ps v.ms l l.length)) := Lib.hid rfl
  generalize validP ps v.ts v.ms l = R at HR ⊢
  have hmm := @run_makeMap Tryz.prog
  go_enter Tryz.func12, Tryz.ntmps12
  go_wp2
  go_loopg [17] n1 (fun g iv wr => ∃ j : Nat, Hid (j + g = n1) ∧ iv = .int .i64 j ∧ Hid ((v.ts.take j).all (fun a => l.any (fun m => isA ps m a)) = true) ∧ Hid (Wb w A n c [.slice A1 n1 c1, .slice A2 n2 c2, .slice A3 n3 c3, .slice A4 n4 c4] wr))
  case atStart => exact ⟨0, Lib.hid (Nat.zero_add _), rfl, Lib.hid rfl, X0⟩
  case round =>
    obtain ⟨j, Hj, rfl, Hcl, XR⟩ := hrel
    clear X0
    by_cases hj : j < n1
    · obtain ⟨b, o, x, a, rfl, hbS, ha, hxa, _, hcell⟩ := (HV.out.ts.keep (w' := wr) (fun p hp => XR.out.bel.cell (HC.out.lt _ hp)) fun _ _ h => h).at_ hj (by decide)
      obtain ⟨rfl, ha1, ha2⟩ := hxa
      have g0 := hcell 0 (by omega); have g1 := hcell 1 (by omega); have g2 := hcell 2 (by omega); have g3 := hcell 3 (by omega); have g4 := hcell 4 (by omega); have g5 := hcell 5 (by omega)
      unfold atRow at g0 g1 g2 g3 g4 g5
      simp only [List.getElem?_cons_zero, List.getElem?_cons_succ, Nat.add_zero] at g0 g1 g2 g3 g4 g5
      have X3 := Lib.hid (XR.out.alloc (.cells (atRow a).toArray 43))
      have W3 := Lib.hid (Whole.new wr wr.heap.size 43 (atRow a) rfl)
      have hcf := containsF_M (RMem w S) (fun m => isA ps m a) B q d l 25 #[.pointer (some ⟨w.heap.size, 0, none⟩), .pointer (some ⟨wr.heap.size, 0, none⟩)] _ S (RSeq.keep HC.out.s (fun p hp => X3.out.bel.cell (HC.out.lt _ hp)) fun _ _ h => h) (fun x hx => Nat.lt_of_lt_of_le (HC.out.lt x hx) X3.out.bel.size) (by unfold maxLen; omega)
        ⟨fun args W => by kernel_rfl, fun m hm cx W hb hr => rtarget_any HC.out Hfs.out a ha1 ha2 w.heap.size wr.heap.size hm cx hr W (X3.out.bel.trans (hb.mono X3.out.bel.size)) ((X3.out.t.below hb X3.out.t.lt).cell 0) (fun i _ => (W3.out.below hb W3.out.lt).cell i)⟩ (fun x y h => shape_mem h)
      have Hst := Lib.hid (all_take_succ (f := fun a => l.any (fun m => isA ps m a)) ha)
      have Hfa := Lib.hid (all_take_false (f := fun a => l.any (fun m => isA ps m a)) ha)
      generalize hq2 : l.any (fun m => isA ps m a) = r at hcf Hst Hfa
      have Hcf := Lib.hid hcf
      have Hq2 := Lib.hid hq2
      unfold atRow at Hcf X3
      clear hcf hcell ha hq2
      go_wp2_with (first | (go_at_call 24; refine Hcf.out.mono ?_; rintro e w4 ⟨rfl, hb4⟩; refine Hid.out ?_))
      refine Lib.hid ?_
      have X4 := Lib.hid (X3.out.move hb4)
      clear hb4 g0 g1 g2 g3 g4 g5 X3 W3
      cases r
      · have HE : Hid (R = false) := Lib.hid (by rw [HR.out, Hfa.out rfl]; rfl)
        go_wp2
        go_ret
        exact ⟨ret_bool HE.out.symm, X4.out.bel⟩
      · have HE : Hid ((v.ts.take (j + 1)).all (fun a => l.any (fun m => isA ps m a)) = true) := Lib.hid (by rw [Hst.out, Hcl.out]; rfl)
        go_wp2
        go_roundg (gk - 1)
        case measure => have := Hj.out; omega
        case rel => exact ⟨j + 1, Lib.hid (by have := Hj.out; omega), by go_num, HE, X4⟩
    · obtain rfl : n1 = j := by have := Hj.out; omega
      have HRA : Hid (R = allOk ps v.ms l l.length) := Lib.hid (by
        have h := Hcl.out
        rw [List.take_of_length_le (by have := Hts.out; omega)] at h
        rw [HR.out, h]; rfl)
      clear HR Hcl
      have hbm : Below wr.heap.size wr (wr.alloc (.map #[] 0)) := (Below.refl _ wr).alloc (Nat.le_refl _) _
      have XM := Lib.hid (XR.out.move hbm)
      have HSM := Lib.hid (StrSet.made Tryz.prog wr)
      have hrs := XR.out.v.lt
      clear hbm XR
      go_wp2
      obtain ⟨bm, hbm⟩ : ∃ x, x = wr.heap.size := ⟨_, rfl⟩
      rw [← hbm] at HSM hrs ⊢
      clear hbm
      generalize wr.alloc _ = wq at XM HSM ⊢
      go_loopg [29] q (fun g iv wr => ∃ (i m : Nat), Hid (i + g = q) ∧ iv = .int .i64 i ∧ Hid (allOk ps v.ms l i = true) ∧ m ≤ i ∧ Hid (StrSet Tryz.prog wr bm (seenB ps l i) m) ∧ Hid (Wb w A n c [.slice A1 n1 c1, .slice A2 n2 c2, .slice A3 n3 c3, .slice A4 n4 c4] wr))
      case atStart => exact ⟨0, 0, Lib.hid (Nat.zero_add _), rfl, Lib.hid rfl, Nat.le_refl _, Lib.hid (HSM.out.congr rfl fun x _ => rfl), XM⟩
      case round =>
        obtain ⟨i, mk, Hi, rfl, Hcl, hmk, HSQ, XQ⟩ := hrel
        clear XM HSM
        by_cases hi : i < q
        ·
          obtain ⟨b, o, m, E, u, v0, rfl, hbS, hm, huv, hv, _, g0, g1⟩ := (HC.out.s.under XQ.out.bel HC.out.lt).at_ hi
          have hmok := HC.out.ok m (List.mem_of_getElem? hm)
          have hpko := pkOf_ok HTR.out hmok
          obtain ⟨hp0, hp1, _⟩ := hmok
          have Hown := Lib.hid (own_flags HCK.out (k := i) (by have := Hll.out; omega))
          have hil : i < l.length := by have := Hll.out; omega
          have Hho := Lib.hid (fun cx wx (hb : Below w.heap.size w wx) hr => rholds_any ps l S A n c (some ⟨b, o, none⟩) q d Hfs.out Hnd.out (pkOf ps (memAt l i).pl).nd i cx wx (HC.out.under hb) hi hr Hown.out)
          have Hone := Lib.hid (oneOk_seen HTR.out (ms := v.ms) HC.out.ok hm)
          have Hnx : Hid (allOk ps v.ms l (i + 1) = oneOk ps v.ms l i) := Lib.hid (by rw [allOk, Hcl.out]; rfl)
          have Hno := Lib.hid (fun h => allOk_false (ps := ps) (ms := v.ms) hil h)
          have Hse := Lib.hid (seenB_step (ps := ps) hm)
          generalize oneOk ps v.ms l i = on1 at Hone Hnx Hno
          rw [memAt_at hm] at Hho
          have hpl := Hpl.out
          have Hms := Lib.hid (fun wx (hb : Below w.heap.size w wx) => containsI_any A3 n3 c3 v.ms m.pl wx S (Row.below HV.out.ms hb HC.out.lt) (by unfold maxLen; omega))
          have hkl := keyW_len hpko
          have Hkey : Hid (keyS ps m = (pkOf ps m.pl).nm ++ (58 :: Lib.itoa (pkOf ps m.pl).slot)) := Lib.hid rfl
          have hsl := hpko.slot
          have hnl := (isName_len hpko.nm).2
          have hkl' : (keyS ps m).length ≤ 100 := hkl
          generalize hkS : keyS ps m = kS at Hone Hse Hkey hkl'
          clear hkl hpko hkS
          obtain ⟨pl, on⟩ := m
          dsimp only at g0 hp0 hp1 Hho Hone Hms Hkey hsl hnl
          obtain ⟨j, rfl⟩ : ∃ j : Nat, pl = j := ⟨pl.toNat, by omega⟩
          have hjn : j < n := by omega
          obtain ⟨b2, o2, p, F, fn, fc, kd, pa, f, no, E2, r, d', rfl, hbS2, hp, hP, hcell⟩ := (HC.out.t.under XQ.out.bel HC.out.lt).at_ hjn
          rw [pkOf_at hp] at Hho Hone Hkey hsl hnl
          have hho := fun wx (hb : Below w.heap.size w wx) => Hho.out (ndRow kd pa f no E2 r d') wx hb ((hP.nd.keep (w' := w) (fun p hp => (XQ.out.bel.cell (HC.out.lt _ hp)).symm)).under hb HC.out.lt)
          have h0 := hcell 0 (by omega); have h1 := hcell 1 (by omega); have h2 := hcell 2 (by omega); have h3 := hcell 3 (by omega); have h4 := hcell 4 (by omega); have h5 := hcell 5 (by omega); have h6 := hcell 6 (by omega); have h7 := hcell 7 (by omega); have h8 := hcell 8 (by omega); have h9 := hcell 9 (by omega); have h10 := hcell 10 (by omega); have h11 := hcell 11 (by omega); have h12 := hcell 12 (by omega); have h13 := hcell 13 (by omega)
          unfold pkRow ndRow at h0 h1 h2 h3 h4 h5 h6 h7 h8 h9 h10 h11 h12 h13
          simp only [List.getElem?_cons_zero, List.getElem?_cons_succ, Nat.add_zero] at h0 h1 h2 h3 h4 h5 h6 h7 h8 h9 h10 h11 h12 h13
          have hbl : b < wr.heap.size := Nat.lt_of_lt_of_le (HC.out.lt _ hbS) XQ.out.bel.size
          have hbl2 : b2 < wr.heap.size := Nat.lt_of_lt_of_le (HC.out.lt _ hbS2) XQ.out.bel.size
          have hbl3 : b2 < wr.heap.size + 1 := by omega
          rw [pkOf_at hp] at *
          generalize holdsN ps l i ⟨(j : Int), on⟩ p.nd = rv at Hone hho
          generalize v.ms.contains (j : Int) = mc at Hms Hone
          have hbx : Below wr.heap.size wr ((wr.alloc (.cells #[.int .i64 (j : Int), .slice E u v0] 51)).alloc (.cells (pkRow p F fn fc (ndRow kd pa f no E2 r d')).toArray 48)) := ((Below.refl _ wr).alloc (Nat.le_refl _) _).alloc (by simp) _
          have X3 := Lib.hid (XQ.out.move hbx)
          have M3 := Lib.hid ((Whole.new wr wr.heap.size 51 [.int .i64 (j : Int), .slice E u v0] rfl).alloc (.cells (pkRow p F fn fc (ndRow kd pa f no E2 r d')).toArray 48))
          have P3 := Lib.hid (Whole.new (wr.alloc (.cells #[.int .i64 (j : Int), .slice E u v0] 51)) (wr.heap.size + 1) 48 (pkRow p F fn fc (ndRow kd pa f no E2 r d')) (by simp))
          have HS3 := Lib.hid ((HSQ.out.kept (World.grownBy_alloc wr (.cells #[.int .i64 (j : Int), .slice E u v0] 51) none) (by simp)).kept (World.grownBy_alloc _ (.cells (pkRow p F fn fc (ndRow kd pa f no E2 r d')).toArray 48) none) (by simp))
          have t0 := XQ.out.t.cell 0
          simp only [List.getElem?_cons_zero, List.getElem?_cons_succ] at t0
          have vlt := XQ.out.v.lt
          have tlt := XQ.out.t.lt
          have vlt1 : w.heap.size + 1 < wr.heap.size + 1 := by omega
          have tlt1 : w.heap.size < wr.heap.size + 1 := by omega
          have hjn1 : (j : Int) < n := by omega
          have hjn0 : (0 : Int) ≤ (j : Int) := by omega
          have hi0 : (0 : Int) ≤ (i : Int) := by omega
          have Hh := Lib.hid hho
          clear hho hcell hP hp hm hp0 hp1 hbx
          obtain ⟨nm, ver, slot, fs, nd⟩ := p
          unfold pkRow ndRow at P3 X3 M3 HS3
          unfold ndRow at Hh
          dsimp only at P3 X3 M3 HS3 Hkey hsl hnl h0 h1 h2 h3
          obtain ⟨sl, rfl⟩ : ∃ s : Nat, slot = s := ⟨slot.toNat, by omega⟩
          have hsl9 : sl < 100 := by omega
          have hit : Lib.itoa (sl : Int) = Lib.decDigits sl := by unfold Lib.itoa; rw [if_neg (by omega)]; rfl
          rw [hit] at Hkey
          have Hit := Lib.hid (fun wx => Tryz.strconv_Itoa_small sl hsl9 wx)
          have hdl : (Lib.decDigits sl).length ≤ 2 := by rw [← hit]; exact (itoa_len (by omega) (by omega)).2
          generalize Lib.decDigits sl = D at Hit Hkey hdl
          clear hit
          have s1 : ∀ wx : World, (Op.stringOp .add ⟨nm.toArray⟩ ⟨#[58]⟩).run Tryz.prog wx = .ok (.string ⟨(nm ++ [58]).toArray⟩) wx := fun wx => vsadd nm [58] (by simp; omega) wx
          have s2 : ∀ wx : World, (Op.stringOp .add ⟨(nm ++ [58]).toArray⟩ ⟨D.toArray⟩).run Tryz.prog wx = .ok (.string ⟨kS.toArray⟩) wx := fun wx => by
            have := vsadd (nm ++ [58]) D (by simp; omega) wx
            rw [this, Hkey.out]; simp
          generalize nm ++ [58] = L1 at s1 s2
          go_wp2
          generalize World.alloc (World.alloc wr _) _ = w4 at X3 P3 M3 HS3 ⊢
          clear t0 vlt tlt vlt1 tlt1 h0 h1 h2 h3 h4 h5 h6 h7 h8 h9 h10 h11 h12 h13 hbl hbl2 hbl3 g0 g1
          have p0 := P3.out.cell 0; have p2 := P3.out.cell 2
          simp only [List.getElem?_cons_zero, List.getElem?_cons_succ] at p0 p2
          go_quiet ((go_at_call 27; exact Calls.quiet_of_same (Hit.out _)))
          rename_i nq
          have X5 := Lib.hid (X3.out.drewN nq)
          have P5 := Lib.hid (P3.out.drewN nq)
          have M5 := Lib.hid (M3.out.drewN nq)
          have HS5 := Lib.hid (HS3.out.kept (grown_drewN (World.grownBy.refl w4 none) nq) (by simp))
          clear p0 p2 X3 P3 M3 HS3
          generalize w4.drewN nq = w5 at X5 P5 M5 HS5 ⊢
          have hl1 := HS5.out.look Tryz.underlying9 Tryz.underlying4 (zeroBoolV w5) Tryz.underlying64 (x := kS) (by unfold maxLen; omega)
          have t0 := X5.out.t.cell 0
          have v2 := X5.out.v.cell 2
          have m0 := M5.out.cell 0
          have p4 := P5.out.cell 4; have p5 := P5.out.cell 5; have p6 := P5.out.cell 6; have p7 := P5.out.cell 7; have p8 := P5.out.cell 8; have p9 := P5.out.cell 9; have p10 := P5.out.cell 10; have p11 := P5.out.cell 11; have p12 := P5.out.cell 12; have p13 := P5.out.cell 13
          simp only [List.getElem?_cons_zero, List.getElem?_cons_succ] at t0 v2 m0 p4 p5 p6 p7 p8 p9 p10 p11 p12 p13
          have plt := P5.out.lt
          have mlt := M5.out.lt
          generalize hsb : seenB ps l i kS = sb at hl1 Hone
          have Hsb := Lib.hid hsb
          clear hsb
          cases sb
          · cases mc
            · go_wp2_with (first | (go_at_call 28; refine (Hms.out _ X5.out.bel).mono ?_; rintro e w6 ⟨rfl, hw4⟩; have hw5 := hw4.symm; subst hw5; refine Hid.out ?_))
              refine Lib.hid ?_
              go_wp2_with (first | (go_at_call 13; refine (Hh.out _ X5.out.bel).mono ?_; rintro e w7 ⟨rfl, hb7⟩; refine Hid.out ?_))
              refine Lib.hid ?_
              have X7 := Lib.hid (X5.out.move hb7)
              have HS7 := Lib.hid (HS5.out.kept (grown_of_below hb7 none) (by simp))
              clear hb7 t0 v2 m0 p4 p5 p6 p7 p8 p9 p10 p11 p12 p13 plt mlt hl1
              cases rv
              · have HE : Hid (R = false) := Lib.hid (by rw [HRA.out, Hno.out (by rw [Hone.out]; rfl)])
                go_wp2
                go_ret
                exact ⟨ret_bool HE.out.symm, X7.out.bel⟩
              · obtain ⟨w8, hput, hset8, hg8, hs8⟩ := HS7.out.put Tryz.underlying9 Tryz.underlying4 Tryz.underlying64 (x := kS) (by unfold maxLen; omega) (by unfold maxLen; omega)
                have HOK : Hid (allOk ps v.ms l (i + 1) = true) := Lib.hid (by rw [Hnx.out, Hone.out]; rfl)
                have HN : Hid (StrSet Tryz.prog w8 bm (seenB ps l (i + 1)) (mk + 1)) := Lib.hid (hset8.congr (by rw [Hsb.out]; rfl) fun x _ => (Hse.out x).symm)
                have X8 := Lib.hid (Wb.mk (X7.out.t.grown hg8 (by intro e; injection e with e; omega)) (X7.out.v.grown hg8 (by intro e; injection e with e; omega)) (X7.out.bel.grown hg8 X7.out.bel.size (fun k e => by injection e with e; omega)) : Wb w _ n c [.slice A1 n1 c1, .slice A2 n2 c2, .slice A3 n3 c3, .slice A4 n4 c4] w8)
                clear hset8 hg8 hs8
                go_wp2
                go_roundg (gk - 1)
                case measure => have := Hi.out; omega
                case rel => exact ⟨i + 1, mk + 1, Lib.hid (by have := Hi.out; omega), by go_num, HOK, by omega, HN, X8⟩
            · have HE : Hid (R = false) := Lib.hid (by rw [HRA.out, Hno.out (by rw [Hone.out]; rfl)])
              go_wp2_with (first | (go_at_call 28; refine (Hms.out _ X5.out.bel).mono ?_; rintro e w6 ⟨rfl, hw4⟩; have hw5 := hw4.symm; subst hw5; refine Hid.out ?_))
              refine Lib.hid ?_
              go_wp2
              go_ret
              exact ⟨ret_bool HE.out.symm, X5.out.bel⟩
          · have HE : Hid (R = false) := Lib.hid (by rw [HRA.out, Hno.out (by rw [Hone.out]; rfl)])
            go_wp2
            go_ret
            exact ⟨ret_bool HE.out.symm, X5.out.bel⟩
        · obtain rfl : q = i := by have := Hi.out; omega
          go_wp2
          go_ret
          exact ⟨ret_bool (by rw [HRA.out, Hll.out, Hcl.out]), XQ.out.bel⟩
end Go.Proofs.YtokibfankmjphaaGreatDoor

/- quartermasterref.sized, walked. -/
namespace Qm
open Go
mutual
def szd : Nd → Nat → Int × Int
  | .mk _ _ _ _ ks, l => if l = 0 then (0, 99) else szdL ks (l - 1) 1 0
def szdL : List Nd → Nat → Int → Int → Int × Int
  | [], _, all, dp => (all, dp + 1)
  | k :: r, l, all, dp => if 100 < all + (szd k l).1 ∨ 50 < (szd k l).2 then (101, 99) else szdL r l (all + (szd k l).1) (max dp (szd k l).2)
end
theorem Nd.deep_pos (n : Nd) : 1 ≤ n.deep := by cases n; simp only [Nd.deep]; omega
theorem szdL_spec {ks : List Nd} {l : Nat} (ih : ∀ x ∈ ks, ((x.deep ≤ l ∧ x.nodes ≤ 100) ∧ szd x l = ((x.nodes : Int), (x.deep : Int))) ∨ (¬ (x.deep ≤ l ∧ x.nodes ≤ 100) ∧ (szd x l).2 = 99 ∧ 0 ≤ (szd x l).1 ∧ (szd x l).1 ≤ 101)) (hl : l ≤ 50) :
    ∀ (all dp : Nat), 1 ≤ all → all ≤ 100 → dp ≤ l → ((max dp (deepL ks) ≤ l ∧ all + nodesL ks ≤ 100) ∧ szdL ks l all dp = (((all + nodesL ks : Nat) : Int), ((max dp (deepL ks) + 1 : Nat) : Int))) ∨ (¬ (max dp (deepL ks) ≤ l ∧ all + nodesL ks ≤ 100) ∧ szdL ks l all dp = (101, 99)) := by
  induction ks with
  | nil => intro all dp h1 h2 h3; exact .inl ⟨by simp only [deepL, nodesL]; omega, by simp only [szdL, nodesL, deepL]; congr 1 <;> omega⟩
  | cons k r ihr =>
    intro all dp h1 h2 h3
    have ir := ihr fun x hx => ih x (List.mem_cons_of_mem _ hx)
    simp only [szdL, nodesL, deepL]
    rcases ih k (List.mem_cons_self ..) with ⟨⟨q1, q2⟩, e⟩ | ⟨q, e, _, _⟩
    · rw [e]
      by_cases hc : 100 < all + k.nodes
      · rw [if_pos (by simp only; omega)]
        exact .inr ⟨by omega, rfl⟩
      · rw [if_neg (by simp only; omega)]
        have em : (max (dp : Int) (k.deep : Int)) = ((max dp k.deep : Nat) : Int) := by omega
        have ea : ((all : Int) + (k.nodes : Int)) = ((all + k.nodes : Nat) : Int) := by omega
        simp only [em, ea]
        rcases ir (all + k.nodes) (max dp k.deep) (by omega) (by omega) (by omega) with ⟨a, b⟩ | ⟨a, b⟩
        · refine .inl ⟨by omega, ?_⟩
          rw [b]; congr 2 <;> omega
        · exact .inr ⟨by omega, b⟩
    · rw [if_pos (.inr (by omega))]
      exact .inr ⟨by omega, rfl⟩
theorem szd_spec : ∀ (n : Nd) (l : Nat), l ≤ 50 → ((n.deep ≤ l ∧ n.nodes ≤ 100) ∧ szd n l = ((n.nodes : Int), (n.deep : Int))) ∨ (¬ (n.deep ≤ l ∧ n.nodes ≤ 100) ∧ (szd n l).2 = 99 ∧ 0 ≤ (szd n l).1 ∧ (szd n l).1 ≤ 101) := by
  refine Nd.ind fun k a f no ks ih => ?_
  intro l hl
  simp only [szd, Nd.nodes, Nd.deep]
  by_cases h : l = 0
  · rw [if_pos h]; exact .inr ⟨by omega, rfl, by simp only; omega, by simp only; omega⟩
  · rw [if_neg h]
    have e1 : ((1 : Int)) = ((1 : Nat) : Int) := rfl
    rcases szdL_spec (l := l - 1) (fun x hx => ih x hx (l - 1) (by omega)) (by omega) 1 0 (by omega) (by omega) (by omega) with ⟨a, b⟩ | ⟨a, b⟩
    · refine .inl ⟨by omega, ?_⟩
      have b' : szdL ks (l - 1) 1 0 = _ := b
      rw [b']; congr 2 <;> omega
    · have b' : szdL ks (l - 1) 1 0 = _ := b
      rw [b']
      exact .inr ⟨by omega, rfl, by simp only; omega, by simp only; omega⟩
theorem szd_le (n : Nd) (l : Nat) (hl : l ≤ 50) : 0 ≤ (szd n l).1 ∧ (szd n l).1 ≤ 101 ∧ 0 ≤ (szd n l).2 ∧ (szd n l).2 ≤ 99 := by
  rcases szd_spec n l hl with ⟨⟨a, b⟩, e⟩ | ⟨_, e, h1, h2⟩
  · rw [e]; simp only; omega
  · omega
theorem szd_many (n : Nd) : (20 < (szd n 4).1 ∨ 4 < (szd n 4).2) ↔ tooMany n := by
  unfold tooMany
  rcases szd_spec n 4 (by omega) with ⟨⟨a, b⟩, e⟩ | ⟨h, e, _, _⟩
  · rw [e]; simp only; omega
  · rw [e]; have := n.deep_pos; omega
end Qm
namespace Go.Proofs.YtokibfankmjphaaGreatDoor
open Go.RowKit Qm

set_option maxHeartbeats 1600000 in
theorem sized_any : ∀ (n : Nd) (S : Nat → Prop) (x : List Value) (l : Nat) (w : World), RNd w S x n → (∀ k, S k → k < w.heap.size) → l ≤ 4 →
    Calls Tryz.prog 41 #[.agg x.toArray, .int .i64 l] w fun e w' => e = .returned (.tuple #[.int .i64 (szd n l).1, .int .i64 (szd n l).2]) ∧ Below w.heap.size w w' := by
  refine Nd.ind fun k a f no ks ih => ?_
  intro S x l w hR hS hl
  have HI := Lib.hid ih; clear ih
  obtain ⟨A, n, c, rfl, hnc, hc, h1, h2, h3, hK⟩ := hR.open_
  clear hR
  have HS := Lib.hid hS; clear hS
  have HK := Lib.hid hK; clear hK
  unfold maxLen at hc
  clear h1 h2 h3
  unfold ndRow
  have HW := Lib.hid (Whole.new w _ 46 [.int .i64 k, .string ⟨a.nm.toArray⟩, .int .i64 a.op, .int .i64 a.ver, .int .i64 a.slot, .string ⟨a.fl.toArray⟩, .bool a.on, .string ⟨f.toArray⟩, .bool no, .slice A n c] rfl)
  have HB := Lib.hid ((Below.refl _ w).alloc (Nat.le_refl _) (.cells #[.int .i64 k, .string ⟨a.nm.toArray⟩, .int .i64 a.op, .int .i64 a.ver, .int .i64 a.slot, .string ⟨a.fl.toArray⟩, .bool a.on, .string ⟨f.toArray⟩, .bool no, .slice A n c] 46))
  by_cases h4 : l = 0
  · subst h4
    have HC : Hid (szd (.mk k a f no ks) 0 = (0, 99)) := Lib.hid (by simp [szd])
    generalize szd (.mk k a f no ks) 0 = R at HC ⊢
    go_enter Tryz.func41, Tryz.ntmps41
    go_wp2
    go_ret2
    exact ⟨by rw [HC.out]; rfl, HB.out⟩
  · have h4' : ((l : Int) == 0) = false := by simp; omega
    have HC : Hid (szd (.mk k a f no ks) l = szdL ks (l - 1) 1 0) := Lib.hid (by simp [szd, h4])
    generalize szd (.mk k a f no ks) l = R at HC ⊢
    go_enter Tryz.func41, Tryz.ntmps41
    go_wp2
    go_loopg [4, 5, 15] n (fun g av dv iv wr => ∃ (j : Nat) (z d : Int), Hid (j + g = n) ∧ iv = .int .i64 j ∧ av = .int .i64 z ∧ dv = .int .i64 d ∧ 1 ≤ z ∧ z ≤ 100 ∧ 0 ≤ d ∧ d ≤ 50 ∧ Hid (szdL ks (l - 1) 1 0 = szdL (ks.drop j) (l - 1) z d) ∧ Below w.heap.size w wr)
    case atStart => exact ⟨0, 1, 0, Lib.hid (Nat.zero_add _), rfl, rfl, rfl, by omega, by omega, by omega, by omega, Lib.hid rfl, HB.out⟩
    case round =>
      obtain ⟨j, z, d, Hj, rfl, rfl, rfl, hz1, hz2, hd1, hd2, Hcl, hb⟩ := hrel
      have HBr := Lib.hid hb; clear hb
      by_cases hj : j < n
      · obtain ⟨b, o, x, y, rfl, hb, hy, hxy, hcell⟩ := (HK.out.under HBr.out HS.out).at_ hj
        have Hdr := Lib.hid (drop_step hy)
        have hmem := List.mem_of_getElem? hy
        obtain ⟨yk, ya, yf, yn, yks⟩ := y
        obtain ⟨A', n', c', rfl, -⟩ := hxy.open_
        have g0 := hcell 0 (by omega); have g1 := hcell 1 (by omega); have g2 := hcell 2 (by omega); have g3 := hcell 3 (by omega); have g4 := hcell 4 (by omega)
        have g5 := hcell 5 (by omega); have g6 := hcell 6 (by omega); have g7 := hcell 7 (by omega); have g8 := hcell 8 (by omega); have g9 := hcell 9 (by omega)
        clear hcell
        unfold ndRow at g0 g1 g2 g3 g4 g5 g6 g7 g8 g9
        simp only [List.getElem?_cons_zero, List.getElem?_cons_succ, Nat.add_zero] at g0 g1 g2 g3 g4 g5 g6 g7 g8 g9
        clear hy
        have hxy2 := (hxy.under (Below.refl _ wr |>.alloc (Nat.le_refl _) (.cells #[.int .i64 yk, .string ⟨ya.nm.toArray⟩, .int .i64 ya.op, .int .i64 ya.ver, .int .i64 ya.slot, .string ⟨ya.fl.toArray⟩, .bool ya.on, .string ⟨yf.toArray⟩, .bool yn, .slice A' n' c'] 46)) fun q hq => Nat.lt_of_lt_of_le (HS.out q hq) HBr.out.size)
        clear hxy
        have hcall := HI.out _ hmem S _ (l - 1) _ hxy2 (fun q hq => by have := HS.out q hq; have := HBr.out.size; simp; omega) (by omega)
        have e : ((l - 1 : Nat) : Int) = (l : Int) - 1 := by omega
        rw [e] at hcall
        unfold ndRow at hcall
        have Hle := szd_le (.mk yk ya yf yn yks) (l - 1) (by omega)
        have HX : Hid (szdL (ks.drop j) (l - 1) z d = if 100 < z + (szd (.mk yk ya yf yn yks) (l - 1)).1 ∨ 50 < (szd (.mk yk ya yf yn yks) (l - 1)).2 then (101, 99) else szdL (ks.drop (j + 1)) (l - 1) (z + (szd (.mk yk ya yf yn yks) (l - 1)).1) (max d (szd (.mk yk ya yf yn yks) (l - 1)).2)) := Lib.hid (by rw [Hdr.out]; simp only [szdL])
        generalize hq : szd (.mk yk ya yf yn yks) (l - 1) = q at hcall Hle HX
        obtain ⟨m, dd⟩ := q
        simp only at hcall Hle HX
        obtain ⟨m1, m2, d1, d2⟩ := Hle
        have HBn := Lib.hid (HBr.out.alloc HBr.out.size (.cells #[.int .i64 yk, .string ⟨ya.nm.toArray⟩, .int .i64 ya.op, .int .i64 ya.ver, .int .i64 ya.slot, .string ⟨ya.fl.toArray⟩, .bool ya.on, .string ⟨yf.toArray⟩, .bool yn, .slice A' n' c'] 46))
        clear hq e hxy2 Hdr hmem
        have Hcall := Lib.hid hcall; clear hcall
        by_cases hm : 100 < z + m
        · have HX2 := Lib.hid (HX.out.trans (if_pos (.inl hm)))
          clear HX
          go_wp2_with (first | (go_at_call 41; refine Hcall.out.mono ?_; rintro e w' ⟨rfl, hb'⟩; refine Hid.out ?_))
          refine Lib.hid ?_
          have HB' := Lib.hid (HBn.out.trans (hb'.mono HBn.out.size)); clear hb'
          go_wp2
          go_ret2
          exact ⟨by rw [HC.out, Hcl.out, HX2.out]; rfl, HB'.out⟩
        · have hm' : decide (100 < z + m) = false := by simpa using hm
          by_cases hd : 50 < dd
          · have HX2 := Lib.hid (HX.out.trans (if_pos (.inr hd)))
            clear HX
            go_wp2_with (first | (go_at_call 41; refine Hcall.out.mono ?_; rintro e w' ⟨rfl, hb'⟩; refine Hid.out ?_))
            refine Lib.hid ?_
            have HB' := Lib.hid (HBn.out.trans (hb'.mono HBn.out.size)); clear hb'
            go_wp2
            go_ret2
            exact ⟨by rw [HC.out, Hcl.out, HX2.out]; rfl, HB'.out⟩
          · have hd' : decide (50 < dd) = false := by simpa using hd
            have HX2 := Lib.hid (HX.out.trans (if_neg (by omega)))
            clear HX
            go_wp2_with (first | (go_at_call 41; refine Hcall.out.mono ?_; rintro e w' ⟨rfl, hb'⟩; refine Hid.out ?_))
            refine Lib.hid ?_
            have HB' := Lib.hid (HBn.out.trans (hb'.mono HBn.out.size)); clear hb'
            go_wp2
            all_goals (
              go_roundg (gk - 1)
              case measure => have := Hj.out; omega
              case rel => exact ⟨j + 1, z + m, max d dd, Lib.hid (by have := Hj.out; omega), by go_num, rfl, (by first | rfl | (congr 1; omega)), by omega, by omega, by omega, by omega, Lib.hid (by rw [Hcl.out, HX2.out]), HB'.out⟩)
      · go_wp2
        go_ret2
        refine ⟨?_, HBr.out⟩
        rw [HC.out, Hcl.out, List.drop_of_length_le (by have := HK.out.len; omega)]; rfl
end Go.Proofs.YtokibfankmjphaaGreatDoor

/- The closure of quartermasterref.CheckNeed, walked. -/
namespace Go.Proofs.YtokibfankmjphaaGreatDoor
open Go.RowKit Qm

/-- The box that holds the closure itself. -/
def selfC (bx : Nat) : Value := .func (.func 42) #[] #[.pointer (some ⟨bx, 0, none⟩)]
set_option maxRecDepth 100000 in
set_option maxHeartbeats 3200000 in
theorem rwalk_bad (nm fl f : Qm.W) (op ver slot k : Int) (on no : Bool) (A : Option Addr) (n c : Nat) (ks : List Nd) (w : World) (bx : Nat) (k1 : 3 ≤ k) (k2 : k ≤ 5) (ha : ¬ (nm = [] ∧ op = 0 ∧ ver = 0 ∧ slot = 0 ∧ fl = [] ∧ on = false)) :
    Calls Tryz.prog 42 #[.agg (ndRow k ⟨nm, op, ver, slot, fl, on⟩ f no A n c).toArray, .pointer (some ⟨bx, 0, none⟩)] w fun e w' => e = .returned (.int .i64 (ckNd (.mk k ⟨nm, op, ver, slot, fl, on⟩ f no ks))) ∧ Below w.heap.size w w' := by
  unfold ndRow
  have HC : Hid (ckNd (.mk k ⟨nm, op, ver, slot, fl, on⟩ f no ks) = 4) := Lib.hid (by
    have hl : leafK k = false := by simp [leafK]; omega
    simp only [ckNd]; rw [if_neg (by omega), if_neg (by simp [hl]), if_pos ⟨hl, by simpa [At.zero] using ha⟩])
  have e1 : (k == 1) = false := by simp; omega
  have e2 : (k == 2) = false := by simp; omega
  have e3 : decide (k < 1) = false := by simp; omega
  have e4 : decide (5 < k) = false := by simp; omega
  have HB := Lib.hid ((Below.refl _ w).alloc (Nat.le_refl _) (.cells #[.int .i64 k, .string ⟨nm.toArray⟩, .int .i64 op, .int .i64 ver, .int .i64 slot, .string ⟨fl.toArray⟩, .bool on, .string ⟨f.toArray⟩, .bool no, .slice A n c] 46))
  by_cases c1 : nm = []
  · subst c1
    by_cases c2 : op = 0
    · subst c2
      by_cases c3 : ver = 0
      · subst c3
        by_cases c4 : slot = 0
        · subst c4
          by_cases c5 : fl = []
          · subst c5
            cases on
            · exact absurd ⟨rfl, rfl, rfl, rfl, rfl, rfl⟩ ha
            · clear ha
              go_enter Tryz.func42, Tryz.ntmps42
              go_wp2
              go_ret
              exact ⟨ret_int HC.out.symm, HB.out⟩
          · clear ha
            go_enter Tryz.func42, Tryz.ntmps42
            go_wp2
            go_ret
            exact ⟨ret_int HC.out.symm, HB.out⟩
        · clear ha
          go_enter Tryz.func42, Tryz.ntmps42
          go_wp2
          go_ret
          exact ⟨ret_int HC.out.symm, HB.out⟩
      · clear ha
        go_enter Tryz.func42, Tryz.ntmps42
        go_wp2
        go_ret
        exact ⟨ret_int HC.out.symm, HB.out⟩
    · clear ha
      go_enter Tryz.func42, Tryz.ntmps42
      go_wp2
      go_ret
      exact ⟨ret_int HC.out.symm, HB.out⟩
  · clear ha
    go_enter Tryz.func42, Tryz.ntmps42
    go_wp2
    go_ret
    exact ⟨ret_int HC.out.symm, HB.out⟩

set_option maxRecDepth 100000 in
set_option maxHeartbeats 3200000 in
theorem rwalk_out (nm fl f : Qm.W) (op ver slot k : Int) (on no : Bool) (A : Option Addr) (n c : Nat) (ks : List Nd) (w : World) (bx : Nat) (hk : k < 1 ∨ 5 < k) :
    Calls Tryz.prog 42 #[.agg (ndRow k ⟨nm, op, ver, slot, fl, on⟩ f no A n c).toArray, .pointer (some ⟨bx, 0, none⟩)] w fun e w' => e = .returned (.int .i64 (ckNd (.mk k ⟨nm, op, ver, slot, fl, on⟩ f no ks))) ∧ Below w.heap.size w w' := by
  unfold ndRow
  have HC : Hid (ckNd (.mk k ⟨nm, op, ver, slot, fl, on⟩ f no ks) = 4) := Lib.hid (by simp only [ckNd]; rw [if_pos hk])
  have HB := Lib.hid ((Below.refl _ w).alloc (Nat.le_refl _) (.cells #[.int .i64 k, .string ⟨nm.toArray⟩, .int .i64 op, .int .i64 ver, .int .i64 slot, .string ⟨fl.toArray⟩, .bool on, .string ⟨f.toArray⟩, .bool no, .slice A n c] 46))
  have e1 : (k == 1) = false := by simp; omega
  have e2 : (k == 2) = false := by simp; omega
  rcases hk with hk | hk
  ·
    go_enter Tryz.func42, Tryz.ntmps42
    go_wp2
    go_ret
    exact ⟨ret_int HC.out.symm, HB.out⟩
  · have e3 : decide (k < 1) = false := by simp; omega
    go_enter Tryz.func42, Tryz.ntmps42
    go_wp2
    go_ret
    exact ⟨ret_int HC.out.symm, HB.out⟩
set_option maxRecDepth 100000 in
set_option maxHeartbeats 3200000 in
theorem rwalk_leaf1 (nm fl f : Qm.W) (op ver slot : Int) (on no : Bool) (A : Option Addr) (n c : Nat) (ks : List Nd) (w : World) (bx : Nat) (hc : n ≤ c) (hc2 : c ≤ maxLen) (h1 : nm.length ≤ maxLen) (h2 : fl.length ≤ maxLen) (hlen : ks.length = n) :
    Calls Tryz.prog 42 #[.agg (ndRow 1 ⟨nm, op, ver, slot, fl, on⟩ f no A n c).toArray, .pointer (some ⟨bx, 0, none⟩)] w fun e w' => e = .returned (.int .i64 (ckNd (.mk 1 ⟨nm, op, ver, slot, fl, on⟩ f no ks))) ∧ Below w.heap.size w w' := by
  unfold ndRow
  unfold maxLen at hc2
  have HB := Lib.hid ((Below.refl _ w).alloc (Nat.le_refl _) (.cells #[.int .i64 1, .string ⟨nm.toArray⟩, .int .i64 op, .int .i64 ver, .int .i64 slot, .string ⟨fl.toArray⟩, .bool on, .string ⟨f.toArray⟩, .bool no, .slice A n c] 46))
  by_cases hn : 0 < n
  · have HC : Hid (ckNd (.mk 1 ⟨nm, op, ver, slot, fl, on⟩ f no ks) = 4) := Lib.hid (by
      simp only [ckNd]; rw [if_neg (by omega), if_pos ⟨rfl, by omega⟩])
    have hn' : ((n : Int) != 0) = true := by simp; omega
    go_enter Tryz.func42, Tryz.ntmps42
    go_wp2
    go_ret
    exact ⟨ret_int HC.out.symm, HB.out⟩
  · obtain rfl : n = 0 := by omega
    clear hn
    by_cases hf : f = [] ∧ no = false
    · obtain ⟨rfl, rfl⟩ := hf
      have HC : Hid (ckNd (.mk 1 ⟨nm, op, ver, slot, fl, on⟩ [] false ks) = ckAtom ⟨nm, op, ver, slot, fl, on⟩) := Lib.hid (by
        simp only [ckNd]; rw [if_neg (by omega), if_neg (by simp [hlen]), if_neg (by simp [leafK]), if_neg (by simp), if_neg (by simp), if_pos (by rfl)])
      have hck := fun wx => rcheck_any ⟨nm.toArray⟩ ⟨fl.toArray⟩ op ver slot on wx (by rw [bsz]; exact h1) (by rw [bsz]; exact h2)
      rw [show atOf ⟨nm.toArray⟩ op ver slot ⟨fl.toArray⟩ on = ⟨nm, op, ver, slot, fl, on⟩ from by simp [atOf]] at hck
      unfold atv at hck
      have Hck := Lib.hid hck; clear hck
      generalize ckAtom _ = q at Hck HC
      clear h1 h2
      go_enter Tryz.func42, Tryz.ntmps42
      go_wp2_with (first | (go_at_call 22; refine (Hck.out _).mono ?_; rintro e w1 ⟨rfl, hb1⟩; refine Hid.out ?_))
      refine Lib.hid ?_
      have HB1 := Lib.hid (HB.out.trans (hb1.mono HB.out.size)); clear hb1
      go_wp2
      go_ret
      exact ⟨ret_int HC.out.symm, HB1.out⟩
    · have HC : Hid (ckNd (.mk 1 ⟨nm, op, ver, slot, fl, on⟩ f no ks) = 4) := Lib.hid (by
        simp only [ckNd]; rw [if_neg (by omega), if_neg (by simp [hlen]), if_neg (by simp [leafK]), if_pos ⟨by omega, by cases no <;> simp_all⟩])
      cases no
      · have hf0 : ¬ f = [] := fun e => hf ⟨e, rfl⟩
        have hf1 : (!List.isEmpty f) = true := by cases f with | nil => exact absurd rfl hf0 | cons => rfl
        clear hf
        go_enter Tryz.func42, Tryz.ntmps42
        go_wp2
        go_ret
        exact ⟨ret_int HC.out.symm, HB.out⟩
      · clear hf
        go_enter Tryz.func42, Tryz.ntmps42
        go_wp2
        go_ret
        exact ⟨ret_int HC.out.symm, HB.out⟩
set_option maxRecDepth 100000 in
set_option maxHeartbeats 3200000 in
theorem rwalk_leaf2 (nm fl f : Qm.W) (op ver slot : Int) (on no : Bool) (A : Option Addr) (n c : Nat) (ks : List Nd) (w : World) (bx : Nat) (hc : n ≤ c) (hc2 : c ≤ maxLen) (h1 : nm.length ≤ maxLen) (h2 : fl.length ≤ maxLen) (hlen : ks.length = n) :
    Calls Tryz.prog 42 #[.agg (ndRow 2 ⟨nm, op, ver, slot, fl, on⟩ f no A n c).toArray, .pointer (some ⟨bx, 0, none⟩)] w fun e w' => e = .returned (.int .i64 (ckNd (.mk 2 ⟨nm, op, ver, slot, fl, on⟩ f no ks))) ∧ Below w.heap.size w w' := by
  unfold ndRow
  unfold maxLen at hc2
  have HB := Lib.hid ((Below.refl _ w).alloc (Nat.le_refl _) (.cells #[.int .i64 2, .string ⟨nm.toArray⟩, .int .i64 op, .int .i64 ver, .int .i64 slot, .string ⟨fl.toArray⟩, .bool on, .string ⟨f.toArray⟩, .bool no, .slice A n c] 46))
  by_cases hn : 0 < n
  · have HC : Hid (ckNd (.mk 2 ⟨nm, op, ver, slot, fl, on⟩ f no ks) = 4) := Lib.hid (by
      simp only [ckNd]; rw [if_neg (by omega), if_pos ⟨rfl, by omega⟩])
    have hn' : ((n : Int) != 0) = true := by simp; omega
    go_enter Tryz.func42, Tryz.ntmps42
    go_wp2
    go_ret
    exact ⟨ret_int HC.out.symm, HB.out⟩
  · obtain rfl : n = 0 := by omega
    clear hn
    by_cases hf : f = [] ∧ no = false
    · obtain ⟨rfl, rfl⟩ := hf
      have HC : Hid (ckNd (.mk 2 ⟨nm, op, ver, slot, fl, on⟩ [] false ks) = ckAtom ⟨nm, op, ver, slot, fl, on⟩) := Lib.hid (by
        simp only [ckNd]; rw [if_neg (by omega), if_neg (by simp [hlen]), if_neg (by simp [leafK]), if_neg (by simp), if_neg (by simp), if_pos (by rfl)])
      have hck := fun wx => rcheck_any ⟨nm.toArray⟩ ⟨fl.toArray⟩ op ver slot on wx (by rw [bsz]; exact h1) (by rw [bsz]; exact h2)
      rw [show atOf ⟨nm.toArray⟩ op ver slot ⟨fl.toArray⟩ on = ⟨nm, op, ver, slot, fl, on⟩ from by simp [atOf]] at hck
      unfold atv at hck
      have Hck := Lib.hid hck; clear hck
      generalize ckAtom _ = q at Hck HC
      clear h1 h2
      go_enter Tryz.func42, Tryz.ntmps42
      go_wp2_with (first | (go_at_call 22; refine (Hck.out _).mono ?_; rintro e w1 ⟨rfl, hb1⟩; refine Hid.out ?_))
      refine Lib.hid ?_
      have HB1 := Lib.hid (HB.out.trans (hb1.mono HB.out.size)); clear hb1
      go_wp2
      go_ret
      exact ⟨ret_int HC.out.symm, HB1.out⟩
    · have HC : Hid (ckNd (.mk 2 ⟨nm, op, ver, slot, fl, on⟩ f no ks) = 4) := Lib.hid (by
        simp only [ckNd]; rw [if_neg (by omega), if_neg (by simp [hlen]), if_neg (by simp [leafK]), if_pos ⟨by omega, by cases no <;> simp_all⟩])
      cases no
      · have hf0 : ¬ f = [] := fun e => hf ⟨e, rfl⟩
        have hf1 : (!List.isEmpty f) = true := by cases f with | nil => exact absurd rfl hf0 | cons => rfl
        clear hf
        go_enter Tryz.func42, Tryz.ntmps42
        go_wp2
        go_ret
        exact ⟨ret_int HC.out.symm, HB.out⟩
      · clear hf
        go_enter Tryz.func42, Tryz.ntmps42
        go_wp2
        go_ret
        exact ⟨ret_int HC.out.symm, HB.out⟩
set_option maxRecDepth 100000 in
set_option maxHeartbeats 3200000 in
theorem rwalk_flag3 (f : Qm.W) (no : Bool) (A : Option Addr) (n c : Nat) (ks : List Nd) (w : World) (bx : Nat) (hf : ¬ (f = [] ∧ no = false)) :
    Calls Tryz.prog 42 #[.agg (ndRow 3 ⟨[], 0, 0, 0, [], false⟩ f no A n c).toArray, .pointer (some ⟨bx, 0, none⟩)] w fun e w' => e = .returned (.int .i64 (ckNd (.mk 3 ⟨[], 0, 0, 0, [], false⟩ f no ks))) ∧ Below w.heap.size w w' := by
  unfold ndRow
  have HC : Hid (ckNd (.mk 3 ⟨[], 0, 0, 0, [], false⟩ f no ks) = 4) := Lib.hid (by
    simp only [ckNd]; rw [if_neg (by omega), if_neg (by simp [leafK]), if_neg (by simp [At.zero]), if_pos ⟨by omega, by cases no <;> simp_all⟩])
  have HB := Lib.hid ((Below.refl _ w).alloc (Nat.le_refl _) (.cells #[.int .i64 3, .string ⟨#[]⟩, .int .i64 0, .int .i64 0, .int .i64 0, .string ⟨#[]⟩, .bool false, .string ⟨f.toArray⟩, .bool no, .slice A n c] 46))
  cases no
  · have hf0 : ¬ f = [] := fun e => hf ⟨e, rfl⟩
    have hf1 : (!List.isEmpty f) = true := by cases f with | nil => exact absurd rfl hf0 | cons => rfl
    clear hf
    go_enter Tryz.func42, Tryz.ntmps42
    go_wp2
    go_ret
    exact ⟨ret_int HC.out.symm, HB.out⟩
  · clear hf
    go_enter Tryz.func42, Tryz.ntmps42
    go_wp2
    go_ret
    exact ⟨ret_int HC.out.symm, HB.out⟩
set_option maxRecDepth 100000 in
set_option maxHeartbeats 3200000 in
theorem rwalk_flag4 (f : Qm.W) (no : Bool) (A : Option Addr) (n c : Nat) (ks : List Nd) (w : World) (bx : Nat) (hf : ¬ (f = [] ∧ no = false)) :
    Calls Tryz.prog 42 #[.agg (ndRow 4 ⟨[], 0, 0, 0, [], false⟩ f no A n c).toArray, .pointer (some ⟨bx, 0, none⟩)] w fun e w' => e = .returned (.int .i64 (ckNd (.mk 4 ⟨[], 0, 0, 0, [], false⟩ f no ks))) ∧ Below w.heap.size w w' := by
  unfold ndRow
  have HC : Hid (ckNd (.mk 4 ⟨[], 0, 0, 0, [], false⟩ f no ks) = 4) := Lib.hid (by
    simp only [ckNd]; rw [if_neg (by omega), if_neg (by simp [leafK]), if_neg (by simp [At.zero]), if_pos ⟨by omega, by cases no <;> simp_all⟩])
  have HB := Lib.hid ((Below.refl _ w).alloc (Nat.le_refl _) (.cells #[.int .i64 4, .string ⟨#[]⟩, .int .i64 0, .int .i64 0, .int .i64 0, .string ⟨#[]⟩, .bool false, .string ⟨f.toArray⟩, .bool no, .slice A n c] 46))
  cases no
  · have hf0 : ¬ f = [] := fun e => hf ⟨e, rfl⟩
    have hf1 : (!List.isEmpty f) = true := by cases f with | nil => exact absurd rfl hf0 | cons => rfl
    clear hf
    go_enter Tryz.func42, Tryz.ntmps42
    go_wp2
    go_ret
    exact ⟨ret_int HC.out.symm, HB.out⟩
  · clear hf
    go_enter Tryz.func42, Tryz.ntmps42
    go_wp2
    go_ret
    exact ⟨ret_int HC.out.symm, HB.out⟩
set_option maxRecDepth 100000 in
set_option maxHeartbeats 3200000 in
theorem rwalk_name (f : Qm.W) (no : Bool) (A : Option Addr) (n c : Nat) (ks : List Nd) (w : World) (bx : Nat) (h3 : f.length ≤ maxLen) (hn : isName f = false) :
    Calls Tryz.prog 42 #[.agg (ndRow 5 ⟨[], 0, 0, 0, [], false⟩ f no A n c).toArray, .pointer (some ⟨bx, 0, none⟩)] w fun e w' => e = .returned (.int .i64 (ckNd (.mk 5 ⟨[], 0, 0, 0, [], false⟩ f no ks))) ∧ Below w.heap.size w w' := by
  unfold ndRow
  have hnm := fun wx => rname_any ⟨f.toArray⟩ wx (by rw [bsz]; exact h3)
  rw [show (⟨f.toArray⟩ : ByteArray).data.toList = f from by simp, hn] at hnm
  have Hnm := Lib.hid hnm; clear hnm
  have HC : Hid (ckNd (.mk 5 ⟨[], 0, 0, 0, [], false⟩ f no ks) = 1) := Lib.hid (by
    simp only [ckNd]; rw [if_neg (by omega), if_neg (by simp [leafK]), if_neg (by simp [At.zero]), if_neg (by simp), if_pos ⟨by trivial, hn⟩])
  have HB := Lib.hid ((Below.refl _ w).alloc (Nat.le_refl _) (.cells #[.int .i64 5, .string ⟨#[]⟩, .int .i64 0, .int .i64 0, .int .i64 0, .string ⟨#[]⟩, .bool false, .string ⟨f.toArray⟩, .bool no, .slice A n c] 46))
  clear h3 hn
  go_enter Tryz.func42, Tryz.ntmps42
  go_wp2_with (first | (go_at_call 18; refine (Hnm.out _).mono ?_; rintro e w1 ⟨rfl, hb1⟩; refine Hid.out ?_))
  refine Lib.hid ?_
  have HB1 := Lib.hid (HB.out.trans (hb1.mono HB.out.size)); clear hb1
  go_wp2
  go_ret
  exact ⟨ret_int HC.out.symm, HB1.out⟩
end Go.Proofs.YtokibfankmjphaaGreatDoor
