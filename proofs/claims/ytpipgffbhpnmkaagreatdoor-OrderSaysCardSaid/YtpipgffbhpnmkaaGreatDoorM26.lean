/- Parts of the proof: walks and plain laws, side by side. -/
import Derived.Test.YtpipgffbhpnmkaaGreatDoorM14
import Derived.Test.YtpipgffbhpnmkaaGreatDoorM22
import Derived.Test.YtpipgffbhpnmkaaGreatDoorM15
import Derived.Laws.EntriesVeiled
import Derived.Test.YtpipgffbhpnmkaaGreatDoorM17
import Derived.Test.YtpipgffbhpnmkaaGreatDoorM18
import Derived.Test.YtpipgffbhpnmkaaGreatDoorM13
set_option linter.unusedVariables false
set_option linter.unusedSimpArgs false
set_option linter.unusedSectionVars false
namespace Go.Proofs.YtpipgffbhpnmkaaGreatDoor
/- quartermasterref.Is, walked. (Printed by wip/bin/mkris.py out of XVW1.) -/
section
open Go.RowKit Qm

theorem ixOf_found {f : Qm.W} : ∀ {l : List Qm.W} {i : Nat}, (∀ x ∈ l.take i, x ≠ f) → l[i]? = some f → ixOf f l = some i
 | [], i, _, h => by simp at h
 | g :: r, 0, _, h => by
  simp only [List.getElem?_cons_zero, Option.some.injEq] at h
  simp [ixOf, h]
 | g :: r, i + 1, h, h2 => by
  rw [List.getElem?_cons_succ] at h2
  have hg : g ≠ f := h g (by simp)
  have := ixOf_found (f := f) (l := r) (i := i) (fun x hx => h x (by simp [hx])) h2
  simp only [ixOf]
  rw [if_neg hg, this]; rfl
theorem ixOf_all {f : Qm.W} {l : List Qm.W} {n : Nat} (hn : l.length ≤ n) (h : ∀ x ∈ l.take n, x ≠ f) : ixOf f l = none := by
 rw [List.take_of_length_le hn] at h
 exact ixOf_none.2 fun hf => h f hf rfl
theorem take_ne {f g : Qm.W} {l : List Qm.W} {i : Nat} (h : ∀ x ∈ l.take i, x ≠ f) (hg : l[i]? = some g) (hne : g ≠ f) : ∀ x ∈ l.take (i + 1), x ≠ f := by
 obtain ⟨hi, rfl⟩ := List.getElem?_eq_some_iff.1 hg
 intro x hx
 rw [List.take_succ_eq_append_getElem hi, List.mem_append, List.mem_singleton] at hx
 rcases hx with hx | rfl
 ·exact h x hx
 ·exact hne
set_option maxRecDepth 100000 in
set_option maxHeartbeats 3200000 in
theorem ris_any (ps : List Pk) (m : Mem) (a : At) (S : Nat → Prop) (A B : Option Addr) (n c k d : Nat) (w : World) (hT : RTree w S A n ps) (hB : RBools w S B k m.on) (hkd : k ≤ d) (hm : MemOk ps m) (hS : ∀ k, S k → k < w.heap.size) (hn8 : n ≤ 8) (hfs : ∀ p ∈ ps, ∀ f ∈ p.fs, f ≠ []) (h1 : a.nm.length ≤ maxLen) (h2 : a.fl.length ≤ maxLen) :
  Calls Tryz.prog 55 #[.agg #[.slice A n c], .agg #[.int .i64 m.pl, .slice B k d], .agg #[.string ⟨a.nm.toArray⟩, .int .i64 a.op, .int .i64 a.ver, .int .i64 a.slot, .string ⟨a.fl.toArray⟩, .bool a.on]] w fun e w' => e = .returned (.bool (isA ps m a)) ∧ Below w.heap.size w w' := by
 obtain ⟨hm0, hm1, hm2⟩ := hm
 have hl := hT.len
 obtain ⟨pl, on⟩ := m
 dsimp only at hm0 hm1 hm2 hB ⊢
 obtain ⟨j, rfl⟩ : ∃ j : Nat, pl = j := ⟨pl.toNat, by omega⟩
 have hjn : j < n := by omega
 obtain ⟨b, o, p, D, q, c', kd, pa, f, no, E, r, d', rfl, hbS, hp, hP, hcell⟩ := hT.at_ hjn
 rw [pkOf_at hp] at hm2
 have HNE := qh (hfs p (List.mem_of_getElem? hp))
 clear hfs
 have HC : Hid (isA ps ⟨(j : Int), on⟩ a = (decide (p.nm = a.nm) && (fitsP a p.ver p.slot && (decide (a.fl = []) || flagIs p ⟨(j : Int), on⟩ a)))) := qh (by unfold isA; rw [pkOf_at hp])
 have HF : Hid (flagIs p ⟨(j : Int), on⟩ a = match ixOf a.fl p.fs with | some i => onOf on i == a.on | none => false) := qh rfl
 generalize isA ps ⟨(j : Int), on⟩ a = R at HC ⊢
 generalize flagIs p ⟨(j : Int), on⟩ a = fl at HC HF
 have g0 := hcell 0 (by omega); have g1 := hcell 1 (by omega); have g2 := hcell 2 (by omega); have g3 := hcell 3 (by omega); have g4 := hcell 4 (by omega); have g5 := hcell 5 (by omega); have g6 := hcell 6 (by omega); have g7 := hcell 7 (by omega); have g8 := hcell 8 (by omega); have g9 := hcell 9 (by omega); have g10 := hcell 10 (by omega); have g11 := hcell 11 (by omega); have g12 := hcell 12 (by omega); have g13 := hcell 13 (by omega)
 unfold pkRow ndRow at g0 g1 g2 g3 g4 g5 g6 g7 g8 g9 g10 g11 g12 g13
 simp only [List.getElem?_cons_zero, List.getElem?_cons_succ, Nat.add_zero] at g0 g1 g2 g3 g4 g5 g6 g7 g8 g9 g10 g11 g12 g13
 clear hcell hp
 have hbl : b < w.heap.size := hS b hbS
 have hbl_1 : b < w.heap.size + 1 := by omega
 have hbl_2 : b < w.heap.size + 1 + 1 := by omega
 have I0 := qh (Ib.new w (some ⟨b, o, none⟩) n c [.int .i64 (j : Int), .slice B k d] [.string ⟨a.nm.toArray⟩, .int .i64 a.op, .int .i64 a.ver, .int .i64 a.slot, .string ⟨a.fl.toArray⟩, .bool a.on])
 have P1 := qh (Whole.new (((w.alloc (.cells #[.slice (some ⟨b, o, none⟩) n c] 24)).alloc (.cells #[.int .i64 (j : Int), .slice B k d] 33)).alloc (.cells #[.string ⟨a.nm.toArray⟩, .int .i64 a.op, .int .i64 a.ver, .int .i64 a.slot, .string ⟨a.fl.toArray⟩, .bool a.on] 37)) (w.heap.size + 1 + 1 + 1) 42 (pkRow p D q c' (ndRow kd pa f no E r d')) (by simp))
 have I1 := qh (I0.out.move ((Below.refl _ (((w.alloc (.cells #[.slice (some ⟨b, o, none⟩) n c] 24)).alloc (.cells #[.int .i64 (j : Int), .slice B k d] 33)).alloc (.cells #[.string ⟨a.nm.toArray⟩, .int .i64 a.op, .int .i64 a.ver, .int .i64 a.slot, .string ⟨a.fl.toArray⟩, .bool a.on] 37))).alloc (qr _) (.cells (pkRow p D q c' (ndRow kd pa f no E r d')).toArray 42)))
 have HFS := qh hP.fs.row
 have HBO := qh hB
 have HPm := qh (Nat.le_trans hP.cap hP.max)
 have HBl := qh hB.len
 have HFl := qh hP.fs.len
 have HS := qh hS
 have hft := fun wx => rfits_any ⟨a.nm.toArray⟩ ⟨a.fl.toArray⟩ a.op a.ver a.slot p.ver p.slot a.on wx
 rw [atOf_mk] at hft
 unfold atv at hft
 have Hft := qh hft
 clear hT hB hP hS hft I0
 obtain ⟨nm, ver, slot, fs, nd⟩ := p
 unfold pkRow ndRow at P1 I1
 dsimp only at g0 g1 g2 g3 g4 g5 g6 g7 g8 g9 g10 g11 g12 g13 P1 I1 HFS Hft HC HF HFl hm2
 generalize fitsP a ver slot = ft at Hft HC
 have hj1 : (j : Int) < n := by omega
 by_cases hn : nm = a.nm
 ·subst hn
  have H1 : Hid (R = (ft && (decide (a.fl = []) || fl))) := qh (by rw [HC.out]; simp)
  clear HC
  cases ft
  ·have HE : Hid (R = false) := qh (by rw [H1.out]; rfl)
   go_enter Tryz.func55, Tryz.ntmps55
   go_wp2_with (first | (go_at_call 83; refine (Hft.out _).mono ?_; rintro e w4 ⟨rfl, hb4⟩; refine Hid.out ?_))
   refine qh ?_
   have P4 := qh (P1.out.below hb4 P1.out.lt)
   have I4 := qh (I1.out.move hb4)
   clear hb4
   go_wp2
   go_ret
   exact ⟨ret_bool HE.out.symm, I4.out.bel⟩
  ·have H2 : Hid (R = (decide (a.fl = []) || fl)) := qh (by rw [H1.out]; rfl)
   clear H1
   have hqm : q ≤ 9223372036854775807 := by have := HPm.out; unfold maxLen at this; omega
   go_enter Tryz.func55, Tryz.ntmps55
   go_wp2_with (first | (go_at_call 83; refine (Hft.out _).mono ?_; rintro e w4 ⟨rfl, hb4⟩; refine Hid.out ?_))
   refine qh ?_
   have P4 := qh (P1.out.below hb4 P1.out.lt)
   have I4 := qh (I1.out.move hb4)
   clear hb4
   have p3 := P4.out.cell 3
   simp only [qgz, qgs] at p3
   have plt := P4.out.lt
   go_wp2
   clear p3 plt
   go_loopg [33] q (fun g iv wr => ∃ i : Nat, Hid (i + g = q) ∧ iv = .int .i64 i ∧ Hid (∀ x ∈ fs.take i, x ≠ a.fl) ∧ Hid (Below w4.heap.size w4 wr))
   case atStart => exact ⟨0, qh (Nat.zero_add _), rfl, qh (fun x hx => by simp at hx), qh (Below.refl _ _)⟩
   case round =>
    obtain ⟨i, Hi, rfl, Hne, HB⟩ := hrel
    have IR := qh (I4.out.move HB.out)
    by_cases hi : i < q
    ·obtain ⟨b3, o3, rfl, hb3, hc3⟩ := (HFS.out.below (w' := wr) IR.out.bel HS.out).at_ hi
     have hlb3 : b3 < wr.heap.size := ql (HS.out _ hb3) IR.out.bel.size
     have hgi : fs[i]? = some (fs[i]'(by rw [HFl.out]; exact hi)) := List.getElem?_eq_getElem _
     generalize fs[i]'(by rw [HFl.out]; exact hi) = g at hgi
     rw [strs, List.getElem?_map, hgi] at hc3
     dsimp only [Option.map_some] at hc3
     have HG := qh hgi
     clear hgi
     have a4 := IR.out.a.cell 4
     have a5 := IR.out.a.cell 5
     have m1 := IR.out.m.cell 1
     simp only [qgz, qgs] at a4 a5 m1
     have alt := IR.out.a.lt
     by_cases hg : g = a.fl
     ·subst hg
      have hix := ixOf_found Hne.out HG.out
      have hne := HNE.out _ (List.mem_of_getElem? HG.out)
      obtain ⟨b2, o2, rfl, hb2, hbc⟩ := HBO.out.at_ (k := i) (by rw [← HBl.out, hm2, HFl.out]; exact hi)
      have hik : (i : Int) < k := by have := HBl.out; have := HFl.out; omega
      have hbl2 := HS.out b2 hb2
      have HE : Hid (R = (on.getD i false == a.on)) := qh (by rw [H2.out, HF.out, hix, decide_eq_false hne]; rfl)
      generalize on.getD i false = ob at hbc HE
      have ob4 := (IR.out.bel.cell (p := ⟨b2, o2 + i, none⟩) hbl2).trans hbc
      have hgg : (a.fl == a.fl) = true := by simp
      have hi0 : (0 : Int) ≤ (i : Int) := by omega
      clear hix hne hbc hm2
      go_wp2
      go_quiet (fail)
      go_wp2
      go_ret
      exact ⟨ret_bool HE.out.symm, below_drewN IR.out.bel _⟩
     ·have hgg : (g == a.fl) = false := by simpa using hg
      have HN := qh (take_ne Hne.out HG.out hg)
      clear hg
      go_wp2
      go_roundg (gk - 1)
      case measure => have := Hi.out; omega
      case rel => exact ⟨i + 1, qh (by have := Hi.out; omega), by go_num, HN, HB⟩
    ·obtain rfl : q = i := by have := Hi.out; omega
     have hix := ixOf_all (f := a.fl) (l := fs) (Nat.le_of_eq HFl.out) Hne.out
     have HE0 : Hid (R = decide (a.fl = [])) := qh (by rw [H2.out, HF.out, hix]; simp)
     have a4 := IR.out.a.cell 4
     simp only [qgz, qgs] at a4
     have alt := IR.out.a.lt
     clear hix
     by_cases hfl : a.fl = []
     ·have HE : Hid (R = true) := qh (by rw [HE0.out, decide_eq_true hfl])
      have Hfl := qh hfl; clear hfl
      rw [Hfl.out] at a4
      go_wp2
      go_ret
      exact ⟨ret_bool HE.out.symm, IR.out.bel⟩
     ·have HE : Hid (R = false) := qh (by rw [HE0.out, decide_eq_false hfl])
      have hf1 : (a.fl == []) = false := by simpa using hfl
      have hf2 : a.fl.isEmpty = false := by simpa using hfl
      clear hfl
      go_wp2
      go_ret
      exact ⟨ret_bool HE.out.symm, IR.out.bel⟩
 ·have hn' : (a.nm == nm) = false := by rw [beq_eq_false_iff_ne]; exact fun e => hn e.symm
  have HE : Hid (R = false) := qh (by rw [HC.out, decide_eq_false hn]; rfl)
  go_enter Tryz.func55, Tryz.ntmps55
  go_wp2
  go_ret
  exact ⟨ret_bool HE.out.symm, I1.out.bel⟩
end
/- The document's own LeansOn: its closure 'asks', walked. -/
section
open Go.RowKit Qm

structure Lb (tb ob mb pb fb : Nat) (A : Option Addr) (n c : Nat) (ov mv pv : List Value) (wx : World) : Prop where
 t : Whole wx tb 24 [.slice A n c]
 o : Whole wx ob 33 ov
 m : Whole wx mb 33 mv
 p : Whole wx pb 42 pv
 f : Whole wx fb 67 [.func (.func 54) #[] #[.pointer (some ⟨tb, 0, none⟩), .pointer (some ⟨ob, 0, none⟩), .pointer (some ⟨mb, 0, none⟩), .pointer (some ⟨pb, 0, none⟩), .pointer (some ⟨fb, 0, none⟩)]]
theorem Lb.move {tb ob mb pb fb : Nat} {A : Option Addr} {n c : Nat} {ov mv pv : List Value} {wx wy : World} (h : Lb tb ob mb pb fb A n c ov mv pv wx) (hb : Below wx.heap.size wx wy) : Lb tb ob mb pb fb A n c ov mv pv wy :=
 ⟨h.t.below hb h.t.lt, h.o.below hb h.o.lt, h.m.below hb h.m.lt, h.p.below hb h.p.lt, h.f.below hb h.f.lt⟩
set_option maxRecDepth 100000 in
set_option maxHeartbeats 6400000 in
theorem rasks_any (ps : List Pk) (me ot : Mem) (p : Pk) (hpm : pkOf ps me.pl = p) (S : Nat → Prop) (A O E F : Option Addr) (n c ok od u v fn fc : Nat) (tb ob mb pb fb : Nat) (pv : List Value) (hpv : pv[3]? = some (.slice F fn fc)) (w0 : World) (hS : ∀ k, S k → k < w0.heap.size)
  (hT : RTree w0 S A n ps) (hO : RBools w0 S O ok ot.on) (hood : ok ≤ od) (hE : RBools w0 S E u me.on) (hF : Row w0 S F fn (strs p.fs)) (hfn : fn ≤ maxLen) (hot : MemOk ps ot) (hlen : me.on.length = p.fs.length) (hn8 : n ≤ 8) (hfs : ∀ p ∈ ps, ∀ f ∈ p.fs, f ≠ [])
  (hB : Lb tb ob mb pb fb A n c [.int .i64 ot.pl, .slice O ok od] [.int .i64 me.pl, .slice E u v] pv w0) :
  ∀ (y : Nd) (cx : List Value) (W : World), Below w0.heap.size w0 W → RNd w0 S cx y → (∀ f ∈ flagsN y, f ∈ p.fs) →
  Calls Tryz.prog 54 #[.agg cx.toArray, .pointer (some ⟨tb, 0, none⟩), .pointer (some ⟨ob, 0, none⟩), .pointer (some ⟨mb, 0, none⟩), .pointer (some ⟨pb, 0, none⟩), .pointer (some ⟨fb, 0, none⟩)] W fun e w' => e = .returned (.bool ((asksN ps me y).any fun a => isA ps ot a)) ∧ Below W.heap.size W w' := by
 refine Nd.ind fun kd a f no ks ih => ?_
 intro cx W hbw hx hfl
 obtain ⟨D, r, e, rfl, hre, he, h1, h2, h3, hK⟩ := hx.open_
 have HC : Hid (asksN ps me (.mk kd a f no ks) = if kd = 1 then [a] else if kd = 5 ∧ ifOff ps me f no = true then [] else asksL ps me ks) := qh rfl
 obtain ⟨R, hR0⟩ : ∃ R, (asksN ps me (.mk kd a f no ks)).any (fun a => isA ps ot a) = R := ⟨_, rfl⟩
 rw [hR0]
 have HR0 := qh hR0
 have HKD := qh hK; have HS := qh hS
 have HFLA := qh hfl
 have Heach := qh (fun x (hx : x ∈ ks) cx' W' hb' (hr' : RNd w0 S cx' x) => ih x hx cx' W' hb' hr' fun g hg => hfl g (by unfold flagsN; exact List.mem_append_right _ (flagsN_in hx g hg)))
 have hal : Below W.heap.size W (W.alloc (.cells (ndRow kd a f no D r e).toArray 40)) := (Below.refl _ W).alloc (qr _) _
 have NB := qh (Whole.new W W.heap.size 40 (ndRow kd a f no D r e) rfl)
 have HBL := qh hal
 have HBW := qh (hbw.trans (hal.mono hbw.size))
 have LB := qh (hB.move HBW.out)
 have HT := qh hT; have HO := qh hO; have HE := qh hE; have HF := qh hF; have HFS := qh hfs; have HPM := qh hpm; have HOT := qh hot
 have HPV := qh hpv
 clear hR0 hx hfl ih hK hS hT hO hE hF hfs hB hbw hal hpm hot hpv
 unfold maxLen at he
 unfold ndRow at NB HBL HBW LB ⊢
 have n0 := NB.out.cell 0
 simp only [List.getElem?_cons_zero] at n0
 have henter : ∀ (args : Array Value) (W : World), (callFunc 54 args).run Tryz.prog W = .ok (.enter 54 args) W := fun args W => by kernel_rfl
 by_cases k1 : kd = 1
 ·subst k1
  have HR : Hid (R = isA ps ot a) := qh (by rw [← HR0.out, HC.out, if_pos rfl]; simp)
  have n1 := NB.out.cell 1; have n2 := NB.out.cell 2; have n3 := NB.out.cell 3; have n4 := NB.out.cell 4; have n5 := NB.out.cell 5; have n6 := NB.out.cell 6
  have t0 := LB.out.t.cell 0; have o0 := LB.out.o.cell 0; have o1 := LB.out.o.cell 1
  simp only [qgz, qgs] at n1 n2 n3 n4 n5 n6 t0 o0 o1
  have tlt := LB.out.t.lt; have olt := LB.out.o.lt; have nlt := NB.out.lt
  have his := ris_any ps ot a S A O n c ok od _ (HT.out.under HBW.out HS.out) (Row.below HO.out HBW.out HS.out) hood HOT.out (fun i hi => ql (HS.out i hi) HBW.out.size) hn8 HFS.out h1 h2
  have HIS := qh his
  clear his Heach HC
  go_enter Tryz.func54, Tryz.ntmps54
  go_wp2_with (first | (go_at_call 55; refine HIS.out.mono ?_; rintro en w7 ⟨rfl, hb7⟩; refine Hid.out ?_))
  refine qh ?_
  have HB7 := qh (HBL.out.trans (hb7.mono HBL.out.size))
  clear hb7
  go_wp2
  go_ret
  exact ⟨ret_bool HR.out.symm, HB7.out⟩
 have k1' : (kd == 1) = false := by simpa using k1
 have hnlt := NB.out.lt
 have hplt := LB.out.p.lt
 have hmlt := LB.out.m.lt
 by_cases k5 : kd = 5
 ·subst k5
  have hff := HFLA.out f (by unfold flagsN; rw [if_pos rfl]; simp)
  obtain ⟨fi, hfi⟩ : ∃ fi, ixOf f p.fs = some fi := by
   cases h : ixOf f p.fs with
   | none => exact absurd hff (ixOf_none.1 h)
   | some i => exact ⟨i, rfl⟩
  have hlt := ixOf_lt hfi
  obtain ⟨b3, o3, rfl, hbS3, hbc⟩ := RBools.at_ (xs := me.on) (k := fi) HE.out (by have := RBools.len HE.out; omega)
  have hfu : (fi : Int) < u := by have := RBools.len HE.out; omega
  have hfu0 : (0 : Int) ≤ (fi : Int) := by omega
  have HIO : Hid (ifOff ps me f no = (me.on.getD fi false == no)) := qh (by unfold ifOff; rw [HPM.out, hfi]; rfl)
  generalize me.on.getD fi false = ov at hbc HIO
  generalize ifOff ps me f no = io at HIO HC
  have hix := fun wx (hb : Below w0.heap.size w0 wx) => indexS_any F fn fc p.fs f wx S (HF.out.below (w' := wx) hb HS.out) hfn
  rw [hfi] at hix
  unfold ixI at hix
  have Hix := qh hix
  have qb := (HBW.out.cell (p := ⟨b3, o3 + fi, none⟩) (HS.out _ hbS3)).trans hbc
  have n2 := NB.out.cell 7; have n3 := NB.out.cell 8; have m1 := LB.out.m.cell 1; have p3 := LB.out.p.cell 3
  rw [HPV.out] at p3
  simp only [qgz, qgs] at n2 n3 m1
  clear hix hfi hlt hff hbc
  by_cases hov : ov = no
  ·have hov1 : (ov == no) = true := by subst hov; cases ov <;> rfl
   have HR : Hid (R = false) := qh (by rw [← HR0.out, HC.out, if_neg k1, if_pos ⟨rfl, by rw [HIO.out]; exact hov1⟩]; rfl)
   clear hov HC k1 Heach
   go_enter Tryz.func54, Tryz.ntmps54
   go_wp2
   generalize W.alloc (.cells _ _) = W1 at NB HBL HBW LB n0 n2 n3 m1 p3 hnlt hplt hmlt qb ⊢
   go_quiet ((go_at_call 56; first | exact Calls.quiet_of_same (Hix.out _ HBW.out) | exact Calls.quiet_of_same (Hix.out _ (below_drewN HBW.out _))))
   rename_i nq
   have HB7 := qh (below_drewN HBL.out nq)
   go_wp2
   go_ret
   exact ⟨ret_bool HR.out.symm, HB7.out⟩
  ·have hov1 : (ov == no) = false := by cases ov <;> cases no <;> simp_all
   have HR : Hid (R = (asksL ps me ks).any fun a => isA ps ot a) := qh (by rw [← HR0.out, HC.out, if_neg k1, if_neg (fun h => by rw [HIO.out, hov1] at h; cases h.2)])
   clear hov HC k1
   go_enter Tryz.func54, Tryz.ntmps54
   go_wp2
   generalize W.alloc (.cells _ _) = W1 at NB HBL HBW LB n0 n2 n3 m1 p3 hnlt hplt hmlt qb ⊢
   go_quiet ((go_at_call 56; first | exact Calls.quiet_of_same (Hix.out _ HBW.out) | exact Calls.quiet_of_same (Hix.out _ (below_drewN HBW.out _))))
   rename_i nq
   have NB2 := qh (NB.out.drewN nq); have HBL2 := qh (below_drewN HBL.out nq); have HBW2 := qh (below_drewN HBW.out nq); have LB2 := qh (LB.out.move (below_drewN (Below.refl _ _) nq))
   clear NB HBL HBW LB n0 n2 n3 m1 p3 hnlt hplt hmlt qb
   have NB := NB2; have HBL := HBL2; have HBW := HBW2; have LB := LB2
   clear NB2 HBL2 HBW2 LB2
   have n9 := NB.out.cell 9
   simp only [qgz, qgs] at n9
   have f0 := LB.out.f.cell 0
   have flt := LB.out.f.lt
   have nlt := NB.out.lt
   simp only [List.getElem?_cons_zero] at f0
   have hcf := containsF_N (RNd w0 S) (fun x => (asksN ps me x).any fun a => isA ps ot a) D r e ks 54 #[.pointer (some ⟨tb, 0, none⟩), .pointer (some ⟨ob, 0, none⟩), .pointer (some ⟨mb, 0, none⟩), .pointer (some ⟨pb, 0, none⟩), .pointer (some ⟨fb, 0, none⟩)] _ S
    (RSeq.keep (kids_seq HKD.out) (fun p hp => HBW.out.cell (HS.out _ hp)) fun _ _ h => h) (fun i hi => ql (HS.out i hi) HBW.out.size) (Nat.le_trans hre he)
    ⟨fun args W => by kernel_rfl, fun x hx cx' W' hb' hr' => Heach.out x hx cx' W' (HBW.out.trans (hb'.mono HBW.out.size)) hr'⟩ (fun x y h => shape_nd h)
   rw [← asksL_any, ← HR.out] at hcf
   have HCF := qh hcf
   clear hcf
   go_wp2_with (first | (go_at_call 19; refine HCF.out.mono ?_; rintro en w7 ⟨rfl, hb7⟩; refine Hid.out ?_))
   refine qh ?_
   have HB7 := qh (HBL.out.trans (hb7.mono HBL.out.size))
   clear hb7
   go_wp2
   go_ret
   exact ⟨rfl, HB7.out⟩
 ·have k5' : (kd == 5) = false := by simpa using k5
  have HR : Hid (R = (asksL ps me ks).any fun a => isA ps ot a) := qh (by rw [← HR0.out, HC.out, if_neg k1, if_neg (fun h => k5 h.1)])
  clear k1 k5 HC
  go_enter Tryz.func54, Tryz.ntmps54
  go_wp2
  generalize W.alloc (.cells _ _) = W1 at NB HBL HBW LB n0 hnlt hplt hmlt ⊢
  go_quiet (fail)
  rename_i nq
  have NB2 := qh (NB.out.drewN nq); have HBL2 := qh (below_drewN HBL.out nq); have HBW2 := qh (below_drewN HBW.out nq); have LB2 := qh (LB.out.move (below_drewN (Below.refl _ _) nq))
  clear NB HBL HBW LB n0 hnlt hplt hmlt
  have NB := NB2; have HBL := HBL2; have HBW := HBW2; have LB := LB2
  clear NB2 HBL2 HBW2 LB2
  have n9 := NB.out.cell 9
  simp only [qgz, qgs] at n9
  have f0 := LB.out.f.cell 0
  have flt := LB.out.f.lt
  have nlt := NB.out.lt
  simp only [List.getElem?_cons_zero] at f0
  have hcf := containsF_N (RNd w0 S) (fun x => (asksN ps me x).any fun a => isA ps ot a) D r e ks 54 #[.pointer (some ⟨tb, 0, none⟩), .pointer (some ⟨ob, 0, none⟩), .pointer (some ⟨mb, 0, none⟩), .pointer (some ⟨pb, 0, none⟩), .pointer (some ⟨fb, 0, none⟩)] _ S
   (RSeq.keep (kids_seq HKD.out) (fun p hp => HBW.out.cell (HS.out _ hp)) fun _ _ h => h) (fun i hi => ql (HS.out i hi) HBW.out.size) (Nat.le_trans hre he)
   ⟨fun args W => by kernel_rfl, fun x hx cx' W' hb' hr' => Heach.out x hx cx' W' (HBW.out.trans (hb'.mono HBW.out.size)) hr'⟩ (fun x y h => shape_nd h)
  rw [← asksL_any, ← HR.out] at hcf
  have HCF := qh hcf
  clear hcf
  go_wp2_with (first | (go_at_call 19; refine HCF.out.mono ?_; rintro en w7 ⟨rfl, hb7⟩; refine Hid.out ?_))
  refine qh ?_
  have HB7 := qh (HBL.out.trans (hb7.mono HBL.out.size))
  clear hb7
  go_wp2
  go_ret
  exact ⟨rfl, HB7.out⟩
end
/- The document's own LeansOn, walked. -/
section
open Go.RowKit Qm

theorem tree_fs {ps : List Pk} (h : ckTree ps = 0) : ∀ p ∈ ps, ∀ f ∈ p.fs, f ≠ [] := fun p hp f hf e => by
 have := (isName_len (ckFlags_names (pkOk (ckTree_mem h p hp)).fs f hf)).1
 rw [e] at this; simp at this
def leansTo (ps : List Pk) (l : List Mem) (i k : Nat) : List Nat := (List.range k).filter (leanB ps l i)
theorem leansTo_yes {ps : List Pk} {l : List Mem} {i k : Nat} (h : leanB ps l i k = true) : leansTo ps l i (k + 1) = leansTo ps l i k ++ [k] := by
 unfold leansTo; rw [List.range_succ, List.filter_append]; simp [h]
theorem leansTo_no {ps : List Pk} {l : List Mem} {i k : Nat} (h : leanB ps l i k = false) : leansTo ps l i (k + 1) = leansTo ps l i k := by
 unfold leansTo; rw [List.range_succ, List.filter_append]; simp [h]
theorem leansTo_len {ps : List Pk} {l : List Mem} {i k : Nat} : (leansTo ps l i k).length ≤ k := by
 unfold leansTo; exact Nat.le_trans (List.length_filter_le _ _) (by simp)
def LeansOnP (w : World) (ps : List Pk) (l : List Mem) (q : Nat) (e : Ending) (w' : World) : Prop :=
 ∃ A c, e = .returned (.slice A q c) ∧ RClauses w' (fun i => w.heap.size ≤ i ∧ i < w'.heap.size) A q (leansL ps l) ∧ q ≤ c ∧ c ≤ maxLen ∧ Below w.heap.size w w'
set_option maxRecDepth 100000 in
set_option maxHeartbeats 12800000 in
theorem rleanson_any (ps : List Pk) (l : List Mem) (S : Nat → Prop) (A B : Option Addr) (n c q d : Nat) (w : World) (hT : RTree w S A n ps) (hnc : n ≤ c) (hc : c ≤ maxLen) (hL : RSet w S B q l) (hqd : q ≤ d) (hd : d ≤ maxLen) (hS : ∀ k, S k → k < w.heap.size) (hok : ckSet ps l = 0) :
  Calls Tryz.prog 24 #[.agg #[.slice A n c], .slice B q d] w (LeansOnP w ps l q) := by
 have X0 := qh (Tx.new w A n c)
 have HC := qh (Cx.of hok hT hnc hc hL hqd hd hS)
 have HFS := qh (tree_fs (ckSet_zero hok).1)
 have hn8 := HC.out.n8
 have Hll := qh hL.len
 have hq8 : q ≤ 100000 := by rw [← Hll.out]; exact oset_len hok hn8 hT.len
 have HCK := qh hok
 have Hpl := qh hT.len
 have HS := qh hS
 unfold maxLen at hc hd
 obtain ⟨i0, hi, hz0, hz1, hz2⟩ := info_partsC ints_infoO
 have Hi := qh hi; have Hz0 := qh hz0; have Hz1 := qh hz1; have Hz2 := qh hz2
 obtain ⟨j0, hj, hy0, hy1, hy2⟩ := info_partsC int_infoO
 have Hj0 := qh hj; have Hy0 := qh hy0; have Hy1 := qh hy1; have Hy2 := qh hy2
 have henter : ∀ (args : Array Value) (W : World), (callFunc 54 args).run Tryz.prog W = .ok (.enter 54 args) W := fun args W => by kernel_rfl
 clear hi hz0 hz1 hz2 hj hy0 hy1 hy2 hok hT hL hS
 go_enter Tryz.func24, Tryz.ntmps24
 go_wp2
 have X1s := qh X0.out.whole.lt
 generalize w.alloc (.cells _ _) = w2 at X0 X1s ⊢
 have HL2 : Hid (Ls w w2 A n c (.slice none 0 0) 0 [] ((leansL ps l).take 0) w2) := qh ⟨World.ownsRow_nil _ _ _ _, Heads.nil_, X0.out, qr _⟩
 go_loopg [5, 15] q (fun g ov iv wr => ∃ (i : Nat) (A1 : Option Addr) (c1 : Nat) (hs : List (Option Addr × Nat × Nat)), Hid (i + g = q) ∧ iv = .int .i64 i ∧ ov = .slice A1 i c1 ∧ Hid (Ls w w2 A n c (.slice A1 i c1) i hs ((leansL ps l).take i) wr))
 case atStart => exact ⟨0, none, 0, [], qh (Nat.zero_add _), rfl, rfl, HL2⟩
 case round =>
  obtain ⟨g9, rfl⟩ : ∃ x : Nat, x = gk := ⟨_, rfl⟩
  obtain ⟨wo, rfl⟩ : ∃ x : World, x = wr := ⟨_, rfl⟩
  obtain ⟨i, A1, c1, hs, Hi1, rfl, rfl, HLs⟩ := hrel
  clear HL2 X0
  by_cases hi : i < q
  ·obtain ⟨b, o, m, E, u, v, rfl, hbS, hm, huv, hv, hon, g0, g1⟩ := (HC.out.s.under HLs.out.tx.below HS.out).at_ hi
   have hmem := List.mem_of_getElem? hm
   obtain ⟨hp0, hp1, hp2⟩ := HC.out.ok m hmem
   have Hown := qh (own_flags HCK.out (k := i) (by have := Hll.out; omega))
   have hleq : ∀ k, leanB ps l i k = ((asksN ps m (pkOf ps m.pl).nd).any fun a => isA ps (memAt l k) a) := fun k => by unfold leanB; rw [memAt_at hm]
   have HLB := qh hleq
   rw [memAt_at hm] at Hown
   have hpl := Hpl.out
   obtain ⟨pl, on⟩ := m
   dsimp only at g0 g1 hp0 hp1 hp2 Hown hon HLB
   obtain ⟨j, rfl⟩ : ∃ j : Nat, pl = j := ⟨pl.toNat, by omega⟩
   have hjn : j < n := by omega
   obtain ⟨b2, o2, p, F, fn, fc, kd, pa, f, no, E2, r2, d2, rfl, hbS2, hp, hP, hcell⟩ := (HC.out.t.under HLs.out.tx.below HS.out).at_ hjn
   have hpk : pkOf ps ((j : Nat) : Int) = p := pkOf_at hp
   rw [hpk] at hp2 Hown HLB
   have h0 := hcell 0 (by omega); have h1 := hcell 1 (by omega); have h2 := hcell 2 (by omega); have h3 := hcell 3 (by omega); have h4 := hcell 4 (by omega); have h5 := hcell 5 (by omega); have h6 := hcell 6 (by omega); have h7 := hcell 7 (by omega); have h8 := hcell 8 (by omega); have h9 := hcell 9 (by omega); have h10 := hcell 10 (by omega); have h11 := hcell 11 (by omega); have h12 := hcell 12 (by omega); have h13 := hcell 13 (by omega)
   unfold pkRow ndRow at h0 h1 h2 h3 h4 h5 h6 h7 h8 h9 h10 h11 h12 h13
   simp only [List.getElem?_cons_zero, List.getElem?_cons_succ, Nat.add_zero] at h0 h1 h2 h3 h4 h5 h6 h7 h8 h9 h10 h11 h12 h13
   have hbl : b < wo.heap.size := ql (HS.out _ hbS) HLs.out.tx.below.size
   have hbl2 : b2 < wo.heap.size := ql (HS.out _ hbS2) HLs.out.tx.below.size
   have hbl3 : b2 < wo.heap.size + 1 := by omega
   have hbx : Below wo.heap.size wo ((wo.alloc (.cells #[.int .i64 (j : Int), .slice E u v] 33)).alloc (.cells (pkRow p F fn fc (ndRow kd pa f no E2 r2 d2)).toArray 42)) := ((Below.refl _ wo).alloc (qr _) _).alloc (by simp) _
   have Z4 := qh (HLs.out.move hbx)
   have M4 := qh ((Whole.new wo wo.heap.size 33 [.int .i64 (j : Int), .slice E u v] rfl).alloc (.cells (pkRow p F fn fc (ndRow kd pa f no E2 r2 d2)).toArray 42))
   have P4 := qh (Whole.new (wo.alloc (.cells #[.int .i64 (j : Int), .slice E u v] 33)) (wo.heap.size + 1) 42 (pkRow p F fn fc (ndRow kd pa f no E2 r2 d2)) (by simp))
   have HBX := qh hbx
   have HP := qh hP; have HON := qh hon
   have HTL := qh HLs.out.tx.whole.lt
   have t0 := HLs.out.tx.whole.cell 0
   simp only [List.getElem?_cons_zero] at t0
   have tlt := HLs.out.tx.whole.lt
   have tlt1 : w.heap.size < wo.heap.size + 1 := by omega
   have hi1 : (i : Int) < q := by omega
   have hi0 : (0 : Int) ≤ (i : Int) := by omega
   have hjn1 : (j : Int) < n := by omega
   have hjn0 : (0 : Int) ≤ (j : Int) := by omega
   have HPK := qh hpk
   clear hcell hP hp hon hm hmem hbx hpk hleq
   unfold pkRow ndRow at Z4 M4 P4 HBX
   go_upto_region 8 with fail
   generalize hw5 : World.alloc (World.alloc wo _) _ = w5 at Z4 M4 P4 HBX ⊢
   have HW5 : Hid (w5.heap.size = wo.heap.size + 1 + 1) := qh (by rw [← hw5]; simp)
   clear hw5 g0 g1 h0 h1 h2 h3 h4 h5 h6 h7 h8 h9 h10 h11 h12 h13 t0 tlt tlt1
   go_loopg [9, 27] q (fun g ov iv wr => ∃ (k : Nat) (Ao : Option Addr) (co : Nat), Hid (k + g = q) ∧ iv = .int .i64 k ∧ ov = .slice Ao (leansTo ps l i k).length co ∧ Hid (wr.ownsRow w5.heap.size 3 1 (.slice Ao (leansTo ps l i k).length co) (leansTo ps l i k).length ((leansTo ps l i k).map fun (k : Nat) => Value.int .i64 (k : Int))) ∧ Hid (Below w5.heap.size w5 wr))
   case atStart => exact ⟨0, none, 0, qh (Nat.zero_add _), rfl, rfl, qh (World.ownsRow_nil _ _ _ _), qh (Below.refl _ _)⟩
   case round =>
    obtain ⟨g8, rfl⟩ : ∃ x : Nat, x = gk := ⟨_, rfl⟩
    obtain ⟨wi, rfl⟩ : ∃ x : World, x = wr := ⟨_, rfl⟩
    obtain ⟨k, Ao, co, Hk, rfl, rfl, HON2, HBi⟩ := hrel
    have Zi := qh (Z4.out.move HBi.out)
    have hleL := leansTo_len (ps := ps) (l := l) (i := i) (k := k)
    obtain ⟨LN, hLN⟩ : ∃ x, (leansTo ps l i k).length = x := ⟨_, rfl⟩
    have HLN := qh hLN
    rw [hLN] at HON2 hleL ⊢
    clear hLN
    by_cases hk : k < q
    ·obtain ⟨b3, o3, mo, E3, u3, v3, hb3e, hbS3, hm3, huv3, hv3, hon3, k0, k1⟩ := (HC.out.s.under Zi.out.tx.below HS.out).at_ hk
     injection hb3e with hb3e
     injection hb3e with hb3a hb3b
     subst hb3a hb3b
     have hmo := HC.out.ok mo (List.mem_of_getElem? hm3)
     have hyn := HLB.out k
     rw [memAt_at hm3] at hyn
     have hblk : b < wi.heap.size := ql hbl (Nat.le_trans HBX.out.size HBi.out.size)
     have hal1 : Below wi.heap.size wi (wi.alloc (.cells #[.int .i64 mo.pl, .slice E3 u3 v3] 33)) := (Below.refl _ wi).alloc (qr _) _
     obtain ⟨fv, hfv⟩ : ∃ x : Value, x = .func (.func 54) #[] #[.pointer (some ⟨w.heap.size, 0, none⟩), .pointer (some ⟨wi.heap.size, 0, none⟩), .pointer (some ⟨wo.heap.size, 0, none⟩), .pointer (some ⟨wo.heap.size + 1, 0, none⟩), .pointer (some ⟨wi.heap.size + 1, 0, none⟩)] := ⟨_, rfl⟩
     have hal : Below wi.heap.size wi ((wi.alloc (.cells #[.int .i64 mo.pl, .slice E3 u3 v3] 33)).alloc (.cells #[fv] 67)) := hal1.alloc (by simp) _
     have hO6 := (Whole.new wi wi.heap.size 33 [.int .i64 mo.pl, .slice E3 u3 v3] rfl).alloc (.cells #[fv] 67)
     have hF6 := Whole.new (wi.alloc (.cells #[.int .i64 mo.pl, .slice E3 u3 v3] 33)) (wi.heap.size + 1) 67 [fv] (by simp)
     have Z6 := qh (Zi.out.move hal)
     have HB6 := qh (HBi.out.trans (hal.mono HBi.out.size))
     have M6 := M4.out.below HB6.out M4.out.lt
     have P6 := P4.out.below HB6.out P4.out.lt
     have HW6 := Z6.out.tx.below
     have HLq := hF6
     rw [hfv] at HLq
     have hlb : Lb w.heap.size wi.heap.size wo.heap.size (wo.heap.size + 1) (wi.heap.size + 1) (some ⟨b2, o2, none⟩) n c [.int .i64 mo.pl, .slice E3 u3 v3] [.int .i64 (j : Int), .slice E u v] _ _ := ⟨Z6.out.tx.whole, hO6, M6, P6, by rw [hfv]; rw [hfv] at hF6; exact hF6⟩
     have hSl := fun x hx => ql (HS.out x hx) HW6.size
     have hask := rasks_any ps ⟨(j : Int), on⟩ mo p HPK.out S (some ⟨b2, o2, none⟩) E3 E F n c u3 v3 u v fn fc w.heap.size wi.heap.size wo.heap.size (wo.heap.size + 1) (wi.heap.size + 1) _ rfl _ hSl (HC.out.t.under HW6 HS.out) (RBools.below hon3 (hal.mono (qr _)) (fun x hx => ql (HS.out x hx) Zi.out.tx.below.size)) huv3
      (Row.below HON.out ((HBX.out.trans (HB6.out.mono HBX.out.size)).mono (qr _)) (fun x hx => ql (HS.out x hx) HLs.out.tx.below.size)) (Row.below HP.out.fs.row ((HBX.out.trans (HB6.out.mono HBX.out.size)).mono (qr _)) (fun x hx => ql (HS.out x hx) HLs.out.tx.below.size)) (Nat.le_trans HP.out.cap HP.out.max) hmo hp2 hn8 HFS.out hlb p.nd _ _ (Below.refl _ _)
      ((HP.out.nd.under ((HBX.out.trans (HB6.out.mono HBX.out.size)).mono (qr _)) (fun x hx => ql (HS.out x hx) HLs.out.tx.below.size))) Hown.out
     rw [← hyn] at hask
     unfold ndRow at hask
     have HASK := qh hask
     have HO6 := qh ((Far.of_below (fun _ => False) hal).own HON2.out fun _ _ h => h)
     have p4 := P6.cell 4; have p5 := P6.cell 5; have p6 := P6.cell 6; have p7 := P6.cell 7; have p8 := P6.cell 8; have p9 := P6.cell 9; have p10 := P6.cell 10; have p11 := P6.cell 11; have p12 := P6.cell 12; have p13 := P6.cell 13
     have f0 := hF6.cell 0
     have plt := P6.lt
     have flt := hF6.lt
     simp only [qgz, qgs] at p4 p5 p6 p7 p8 p9 p10 p11 p12 p13 f0
     obtain ⟨y, hy⟩ : ∃ x, leanB ps l i k = x := ⟨_, rfl⟩
     rw [hy] at HASK
     have HY := qh hy
     have hk1 : (k : Int) < q := by omega
     have hk0 : (0 : Int) ≤ (k : Int) := by omega
     clear hask hyn hlb HLq hO6 hF6 M6 P6 HW6 hal hal1 hm3 hon3 hmo hSl hy
     subst hfv
     cases y
     ·have HN : Hid (leansTo ps l i (k + 1) = leansTo ps l i k) := qh (leansTo_no HY.out)
      go_wp2_with (first | (go_at_call 54; refine HASK.out.mono ?_; rintro en w7 ⟨rfl, hb7⟩; refine Hid.out ?_))
      refine qh ?_
      have HO7 := qh ((Far.of_below (fun _ => False) hb7).own HO6.out fun _ _ h => h)
      have HB7 := qh (HB6.out.trans (hb7.mono HB6.out.size))
      clear hb7
      go_wp2
      go_roundg (g8 - 1)
      case measure => have := Hk.out; omega
      case rel => exact ⟨k + 1, Ao, co, qh (by have := Hk.out; omega), by go_num, by rw [HN.out, HLN.out], qh (by rw [HN.out, HLN.out]; exact HO7.out), HB7⟩
     ·have HN : Hid (leansTo ps l i (k + 1) = leansTo ps l i k ++ [k]) := qh (leansTo_yes HY.out)
      go_wp2_with (first | (go_at_call 54; refine HASK.out.mono ?_; rintro en w7 ⟨rfl, hb7⟩; refine Hid.out ?_))
      refine qh ?_
      have HO7 := qh ((Far.of_below (fun _ => False) hb7).own HO6.out fun _ _ h => h)
      have HB7 := qh (HB6.out.trans (hb7.mono HB6.out.size))
      clear hb7
      go_wp2_with (at_builtin; refine wpList_append_own_at _ rfl _ _ 60 rfl w5.heap.size 3 j0 (.int .i64 0) 1 8 Tryz.underlying60 Hj0.out Hy0.out Hy1.out Hy2.out rfl (by decide) _ _ _ rfl (HO7.out.alloc _) ⟨w7.heap.size, 0, none⟩ 1 1 [.int .i64 (k : Int)] rfl rfl ?d1 ?d2 ?d3 ?d4 ?d5 ?_)
      try (case d1 => exact cell_one_new _ _ _)
      try (case d2 => simp [Value.oneCell'])
      try (case d3 => unfold maxLen; omega)
      try (case d4 => omega)
      try (case d5 => (try simp); have := HB7.out.size; omega)
      intro v' w8 hown8 hg8 _ hv8
      have HB8 := qh ((HB7.out.trans (((Below.refl _ w7).alloc (qr _) (.cells #[.int .i64 (k : Int)] 3)).mono HB7.out.size)).trans (below_of_grown hg8 (by have := HB7.out.size; simp; omega) fun j e => (HO7.out.lt j e).1))
      obtain ⟨A8, c8, rfl, _, _, _⟩ := own_form hown8
      have HO8 := qh hown8
      clear hown8 hg8 hv8
      go_wp2
      go_roundg (g8 - 1)
      case measure => have := Hk.out; omega
      case rel => exact ⟨k + 1, A8, c8, qh (by have := Hk.out; omega), by go_num, by rw [HN.out, List.length_append, HLN.out]; rfl, qh (by rw [HN.out, List.length_append, HLN.out, List.map_append]; exact HO8.out), HB8⟩
    ·obtain rfl : q = k := by have := Hk.out; omega
     have hfull : leansTo ps l i q = leansAt ps l i := by unfold leansTo leansAt; rw [Hll.out]
     rw [hfull] at HON2 HLN
     obtain ⟨_, _, hes, hns, hms, hrs⟩ := own_form HON2.out
     injection hes with hes1 hes2 hes3
     subst hes1 hes3
     have HRS : Hid (RInts wi (fun k => w2.heap.size ≤ k ∧ k < wi.heap.size ∧ (Value.slice A1 i c1).ownBlock ≠ some k) Ao LN ((leansAt ps l i).map fun (k : Nat) => (k : Int))) := qh (by
      have h1 := Row.more hrs (S' := fun k => w2.heap.size ≤ k ∧ k < wi.heap.size ∧ (Value.slice A1 i c1).ownBlock ≠ some k) fun k hk => ⟨Nat.le_trans Z4.out.le hk.1, hk.2, fun e => by have := (HLs.out.own.lt k e).2; have := HW5.out; omega⟩
      unfold RInts
      rw [List.map_map]; exact h1)
     have HTK := qh (leansL_take (ps := ps) (l := l) (i := i) (by have := Hll.out; omega))
     clear hes2 hrs HON2 hfull
     go_wp2_with (at_builtin; refine wpList_append_own_at _ rfl _ _ 55 rfl w2.heap.size 60 i0 (.slice none 0 0) 1 24 Tryz.underlying55 Hi.out Hz0.out Hz1.out Hz2.out rfl (by decide) _ _ _ rfl (Zi.out.own.alloc _) ⟨wi.heap.size, 0, none⟩ 1 1 [.slice Ao LN co] rfl rfl (cell_one_new _ _ _) (by simp [Value.oneCell']) (by unfold maxLen; omega) (by omega) (by have := Zi.out.le; simp; omega) ?_)
     intro v' w8 hown8 hg8 _ hv8
     have Z8 := qh (Zi.out.push X1s.out HRS.out ⟨hns, hms⟩ hown8 hg8 (hv8.imp id fun e => by rw [e]; (try simp)))
     obtain ⟨A8, c8, rfl, _, _, _⟩ := own_form hown8
     rw [← HTK.out] at Z8
     clear hown8 hg8 hv8
     go_wp2_with fail
     go_roundg (g9 - 1)
     case measure => have := Hi1.out; omega
     case rel => exact ⟨i + 1, A8, c8, _, qh (by have := Hi1.out; omega), by go_num, rfl, Z8⟩
  ·obtain rfl : q = i := by have := Hi1.out; omega
   have hfull : (leansL ps l).take q = leansL ps l := List.take_of_length_le (by rw [leansL_len, Hll.out]; exact qr _)
   have HP : Hid (LeansOnP w ps l q (.returned (.slice A1 q c1)) wo) := qh (by
    have h1 := HLs.out.hds
    rw [hfull] at h1
    obtain ⟨A2, c2, e2, k1, k2, k3⟩ := own_form HLs.out.own
    injection e2 with e2 e3 e4
    subst e2 e4
    refine ⟨A1, c1, rfl, ?_, k1, k2, HLs.out.tx.below⟩
    exact RClauses.of_ (k3.more fun k hk => ⟨Nat.le_trans (Nat.le_of_lt X1s.out) hk.1, hk.2⟩) (h1.more fun k hk => ⟨Nat.le_trans (Nat.le_of_lt X1s.out) hk.1, hk.2.1⟩))
   go_wp2
   go_ret
   exact HP.out
end
/- Walks: slices.IndexFunc, slices.ContainsFunc of ints with a function value that may make memory of its own. -/
section
open Go.RowKit
def AsksI (w : World) (F : FuncId) (caps : Array Value) (xs : List Int) (p : Int → Bool) : Prop :=
 (∀ (args : Array Value) (W : World), (callFunc F args).run Tryz.prog W = .ok (.enter F args) W) ∧ ∀ x ∈ xs, ∀ W, Below w.heap.size w W → Calls Tryz.prog F (#[.int .i64 x] ++ caps) W fun e w' => e = .returned (.bool (p x)) ∧ Below W.heap.size W w'
set_option maxHeartbeats 1000000 in
theorem indexFuncW_any (A : Option Addr) (n c : Nat) (xs : List Int) (F : FuncId) (caps : Array Value) (p : Int → Bool) (w : World) (S : Nat → Prop) (hr : RInts w S A n xs) (hn : n ≤ maxLen) (hS : ∀ k, S k → k < w.heap.size) (hp : AsksI w F caps xs p) :
  Calls Tryz.prog 47 #[.slice A n c, .func (.func F) #[] caps] w fun e w' => e = .returned (.int .i64 (idxOf p xs)) ∧ Below w.heap.size w w' := by
 unfold maxLen at hn
 have Hlen := qh hr.len
 have Hp := qh hp; have Hr := qh hr; have HS := qh hS
 clear hp hr hS
 go_enter Tryz.func47, Tryz.ntmps47
 go_wp2_with fail
 go_loopg [8] n (fun g i wr => ∃ (k : Nat), Hid (k + g = n) ∧ i = .int .i64 k ∧ Hid (Below w.heap.size w wr) ∧ Hid ((xs.take k).any p = false))
 case atStart => exact ⟨0, qh (Nat.zero_add _), rfl, qh (Below.refl _ _), qh rfl⟩
 case round =>
  obtain ⟨k, Hk, rfl, HB, Hany⟩ := hrel
  by_cases hk : k < n
  ·obtain ⟨b, o, rfl, hb, hc⟩ := (RInts.below Hr.out HB.out HS.out).at_ hk
   have hlc : k < xs.length := by rw [Hlen.out]; exact hk
   generalize hx : xs.getD k 0 = x at hc
   have Hx := qh hx; clear hx
   have Hlc := qh hlc; clear hlc
   have Hcall := qh (Hp.out.2 x (by rw [← Hx.out, List.getD_eq_getElem?_getD, List.getElem?_eq_getElem Hlc.out]; exact List.getElem_mem _) wr HB.out)
   have henter := Hp.out.1
   generalize hpx : p x = px at Hcall
   have Hpx := qh hpx; clear hpx
   cases px
   ·go_wp2_with fail
    refine Hcall.out.mono ?_
    rintro e w' ⟨rfl, hb'⟩
    have HB3 := qh (HB.out.trans (hb'.mono HB.out.size)); clear hb'
    go_wp2_with fail
    go_roundg (gk - 1)
    case measure => have := Hk.out; omega
    case rel => exact ⟨k + 1, qh (by have := Hk.out; omega), by go_num, HB3, qh (take_any_succ Hlc.out Hx.out Hpx.out Hany.out)⟩
   ·go_wp2_with fail
    refine Hcall.out.mono ?_
    rintro e w' ⟨rfl, hb'⟩
    have HB3 := qh (HB.out.trans (hb'.mono HB.out.size)); clear hb'
    go_wp2_with fail
    go_ret
    exact ⟨ret_int (idxOf_hit Hlc.out Hx.out Hpx.out Hany.out).symm, HB3.out⟩
  ·go_wp2_with fail
   go_ret
   have hk' : k = n := by have := Hk.out; omega
   subst hk'
   refine ⟨ret_int ?_, HB.out⟩
   rw [idxOf_none]
   have := Hany.out
   rwa [List.take_of_length_le (by rw [Hlen.out]; exact qr _)] at this
set_option maxHeartbeats 400000 in
theorem containsFuncW_any (A : Option Addr) (n c : Nat) (xs : List Int) (F : FuncId) (caps : Array Value) (p : Int → Bool) (w : World) (S : Nat → Prop) (hr : RInts w S A n xs) (hn : n ≤ maxLen) (hS : ∀ k, S k → k < w.heap.size) (hp : AsksI w F caps xs p) :
  Calls Tryz.prog 16 #[.slice A n c, .func (.func F) #[] caps] w fun e w' => e = .returned (.bool (xs.any p)) ∧ Below w.heap.size w w' := by
 have Hcall := qh (indexFuncW_any A n c xs F caps p w S hr hn hS hp)
 clear hr hp hS
 go_enter Tryz.func16, Tryz.ntmps16
 go_wp2_with fail
 refine Hcall.out.mono ?_
 rintro e w' ⟨rfl, hb⟩
 have HB := qh hb; clear hb
 generalize hi : idxOf p xs = i
 have Hi := qh hi; clear hi
 go_wp2_with fail
 go_ret
 refine ⟨ret_bool ?_, HB.out⟩
 rw [← idxOf_any, Hi.out]
end
end Go.Proofs.YtpipgffbhpnmkaaGreatDoor
