/- Parts of the proof: walks and plain laws, side by side. -/
import Derived.Test.YtedbhlgjcnnknaaGreatDoorM2
import Derived.Test.YtedbhlgjcnnknaaGreatDoorM18
import Derived.Test.YtedbhlgjcnnknaaGreatDoorM10
import Derived.Test.YtedbhlgjcnnknaaGreatDoorM11
import Derived.Test.YtedbhlgjcnnknaaGreatDoorShelf
import Derived.Test.YtedbhlgjcnnknaaGreatDoorM17
import Derived.Deep.QuietTactic
import Derived.BigQuiet
import Derived.Test.YtedbhlgjcnnknaaGreatDoorM8
import Derived.Test.YtedbhlgjcnnknaaGreatDoorM5
import Derived.Test.YtedbhlgjcnnknaaGreatDoorM6
import Derived.Test.YtedbhlgjcnnknaaGreatDoorM16
set_option linter.unusedVariables false
set_option linter.unusedSimpArgs false
set_option linter.unusedSectionVars false
/- Members, sets, wishes in memory. -/
namespace Go.Proofs.YtedbhlgjcnnknaaGreatDoor
open Go.RowKit Qm

def RMem (w : World) (S : Nat → Prop) (x : List Value) (m : Mem) : Prop := ∃ A n c, x = [.int .i64 m.pl, .slice A n c] ∧ n ≤ c ∧ c ≤ maxLen ∧ RBools w S A n m.on
def RSet (w : World) (S : Nat → Prop) (A : Option Addr) (n : Nat) (l : List Mem) : Prop := RSeq 2 (RMem w S) w S A n l
section
variable {w w' : World} {S S' : Nat → Prop} {A : Option Addr} {n : Nat} {l : List Mem} {x : List Value} {m : Mem}
theorem RMem.keep (h : RMem w S x m) (hw : ∀ p : Addr, S p.block → w'.cell? p = w.cell? p) : RMem w' S x m := by
 obtain ⟨A, n, c, rfl, h1, h2, h3⟩ := h; exact ⟨A, n, c, rfl, h1, h2, Row.keep h3 hw⟩
theorem RMem.more (hS : ∀ k, S k → S' k) (h : RMem w S x m) : RMem w S' x m := by
 obtain ⟨A, n, c, rfl, h1, h2, h3⟩ := h; exact ⟨A, n, c, rfl, h1, h2, Row.more h3 hS⟩
theorem RMem.under {B : Nat} (h : RMem w S x m) (hb : Below B w w') (hS : ∀ k, S k → k < B) : RMem w' S x m := h.keep fun _ hp => hb.cell (hS _ hp)
theorem RSet.len (h : RSet w S A n l) : l.length = n := RSeq.len h
theorem RSet.nil_ : RSet w S A 0 [] := RSeq.nil_
theorem RSet.keep (h : RSet w S A n l) (hw : ∀ p : Addr, S p.block → w'.cell? p = w.cell? p) : RSet w' S A n l := RSeq.keep h hw fun _ _ h => h.keep hw
theorem RSet.more (hS : ∀ k, S k → S' k) (h : RSet w S A n l) : RSet w S' A n l := RSeq.more hS h fun _ _ h => h.more hS
theorem RSet.under {B : Nat} (h : RSet w S A n l) (hb : Below B w w') (hS : ∀ k, S k → k < B) : RSet w' S A n l := h.keep fun _ hp => hb.cell (hS _ hp)
theorem RSet.at_ (h : RSet w S A n l) {j : Nat} (hj : j < n) :
  ∃ b o m B k d, A = some ⟨b, o, none⟩ ∧ S b ∧ l[j]? = some m ∧ k ≤ d ∧ d ≤ maxLen ∧ RBools w S B k m.on ∧ w.cell? ⟨b, o + j * 2, none⟩ = some (.int .i64 m.pl) ∧ w.cell? ⟨b, o + j * 2 + 1, none⟩ = some (.slice B k d) := by
 obtain ⟨b, o, x, m, hA, hb, hm, ⟨B, k, d, rfl, h1, h2, h3⟩, _, hc⟩ := RSeq.at_ h hj (by decide)
 exact ⟨b, o, m, B, k, d, hA, hb, hm, h1, h2, h3, hc 0 (by decide), hc 1 (by decide)⟩
end
def atRow (a : At) : List Value := [.string ⟨a.nm.toArray⟩, .int .i64 a.op, .int .i64 a.ver, .int .i64 a.slot, .string ⟨a.fl.toArray⟩, .bool a.on]
def RAt (x : List Value) (a : At) : Prop := x = atRow a ∧ a.nm.length ≤ maxLen ∧ a.fl.length ≤ maxLen
def RPair (x : List Value) (q : Int × Int) : Prop := x = [.int .i64 q.1, .int .i64 q.2]
structure WsAt (w : World) (S : Nat → Prop) (A1 : Option Addr) (n1 c1 : Nat) (A2 : Option Addr) (n2 c2 : Nat) (A3 : Option Addr) (n3 c3 : Nat) (A4 : Option Addr) (n4 c4 : Nat) (v : Ws) : Prop where
 h1 : n1 ≤ c1 ∧ c1 ≤ maxLen
 h2 : n2 ≤ c2 ∧ c2 ≤ maxLen
 h3 : n3 ≤ c3 ∧ c3 ≤ maxLen
 h4 : n4 ≤ c4 ∧ c4 ≤ maxLen
 ts : RSeq 6 RAt w S A1 n1 v.ts
 ins : RSet w S A2 n2 v.ins
 ms : RInts w S A3 n3 v.ms
 on : RSeq 2 RPair w S A4 n4 v.on
def wsRow (A1 : Option Addr) (n1 c1 : Nat) (A2 : Option Addr) (n2 c2 : Nat) (A3 : Option Addr) (n3 c3 : Nat) (A4 : Option Addr) (n4 c4 : Nat) : List Value := [.slice A1 n1 c1, .slice A2 n2 c2, .slice A3 n3 c3, .slice A4 n4 c4]
def RWs (w : World) (S : Nat → Prop) (x : List Value) (v : Ws) : Prop := ∃ A1 n1 c1 A2 n2 c2 A3 n3 c3 A4 n4 c4, x = wsRow A1 n1 c1 A2 n2 c2 A3 n3 c3 A4 n4 c4 ∧ WsAt w S A1 n1 c1 A2 n2 c2 A3 n3 c3 A4 n4 c4 v
section
variable {w w' : World} {S S' : Nat → Prop} {A1 A2 A3 A4 : Option Addr} {n1 c1 n2 c2 n3 c3 n4 c4 : Nat} {v : Ws}
theorem WsAt.keep (h : WsAt w S A1 n1 c1 A2 n2 c2 A3 n3 c3 A4 n4 c4 v) (hw : ∀ p : Addr, S p.block → w'.cell? p = w.cell? p) : WsAt w' S A1 n1 c1 A2 n2 c2 A3 n3 c3 A4 n4 c4 v :=
 ⟨h.h1, h.h2, h.h3, h.h4, h.ts.keep hw fun _ _ h => h, h.ins.keep hw, Row.keep h.ms hw, h.on.keep hw fun _ _ h => h⟩
theorem WsAt.more (hS : ∀ k, S k → S' k) (h : WsAt w S A1 n1 c1 A2 n2 c2 A3 n3 c3 A4 n4 c4 v) : WsAt w S' A1 n1 c1 A2 n2 c2 A3 n3 c3 A4 n4 c4 v :=
 ⟨h.h1, h.h2, h.h3, h.h4, RSeq.more hS h.ts fun _ _ h => h, h.ins.more hS, Row.more h.ms hS, RSeq.more hS h.on fun _ _ h => h⟩
theorem WsAt.under {B : Nat} (h : WsAt w S A1 n1 c1 A2 n2 c2 A3 n3 c3 A4 n4 c4 v) (hb : Below B w w') (hS : ∀ k, S k → k < B) : WsAt w' S A1 n1 c1 A2 n2 c2 A3 n3 c3 A4 n4 c4 v := h.keep fun _ hp => hb.cell (hS _ hp)
end
end Go.Proofs.YtedbhlgjcnnknaaGreatDoor

/- slices.Index of words. (Of the shelf: Tryz.slices_Index_string Tryz.slices_Index_string_empty) -/
namespace Go.Proofs.YtedbhlgjcnnknaaGreatDoor
open Go.RowKit Qm

def ixI : Option Nat → Int
 | some k => (k : Int)
 | none => -1
theorem idxFrom_ix (x : Qm.W) : ∀ (fs : List Qm.W) (i : Nat), Lib.idxFromS (bas fs) ⟨x.toArray⟩ i = ixI ((ixOf x fs).map (· + i))
 | [], i => rfl
 | f :: r, i => by
  have ih := idxFrom_ix x r (i + 1)
  have hb : bas (f :: r) = ⟨f.toArray⟩ :: bas r := rfl
  rw [hb]
  have he : ((⟨f.toArray⟩ : ByteArray) = ⟨x.toArray⟩) ↔ f = x := by
   constructor
   ·intro h; have := congrArg (·.data.toList) h; simpa using this
   ·rintro rfl; rfl
  unfold Lib.idxFromS
  simp only [ixOf]
  by_cases hf : f = x
  ·rw [if_pos hf, if_pos (he.2 hf)]
   simp [ixI]
  ·rw [if_neg hf, if_neg (fun h => hf (he.1 h)), ih]
   cases ixOf x r with
   | none => rfl
   | some k => simp [ixI]; omega
theorem indexS_any (A : Option Addr) (n c : Nat) (fs : List Qm.W) (x : Qm.W) (w : World) (S : Nat → Prop) (h : Row w S A n (strs fs)) (hn : n ≤ maxLen) :
  Calls Tryz.prog 80 #[.slice A n c, .string ⟨x.toArray⟩] w fun e w' => e = .returned (.int .i64 (ixI (ixOf x fs))) ∧ w' = w := by
 have hl : fs.length = n := by have := h.len; simpa [strs] using this
 unfold maxLen at hn
 have hx : Lib.idxOfS (bas fs) ⟨x.toArray⟩ = ixI (ixOf x fs) := by
  unfold Lib.idxOfS; rw [idxFrom_ix]; cases ixOf x fs <;> rfl
 by_cases h0 : n = 0
 ·subst h0
  obtain rfl := List.eq_nil_of_length_eq_zero hl
  exact (Tryz.slices_Index_string_empty A c ⟨x.toArray⟩ w).mono fun e w' ⟨he, hw⟩ => ⟨he.trans (by rw [show Lib.idxOfS [] ⟨x.toArray⟩ = ixI (ixOf x []) from hx]), hw⟩
 ·obtain ⟨b, o, rfl, _⟩ := h.some_lit (by omega)
  refine (Tryz.slices_Index_string b o n c (bas fs) ⟨x.toArray⟩ w (by simp [bas, hl]) (by omega) (strs_cell (by rw [hl]; exact h))).mono fun e w' ⟨he, hw⟩ => ⟨?_, hw⟩
  rw [he, List.take_of_length_le (by simp [bas, hl]), hx]
end Go.Proofs.YtedbhlgjcnnknaaGreatDoor

/- valid.is, walked. -/
namespace Go.Proofs.YtedbhlgjcnnknaaGreatDoor
open Go.RowKit Qm

theorem pkOf_at {ps : List Pk} {j : Nat} {p : Pk} (h : ps[j]? = some p) : pkOf ps (j : Int) = p := by
 unfold pkOf
 rw [Int.toNat_natCast, List.getD_eq_getElem?_getD, h]; rfl
structure Ib (w : World) (A : Option Addr) (n c : Nat) (mv av : List Value) (wx : World) : Prop where
 t : Whole wx w.heap.size 24 [.slice A n c]
 m : Whole wx (w.heap.size + 1) 85 mv
 a : Whole wx (w.heap.size + 1 + 1) 75 av
 bel : Below w.heap.size w wx
theorem Ib.move {w : World} {A : Option Addr} {n c : Nat} {mv av : List Value} {wx wy : World} (h : Ib w A n c mv av wx) (hb : Below wx.heap.size wx wy) : Ib w A n c mv av wy :=
 ⟨h.t.below hb h.t.lt, h.m.below hb h.m.lt, h.a.below hb h.a.lt, h.bel.trans (hb.mono h.bel.size)⟩
theorem Ib.new (w : World) (A : Option Addr) (n c : Nat) (mv av : List Value) : Ib w A n c mv av (((w.alloc (.cells #[.slice A n c] 24)).alloc (.cells mv.toArray 85)).alloc (.cells av.toArray 75)) :=
 ⟨((Whole.new w _ _ [.slice A n c] rfl).alloc _).alloc _, (Whole.new (w.alloc (.cells #[.slice A n c] 24)) (w.heap.size + 1) _ mv (by simp)).alloc _, Whole.new ((w.alloc (.cells #[.slice A n c] 24)).alloc (.cells mv.toArray 85)) (w.heap.size + 1 + 1) _ av (by simp),
  (((Below.refl _ w).alloc (Nat.le_refl _) _).alloc (by simp) _).alloc (by simp; omega) _⟩
set_option maxRecDepth 100000 in
set_option maxHeartbeats 3200000 in
theorem is_any (ps : List Pk) (m : Mem) (a : At) (S : Nat → Prop) (A B : Option Addr) (n c k d : Nat) (w : World) (hT : RTree w S A n ps) (hB : RBools w S B k m.on) (hkd : k ≤ d) (hm : MemOk ps m) (hS : ∀ k, S k → k < w.heap.size) (hn8 : n ≤ 8) (h1 : a.nm.length ≤ maxLen) (h2 : a.fl.length ≤ maxLen) :
  Calls Tryz.prog 86 #[.agg #[.slice A n c], .agg #[.int .i64 m.pl, .slice B k d], .agg #[.string ⟨a.nm.toArray⟩, .int .i64 a.op, .int .i64 a.ver, .int .i64 a.slot, .string ⟨a.fl.toArray⟩, .bool a.on]] w fun e w' => e = .returned (.bool (isA ps m a)) ∧ Below w.heap.size w w' := by
 obtain ⟨hm0, hm1, hm2⟩ := hm
 have hl := hT.len
 obtain ⟨pl, on⟩ := m
 dsimp only at hm0 hm1 hm2 hB ⊢
 obtain ⟨j, rfl⟩ : ∃ j : Nat, pl = j := ⟨pl.toNat, by omega⟩
 have hjn : j < n := by omega
 obtain ⟨b, o, p, D, q, c', kd, pa, f, no, E, r, d', rfl, hbS, hp, hP, hcell⟩ := hT.at_ hjn
 rw [pkOf_at hp] at hm2
 have HC : Hid (isA ps ⟨(j : Int), on⟩ a = (decide (p.nm = a.nm) && (fitsP a p.ver p.slot && (decide (a.fl = []) || flagIs p ⟨(j : Int), on⟩ a)))) := Lib.hid (by unfold isA; rw [pkOf_at hp])
 have HF : Hid (flagIs p ⟨(j : Int), on⟩ a = match ixOf a.fl p.fs with | some i => onOf on i == a.on | none => false) := Lib.hid rfl
 generalize isA ps ⟨(j : Int), on⟩ a = R at HC ⊢
 generalize flagIs p ⟨(j : Int), on⟩ a = fl at HC HF
 have g0 := hcell 0 (by omega); have g1 := hcell 1 (by omega); have g2 := hcell 2 (by omega); have g3 := hcell 3 (by omega); have g4 := hcell 4 (by omega); have g5 := hcell 5 (by omega); have g6 := hcell 6 (by omega); have g7 := hcell 7 (by omega); have g8 := hcell 8 (by omega); have g9 := hcell 9 (by omega); have g10 := hcell 10 (by omega); have g11 := hcell 11 (by omega); have g12 := hcell 12 (by omega); have g13 := hcell 13 (by omega)
 unfold pkRow ndRow at g0 g1 g2 g3 g4 g5 g6 g7 g8 g9 g10 g11 g12 g13
 simp only [List.getElem?_cons_zero, List.getElem?_cons_succ, Nat.add_zero] at g0 g1 g2 g3 g4 g5 g6 g7 g8 g9 g10 g11 g12 g13
 clear hcell hp
 have hbl : b < w.heap.size := hS b hbS
 have hbl_1 : b < w.heap.size + 1 := by omega
 have hbl_2 : b < w.heap.size + 1 + 1 := by omega
 have I0 := Lib.hid (Ib.new w (some ⟨b, o, none⟩) n c [.int .i64 (j : Int), .slice B k d] [.string ⟨a.nm.toArray⟩, .int .i64 a.op, .int .i64 a.ver, .int .i64 a.slot, .string ⟨a.fl.toArray⟩, .bool a.on])
 have P1 := Lib.hid (Whole.new (((w.alloc (.cells #[.slice (some ⟨b, o, none⟩) n c] 24)).alloc (.cells #[.int .i64 (j : Int), .slice B k d] 85)).alloc (.cells #[.string ⟨a.nm.toArray⟩, .int .i64 a.op, .int .i64 a.ver, .int .i64 a.slot, .string ⟨a.fl.toArray⟩, .bool a.on] 75)) (w.heap.size + 1 + 1 + 1) 101 (pkRow p D q c' (ndRow kd pa f no E r d')) (by simp))
 have I1 := Lib.hid (I0.out.move ((Below.refl _ (((w.alloc (.cells #[.slice (some ⟨b, o, none⟩) n c] 24)).alloc (.cells #[.int .i64 (j : Int), .slice B k d] 85)).alloc (.cells #[.string ⟨a.nm.toArray⟩, .int .i64 a.op, .int .i64 a.ver, .int .i64 a.slot, .string ⟨a.fl.toArray⟩, .bool a.on] 75))).alloc (Nat.le_refl _) (.cells (pkRow p D q c' (ndRow kd pa f no E r d')).toArray 101)))
 have HFS := Lib.hid hP.fs.row
 have HBO := Lib.hid hB
 have HPm := Lib.hid (Nat.le_trans hP.cap hP.max)
 have HBl := Lib.hid hB.len
 have HFl := Lib.hid hP.fs.len
 have HS := Lib.hid hS
 have hft := fun wx => fits_any ⟨a.nm.toArray⟩ ⟨a.fl.toArray⟩ a.op a.ver a.slot p.ver p.slot a.on wx
 rw [atOf_mk] at hft
 unfold atv at hft
 have Hft := Lib.hid hft
 clear hT hB hP hS hft I0
 obtain ⟨nm, ver, slot, fs, nd⟩ := p
 unfold pkRow ndRow at P1 I1
 dsimp only at g0 g1 g2 g3 g4 g5 g6 g7 g8 g9 g10 g11 g12 g13 P1 I1 HFS Hft HC HF HFl hm2
 generalize fitsP a ver slot = ft at Hft HC
 have hj1 : (j : Int) < n := by omega
 by_cases hn : nm = a.nm
 ·subst hn
  have H1 : Hid (R = (ft && (decide (a.fl = []) || fl))) := Lib.hid (by rw [HC.out]; simp)
  clear HC
  cases ft
  ·have HE : Hid (R = false) := Lib.hid (by rw [H1.out]; rfl)
   go_enter Tryz.func86, Tryz.ntmps86
   go_wp2_with (first | (go_at_call 81; refine (Hft.out _).mono ?_; rintro e w4 ⟨rfl, hb4⟩; refine Hid.out ?_))
   refine Lib.hid ?_
   have P4 := Lib.hid (P1.out.below hb4 P1.out.lt)
   have I4 := Lib.hid (I1.out.move hb4)
   clear hb4
   go_wp2
   go_ret
   exact ⟨ret_bool HE.out.symm, I4.out.bel⟩
  ·by_cases hfl : a.fl = []
   ·have HE : Hid (R = true) := Lib.hid (by rw [H1.out, decide_eq_true hfl]; rfl)
    have hf1 : (a.fl == []) = true := by simpa using hfl
    have hf2 : a.fl.isEmpty = true := by simpa using hfl
    have Hfl := Lib.hid hfl; clear hfl
    go_enter Tryz.func86, Tryz.ntmps86
    go_wp2_with (first | (go_at_call 81; refine (Hft.out _).mono ?_; rintro e w4 ⟨rfl, hb4⟩; refine Hid.out ?_))
    refine Lib.hid ?_
    have P4 := Lib.hid (P1.out.below hb4 P1.out.lt)
    have I4 := Lib.hid (I1.out.move hb4)
    clear hb4
    have a4 := I4.out.a.cell 4
    simp only [qgz, qgs] at a4
    rw [Hfl.out] at a4
    go_wp2
    go_ret
    exact ⟨ret_bool HE.out.symm, I4.out.bel⟩
   ·have hf1 : (a.fl == []) = false := by simpa using hfl
    have hf2 : a.fl.isEmpty = false := by simpa using hfl
    have H2 : Hid (R = fl) := Lib.hid (by rw [H1.out, decide_eq_false hfl]; simp)
    clear hfl H1
    cases hix : ixOf a.fl fs with
    | none =>
     have HE : Hid (R = false) := Lib.hid (by rw [H2.out, HF.out, hix])
     have Hix := Lib.hid (fun wx hb => indexS_any D q c' fs a.fl wx S (HFS.out.below (w' := wx) hb HS.out) HPm.out)
     rw [hix] at Hix
     unfold ixI at Hix
     clear hix
     go_enter Tryz.func86, Tryz.ntmps86
     go_wp2_with (first | (go_at_call 81; refine (Hft.out _).mono ?_; rintro e w4 ⟨rfl, hb4⟩; refine Hid.out ?_))
     refine Lib.hid ?_
     have P4 := Lib.hid (P1.out.below hb4 P1.out.lt)
     have I4 := Lib.hid (I1.out.move hb4)
     clear hb4
     have a4 := I4.out.a.cell 4
     have p3 := P4.out.cell 3
     simp only [qgz, qgs] at a4 p3
     have plt := P4.out.lt
     go_wp2_with (first | (go_at_call 80; refine (Hix.out _ I4.out.bel).mono ?_; rintro e w5 ⟨rfl, hw5⟩; have hw6 := hw5.symm; subst hw6; refine Hid.out ?_))
     refine Lib.hid ?_
     go_wp2
     go_quiet (fail)
     go_wp2
     go_ret
     exact ⟨ret_bool HE.out.symm, below_drewN I4.out.bel _⟩
    | some i =>
     have hiq := ixOf_lt hix
     obtain ⟨b2, o2, rfl, hb2, hbc⟩ := HBO.out.at_ (k := i) (by rw [← HBl.out, hm2]; exact hiq)
     have hik : (i : Int) < k := by have := HBl.out; omega
     have hbl2 := HS.out b2 hb2
     have HE : Hid (R = (on.getD i false == a.on)) := Lib.hid (by rw [H2.out, HF.out, hix]; rfl)
     generalize on.getD i false = ob at hbc HE
     have Hix := Lib.hid (fun wx hb => indexS_any D q c' fs a.fl wx S (HFS.out.below (w' := wx) hb HS.out) HPm.out)
     rw [hix] at Hix
     unfold ixI at Hix
     clear hix hiq hm2
     go_enter Tryz.func86, Tryz.ntmps86
     go_wp2_with (first | (go_at_call 81; refine (Hft.out _).mono ?_; rintro e w4 ⟨rfl, hb4⟩; refine Hid.out ?_))
     refine Lib.hid ?_
     have P4 := Lib.hid (P1.out.below hb4 P1.out.lt)
     have I4 := Lib.hid (I1.out.move hb4)
     clear hb4
     have a4 := I4.out.a.cell 4
     have a5 := I4.out.a.cell 5
     have m1 := I4.out.m.cell 1
     have p3 := P4.out.cell 3
     simp only [qgz, qgs] at a4 a5 p3 m1
     have plt := P4.out.lt
     have ob4 := (I4.out.bel.cell (p := ⟨b2, o2 + i, none⟩) hbl2).trans hbc
     go_wp2_with (first | (go_at_call 80; refine (Hix.out _ I4.out.bel).mono ?_; rintro e w5 ⟨rfl, hw5⟩; have hw6 := hw5.symm; subst hw6; refine Hid.out ?_))
     refine Lib.hid ?_
     have hi0 : (0 : Int) ≤ (i : Int) := by omega
     go_wp2
     go_quiet (fail)
     go_wp2
     go_ret
     exact ⟨ret_bool HE.out.symm, below_drewN I4.out.bel _⟩
 ·have hn' : (nm == a.nm) = false := by simpa using hn
  have HE : Hid (R = false) := Lib.hid (by rw [HC.out, decide_eq_false hn]; rfl)
  go_enter Tryz.func86, Tryz.ntmps86
  go_wp2
  go_ret
  exact ⟨ret_bool HE.out.symm, I1.out.bel⟩
end Go.Proofs.YtedbhlgjcnnknaaGreatDoor

/- quartermasterref.Choices, walked. -/
namespace Go.Proofs.YtedbhlgjcnnknaaGreatDoor
open Go.RowKit Qm

theorem IntSet.block {P : Program} {w w' : World} {b m : Nat} {K : Int → Bool} (h : IntSet P w b K m) (hb : w'.heap[b]? = w.heap[b]?) : IntSet P w' b K m := by
 obtain ⟨D, ⟨es, clock, h1, r⟩, h2⟩ := h
 exact ⟨D, ⟨es, clock, hb.trans h1, r⟩, h2⟩
theorem IntSet.ne_cells {P : Program} {w : World} {g b m : Nat} {K : Int → Bool} {cs : Array Value} {t : TypeId} {fr : Nat × Nat} (h : IntSet P w b K m) (hg : w.heap[g]? = some (.cells cs t fr)) : g ≠ b := by
 rintro rfl
 obtain ⟨D, ⟨es, clock, h1, _⟩, _⟩ := h
 rw [hg] at h1; cases h1
structure Oc (z : Nat) (tv wv : List Value) (ob g mb : Nat) (lv : Value) (os : List Nat) (K : Int → Bool) (m : Nat) (wr : World) : Prop where
 t : Whole wr z 24 tv
 wi : Whole wr (z + 1) 30 wv
 bo : Whole wr ob 27 [lv]
 bm : Whole wr mb 120 [.map (some g)]
 own : wr.ownsRow z 3 1 lv os.length (os.map fun (k : Nat) => Value.int .i64 (k : Int))
 mp : IntSet Tryz.prog wr g K m
 ne : ob ≠ z ∧ ob ≠ z + 1 ∧ ob ≠ mb
 lo : z ≤ ob ∧ z ≤ g ∧ z ≤ mb
section
variable {z : Nat} {tv wv : List Value} {ob g mb : Nat} {lv : Value} {os : List Nat} {K : Int → Bool} {m : Nat} {wr wy : World}
theorem Oc.ni (h : Oc z tv wv ob g mb lv os K m wr) : ∀ i, lv.ownBlock = some i → i ≠ z ∧ i ≠ z + 1 ∧ i ≠ ob ∧ i ≠ mb ∧ i ≠ g := by
 intro i hi
 refine ⟨fun e => own_ne h.own h.t (by decide) (e ▸ hi), fun e => own_ne h.own h.wi (by decide) (e ▸ hi), fun e => own_ne h.own h.bo (by decide) (e ▸ hi), fun e => own_ne h.own h.bm (by decide) (e ▸ hi), ?_⟩
 rcases h.own.2 with ⟨e, _⟩ | ⟨g', cap, cur, rfl, _, hh, _⟩
 ·rw [e] at hi; cases hi
 ·simp only [Value.ownBlock] at hi
  injection hi with hi
  subst hi
  exact h.mp.ne_cells hh
theorem Oc.ng (h : Oc z tv wv ob g mb lv os K m wr) : z ≠ g ∧ z + 1 ≠ g ∧ ob ≠ g ∧ mb ≠ g := ⟨h.mp.ne_cells h.t, h.mp.ne_cells h.wi, h.mp.ne_cells h.bo, h.mp.ne_cells h.bm⟩
theorem Oc.turn (h : Oc z tv wv ob g mb lv os K m wr) {D : Nat → Prop} (k : Far D wr wy) (hD : ∀ i, D i → i ≠ z ∧ i ≠ z + 1 ∧ i ≠ ob ∧ i ≠ mb ∧ i ≠ g ∧ lv.ownBlock ≠ some i) : Oc z tv wv ob g mb lv os K m wy :=
 ⟨k.whole h.t fun x => (hD _ x).1 rfl, k.whole h.wi fun x => (hD _ x).2.1 rfl, k.whole h.bo fun x => (hD _ x).2.2.1 rfl, k.whole h.bm fun x => (hD _ x).2.2.2.1 rfl, k.own h.own fun i hi x => (hD _ x).2.2.2.2.2 hi, h.mp.block (k.block _ h.mp.lt fun x => (hD _ x).2.2.2.2.1 rfl), h.ne, h.lo⟩
theorem Oc.move (h : Oc z tv wv ob g mb lv os K m wr) (hb : Below wr.heap.size wr wy) : Oc z tv wv ob g mb lv os K m wy := h.turn (Far.of_below (fun _ => False) hb) fun _ x => x.elim
theorem Oc.push (h : Oc z tv wv ob g mb lv os K m wr) {x : Nat} {lv' : Value} (ho : wy.ownsRow z 3 1 lv' (os.length + 1) (os.map (fun (k : Nat) => Value.int .i64 (k : Int)) ++ [.int .i64 (x : Int)])) (hg : wr.grownBy wy lv.ownBlock) :
  Oc z tv wv ob g mb lv' (os ++ [x]) K m (wy.setCell ⟨ob, 0, none⟩ lv') := by
 have hk : Far (fun i => lv.ownBlock = some i) wr wy := Far.of_grown hg fun i e => e.symm
 have hs : Far (fun i => i = ob) wy (wy.setCell ⟨ob, 0, none⟩ lv') := Far.set_ (D := fun i => i = ob) rfl 0 lv'
 have hn := h.ni
 have hbo : Whole wy ob 27 [lv] := hk.whole h.bo fun e => (hn _ e).2.2.1 rfl
 refine ⟨hs.whole (hk.whole h.t fun e => (hn _ e).1 rfl) fun e => h.ne.1 e.symm, hs.whole (hk.whole h.wi fun e => (hn _ e).2.1 rfl) fun e => h.ne.2.1 e.symm, hbo.set_ 0 lv', hs.whole (hk.whole h.bm fun e => (hn _ e).2.2.2.1 rfl) fun e => h.ne.2.2 e.symm, ?_, ?_, h.ne, h.lo⟩
 ·refine hs.own ?_ fun i hi e => own_ne ho hbo (by decide) (e ▸ hi)
  simpa using ho
 ·have h1 := h.mp.block (hk.block _ h.mp.lt fun e => (hn _ e).2.2.2.2 rfl)
  exact h1.block (hs.block _ h1.lt fun e => h.ng.2.2.1 e.symm)
theorem Oc.put (h : Oc z tv wv ob g mb lv os K m wr) {K' : Int → Bool} {m' : Nat} (hp : IntSet Tryz.prog wy g K' m') (hg : wr.grownBy wy (some g)) : Oc z tv wv ob g mb lv os K' m' wy := by
 have hk : Far (fun i => i = g) wr wy := Far.of_grown hg fun i e => by injection e
 have hn := h.ni
 have hq := h.ng
 exact ⟨hk.whole h.t fun e => hq.1 e, hk.whole h.wi fun e => hq.2.1 e, hk.whole h.bo fun e => hq.2.2.1 e, hk.whole h.bm fun e => hq.2.2.2 e, hk.own h.own fun i hi e => (hn _ hi).2.2.2.2 e, hp, h.ne, h.lo⟩
end
def RChoicesP (ps : List Pk) (v : Ws) (tv wv : List Value) (w : World) (e : Ending) (w' : World) : Prop :=
 ∃ z ob g mb lv m, w.heap.size ≤ z ∧ e = .returned (.tuple #[.int .i64 (manyC ps : Int), .func (.func 67) #[] #[.pointer (some ⟨ob, 0, none⟩), .pointer (some ⟨mb, 0, none⟩), .pointer (some ⟨z, 0, none⟩), .pointer (some ⟨z + 1, 0, none⟩)]]) ∧
  Oc z tv wv ob g mb lv (ordP v.ins ps.length) (fun x => (insP v.ins).any fun k => x == (k : Int)) m w' ∧ Below w.heap.size w w'
theorem Oc.new (w : World) (tv wv : List Value) : ∃ ob g mb, ob = w.heap.size + 1 + 1 + 1 ∧ g = ob + 1 ∧ mb = ob + 1 + 1 ∧ Oc w.heap.size tv wv ob g mb (.slice (some ⟨w.heap.size + 1 + 1, 0, none⟩) 0 0) [] (fun _ => false) 0
  ((((((w.alloc (.cells tv.toArray 24)).alloc (.cells wv.toArray 30)).alloc (.cells #[] 3)).alloc (.cells #[.slice (some ⟨w.heap.size + 1 + 1, 0, none⟩) 0 0] 27)).alloc (.map #[] 0)).alloc (.cells #[.map (some (w.heap.size + 1 + 1 + 1 + 1))] 120)) := by
 refine ⟨_, _, _, rfl, rfl, rfl, ?_⟩
 have h1 := Whole.new w w.heap.size 24 tv rfl
 have h2 := Whole.new (w.alloc (.cells tv.toArray 24)) (w.heap.size + 1) 30 wv (by simp)
 have h4 := Whole.new (((w.alloc (.cells tv.toArray 24)).alloc (.cells wv.toArray 30)).alloc (.cells #[] 3)) (w.heap.size + 1 + 1 + 1) 27 [.slice (some ⟨w.heap.size + 1 + 1, 0, none⟩) 0 0] (by simp)
 have h3 := Whole.new ((w.alloc (.cells tv.toArray 24)).alloc (.cells wv.toArray 30)) (w.heap.size + 1 + 1) 3 [] (by simp)
 have h5 := IntSet.made Tryz.prog ((((w.alloc (.cells tv.toArray 24)).alloc (.cells wv.toArray 30)).alloc (.cells #[] 3)).alloc (.cells #[.slice (some ⟨w.heap.size + 1 + 1, 0, none⟩) 0 0] 27))
 rw [show ((((w.alloc (.cells tv.toArray 24)).alloc (.cells wv.toArray 30)).alloc (.cells #[] 3)).alloc (.cells #[.slice (some ⟨w.heap.size + 1 + 1, 0, none⟩) 0 0] 27)).heap.size = w.heap.size + 1 + 1 + 1 + 1 by simp] at h5
 generalize hw4 : ((((w.alloc (.cells tv.toArray 24)).alloc (.cells wv.toArray 30)).alloc (.cells #[] 3)).alloc (.cells #[.slice (some ⟨w.heap.size + 1 + 1, 0, none⟩) 0 0] 27)) = w4 at *
 have g1 : Whole w4 w.heap.size 24 tv := by rw [← hw4]; exact ((h1.alloc _).alloc _).alloc _
 have g2 : Whole w4 (w.heap.size + 1) 30 wv := by rw [← hw4]; exact (h2.alloc _).alloc _
 have g3 : Whole w4 (w.heap.size + 1 + 1) 3 [] := by rw [← hw4]; exact h3.alloc _
 have hs4 : w4.heap.size = w.heap.size + 1 + 1 + 1 + 1 := by rw [← hw4]; simp
 have g5 := Whole.new (w4.alloc (.map #[] 0)) (w.heap.size + 1 + 1 + 1 + 1 + 1) 120 [.map (some (w.heap.size + 1 + 1 + 1 + 1))] (by simp [hs4])
 have g6 : Whole ((w4.alloc (.map #[] 0)).alloc (.cells #[.map (some (w.heap.size + 1 + 1 + 1 + 1))] 120)) (w.heap.size + 1 + 1) 3 [] := (g3.alloc _).alloc _
 refine ⟨(g1.alloc _).alloc _, (g2.alloc _).alloc _, (h4.alloc _).alloc _, g5, ?_, ?_, by omega, by omega⟩
 ·exact ⟨rfl, .inr ⟨w.heap.size + 1 + 1, 0, #[], rfl, by omega, g6, Nat.le_refl _, Nat.zero_le _, rfl, rfl⟩⟩
 ·exact h5.block (((Below.refl _ (w4.alloc (.map #[] 0))).alloc (Nat.le_refl _) _).block _ (by simp [hs4]))
theorem zeroBoolE (w : World) : (zeroValue 4).run Tryz.prog w = .ok (.bool false) w := by kernel_rfl
theorem any_insP {l : List Nat} {i : Nat} {b : Bool} (h : b = l.any fun k => (i : Int) == (k : Int)) : l.contains i = b := by
 subst h
 induction l with
 | nil => rfl
 | cons x r ih =>
  rw [List.contains_cons, List.any_cons, ih]
  congr 1
  by_cases e : i = x
  ·subst e; simp
  ·rw [beq_eq_false_iff_ne.2 e, beq_eq_false_iff_ne.2 (by omega)]
set_option maxRecDepth 100000 in
set_option maxHeartbeats 6400000 in
theorem rchoices_any (ps : List Pk) (v : Ws) (S : Nat → Prop) (A : Option Addr) (n c : Nat) (A1 : Option Addr) (n1 c1 : Nat) (A2 : Option Addr) (n2 c2 : Nat) (A3 : Option Addr) (n3 c3 : Nat) (A4 : Option Addr) (n4 c4 : Nat) (w : World) (hT : RTree w S A n ps) (hnc : n ≤ c) (hc : c ≤ maxLen)
  (hW : WsAt w S A1 n1 c1 A2 n2 c2 A3 n3 c3 A4 n4 c4 v) (hS : ∀ k, S k → k < w.heap.size) (hok : ckWish ps v = 0) :
  Calls Tryz.prog 22 #[.agg #[.slice A n c], .agg #[.slice A1 n1 c1, .slice A2 n2 c2, .slice A3 n3 c3, .slice A4 n4 c4]] w (RChoicesP ps v [.slice A n c] [.slice A1 n1 c1, .slice A2 n2 c2, .slice A3 n3 c3, .slice A4 n4 c4] w) := by
 have hmm := @run_makeMap Tryz.prog
 unfold maxLen at hc
 have WP := Lib.hid (wish_parts hok)
 have HT := Lib.hid hT; have HW := Lib.hid hW; have HS := Lib.hid hS
 have HLen := Lib.hid hT.len
 have h8 : n ≤ 8 := by rw [← HLen.out]; exact (tree_parts WP.out.tree).1
 obtain ⟨ob, g, mb, hob, hg, hmb, HO⟩ := Oc.new w [.slice A n c] [.slice A1 n1 c1, .slice A2 n2 c2, .slice A3 n3 c3, .slice A4 n4 c4]
 obtain ⟨i0, hi0, hz0, hz1, hz2⟩ := info_parts int_infoE
 have Hi0 := Lib.hid hi0; have Hz0 := Lib.hid hz0; have Hz1 := Lib.hid hz1; have Hz2 := Lib.hid hz2
 have HOH := Lib.hid HO
 clear hT hW hS hok hi0 hz0 hz1 hz2 HO
 have HN := Lib.hid (And.intro hob (And.intro hg hmb))
 clear hob hg hmb
 go_enter Tryz.func22, Tryz.ntmps22
 go_upto_region 3 with fail
 rw [show w.heap.size + 1 + 1 + 1 + 1 + 1 = mb by have := HN.out; omega, show w.heap.size + 1 + 1 + 1 + 1 = g by have := HN.out; omega, show w.heap.size + 1 + 1 + 1 = ob by have := HN.out; omega]
 rw [show w.heap.size + 1 + 1 + 1 + 1 = g by have := HN.out; omega] at HOH
 have HB1 : Hid (Below w.heap.size w ((((((w.alloc (.cells #[.slice A n c] 24)).alloc (.cells #[.slice A1 n1 c1, .slice A2 n2 c2, .slice A3 n3 c3, .slice A4 n4 c4] 30)).alloc (.cells #[] 3)).alloc (.cells #[.slice (some ⟨w.heap.size + 1 + 1, 0, none⟩) 0 0] 27)).alloc (.map #[] 0)).alloc (.cells #[.map (some g)] 120))) :=
  Lib.hid ((((((((Below.refl _ w).alloc (Nat.le_refl _) _).alloc (by simp) _).alloc (by simp; omega) _).alloc (by simp; omega) _).alloc (by simp; omega) _).alloc (by simp; omega) _))
 generalize ((((((w.alloc (.cells #[.slice A n c] 24)).alloc (.cells #[.slice A1 n1 c1, .slice A2 n2 c2, .slice A3 n3 c3, .slice A4 n4 c4] 30)).alloc (.cells #[] 3)).alloc (.cells #[.slice (some ⟨w.heap.size + 1 + 1, 0, none⟩) 0 0] 27)).alloc (.map #[] 0)).alloc (.cells #[.map (some g)] 120)) = w1 at HOH HB1 ⊢
 have i1 := HOH.out.wi.cell 1
 have ilt := HOH.out.wi.lt
 simp only [qgz, qgs] at i1
 have HN2 := Lib.hid HW.out.ins.len
 go_wp2
 go_loopg [18] n2 (fun gg iv wr => ∃ (j m : Nat) (lv : Value), Hid (j + gg = n2) ∧ iv = .int .i64 j ∧ Hid (Oc w.heap.size [.slice A n c] [.slice A1 n1 c1, .slice A2 n2 c2, .slice A3 n3 c3, .slice A4 n4 c4] ob g mb lv ((insP v.ins).take j) (fun x => ((insP v.ins).take j).any fun k => x == (k : Int)) m wr) ∧ Hid (Below w.heap.size w wr) ∧ Hid (m ≤ j))
 case atStart => exact ⟨0, 0, _, Lib.hid (Nat.zero_add _), rfl, Lib.hid HOH.out, HB1, Lib.hid (Nat.le_refl _)⟩
 case round =>
  obtain ⟨j, m, lv, Hj, rfl, HO, HB, Hm⟩ := hrel
  clear HOH HB1 i1 ilt
  by_cases hj : j < n2
  ·obtain ⟨b2, o2, mm, E, u, d2, rfl, hbS, hm, hud, hd, hon, g0, g1⟩ := (HW.out.ins.under HB.out HS.out).at_ hj
   obtain ⟨hp0, hp1, _⟩ := ckMs_mem WP.out.ok.ins mm (List.mem_of_getElem? hm)
   rw [HLen.out] at hp1
   have hmp : (insP v.ins)[j]? = some mm.pl.toNat := by unfold insP; rw [List.getElem?_map, hm]; rfl
   obtain ⟨pl, on⟩ := mm
   dsimp only at hp0 hp1 g0 g1 hmp
   obtain ⟨p, rfl⟩ : ∃ p : Nat, pl = p := ⟨pl.toNat, by omega⟩
   rw [Int.toNat_natCast] at hmp
   have hal : Below wr.heap.size wr (wr.alloc (.cells #[.int .i64 (p : Int), .slice E u d2] 85)) := (Below.refl _ wr).alloc (Nat.le_refl _) _
   have O1 := Lib.hid (HO.out.move hal)
   have HM1 := Lib.hid (Whole.new wr wr.heap.size 85 [.int .i64 (p : Int), .slice E u d2] rfl)
   have HBA := Lib.hid (HB.out.trans (hal.mono HB.out.size))
   have HMP := Lib.hid hmp
   have hbl2 : b2 < wr.heap.size := Nat.lt_of_lt_of_le (HS.out _ hbS) HB.out.size
   have hjn : (j : Int) < n2 := by omega
   have hj0 : (0 : Int) ≤ (j : Int) := by omega
   have HOL : Hid (ob < wr.heap.size) := Lib.hid HO.out.bo.lt
   clear hal hmp hon hm hbS hud hd
   have hlj : ((insP v.ins).take j).length = j := by
    have h1 : (insP v.ins).length = v.ins.length := by unfold insP; simp
    have h2 := HN2.out
    rw [List.length_take]; omega
   have hn8 : n2 ≤ 8 := by
    have h1 := ordP_len WP.out.ok
    unfold ordP at h1
    rw [List.length_append] at h1
    have h2 : (insP v.ins).length = v.ins.length := by unfold insP; simp
    have := HLen.out; have := HN2.out
    omega
   have hown8 := O1.out.own
   rw [hlj] at hown8
   obtain ⟨lA, lc, rfl, hl1, hl2, _⟩ := own_form hown8
   have HO8 := Lib.hid hown8
   clear hown8
   have HLJ := Lib.hid hlj
   clear hlj
   go_upto_region 6 with fail
   generalize hw8 : wr.alloc (.cells #[.int .i64 (p : Int), .slice E u d2] 85) = w8 at O1 HM1 HBA HO8 ⊢
   have HW8 : Hid (w.heap.size ≤ w8.heap.size) := Lib.hid HBA.out.size
   have o0 := O1.out.bo.cell 0
   have olt := O1.out.bo.lt
   have m0 := HM1.out.cell 0
   have mlt := HM1.out.lt
   simp only [List.getElem?_cons_zero] at o0 m0
   have O8 := Lib.hid (O1.out.move ((Below.refl _ w8).alloc (Nat.le_refl _) (.cells #[.int .i64 (p : Int)] 3)))
   go_upto_region 7 with (at_builtin; refine wpList_append_own_at _ rfl _ _ 27 rfl w.heap.size 3 i0 (.int .i64 0) 1 8 Tryz.underlying27 Hi0.out Hz0.out Hz1.out Hz2.out rfl (by decide) _ _ _ rfl (HO8.out.alloc _) ⟨w8.heap.size, 0, none⟩ 1 1 [.int .i64 (p : Int)] rfl rfl ?d16 ?d26 ?d36 ?d46 ?d56 ?_)
   try (case d16 => exact cell_one_new _ _ _)
   try (case d26 => simp [Value.oneCell'])
   try (case d36 => unfold maxLen; omega)
   try (case d46 => omega)
   try (case d56 => (try simp); have := HW8.out; omega)
   intro lv' w9 hown9 hg9 _ hat9
   obtain ⟨lA2, lc2, rfl, hl3, hl4, _⟩ := own_form hown9
   have P9 := Lib.hid (O8.out.push (x := p) (lv' := .slice lA2 (j + 1 : Nat) lc2) (wy := w9) (by rw [HLJ.out]; simpa using hown9) hg9)
   have hb9 : Whole w9 ob 27 [.slice lA j lc] := Far.whole (D := fun i => (Value.slice lA j lc).ownBlock = some i) (Far.of_grown hg9 fun i e => e.symm) O8.out.bo fun e => (O8.out.ni _ e).2.2.1 rfl
   have o9 := hb9.cell 0
   have f9 := hb9.free 0
   have olt9 := hb9.lt
   simp only [List.getElem?_cons_zero] at o9
   have HB9 := Lib.hid (((HBA.out.trans (((Below.refl _ w8).alloc (Nat.le_refl _) (.cells #[.int .i64 (p : Int)] 3)).mono HBA.out.size)).trans (below_of_grown hg9 (by simp; have := HW8.out; omega) fun k e => (O8.out.own.lt k e).1)).setCell (p := ⟨ob, 0, none⟩) O8.out.lo.1 (.slice lA2 (j + 1 : Nat) lc2))
   clear hb9
   have hbo9 : Whole w9 wr.heap.size 85 [.int .i64 (p : Int), .slice E u d2] := Far.whole (D := fun i => (Value.slice lA j lc).ownBlock = some i) (Far.of_grown hg9 fun i e => e.symm) (HM1.out.alloc _) fun e => own_ne O8.out.own (HM1.out.alloc (.cells #[.int .i64 (p : Int)] 3)) (by decide) e
   have HM9 := Lib.hid (hbo9.far (p := ⟨ob, 0, none⟩) (by show wr.heap.size ≠ ob; have := HOL.out; omega) (.slice lA2 (j + 1 : Nat) lc2))
   clear hown9 hg9 hat9 hbo9 o0 olt m0 mlt
   go_upto_region 7 with fail
   have hwp : (Lit.int .i64 (p : Int)).wf = true := wf_of (by omega) (by omega)
   obtain ⟨wP, hput, hset, hgP, hsz⟩ := P9.out.mp.put Tryz.underlying3 Tryz.underlying4 Tryz.underlying120 hwp (by have := Hm.out; unfold maxLen; omega)
   have PN := Lib.hid (P9.out.put hset hgP)
   have HBP := Lib.hid (HB9.out.trans (below_of_grown hgP HB9.out.size fun k e => by injection e with e; subst e; exact P9.out.lo.2.1))
   have bm0 := P9.out.bm.cell 0
   have blt := P9.out.bm.lt
   have m1 := HM9.out.cell 0
   have mlt1 := HM9.out.lt
   simp only [List.getElem?_cons_zero] at bm0 m1
   generalize hwA : w9.setCell ⟨ob, 0, none⟩ (.slice lA2 (j + 1 : Nat) lc2) = wA at hput bm0 m1 blt mlt1 ⊢
   clear hwA hset hgP hsz P9 HM9 O1 HM1 HO8 O8 HB9 o9 f9 olt9
   go_wp2
   go_roundg (gk - 1)
   case measure => have := Hj.out; omega
   case rel => exact ⟨j + 1, _, _, Lib.hid (by have := Hj.out; omega), by go_num, Lib.hid (by
    have h := PN.out
    have e : (insP v.ins).take j ++ [p] = (insP v.ins).take (j + 1) := by
     obtain ⟨h1, h2⟩ := List.getElem?_eq_some_iff.1 HMP.out
     rw [List.take_succ_eq_append_getElem h1, h2]
    rw [e] at h
    have e2 : (fun y : Int => y == (p : Int) || ((insP v.ins).take j).any fun k => y == (k : Int)) = fun x : Int => ((insP v.ins).take (j + 1)).any fun k => x == (k : Int) := by
     funext y
     rw [← e, List.any_append, Bool.or_comm]; simp
    rw [e2] at h
    exact h), HBP, Lib.hid (by have := Hm.out; split <;> omega)⟩
  ·obtain rfl : n2 = j := by have := Hj.out; omega
   have HO1 : Hid (Oc w.heap.size [.slice A n c] [.slice A1 n1 c1, .slice A2 n2 c2, .slice A3 n3 c3, .slice A4 n4 c4] ob g mb lv (insP v.ins ++ freeP v.ins 0) (fun x => (insP v.ins).any fun k => x == (k : Int)) m wr) := Lib.hid (by
    have h := HO.out
    rw [List.take_of_length_le (by have h1 : (insP v.ins).length = v.ins.length := by { unfold insP; simp }; have := HN2.out; omega)] at h
    have e : freeP v.ins 0 = [] := rfl
    rw [e, List.append_nil]; exact h)
   have hjn : ¬ (n2 : Int) < n2 := by omega
   have t0 := HO.out.t.cell 0
   have tlt := HO.out.t.lt
   simp only [List.getElem?_cons_zero] at t0
   clear HO Hm Hj
   go_wp2
   clear t0 tlt
   go_loopg [34] n (fun gg iv wr => ∃ (i : Nat) (lv : Value), Hid (i + gg = n) ∧ iv = .int .i64 i ∧ Hid (Oc w.heap.size [.slice A n c] [.slice A1 n1 c1, .slice A2 n2 c2, .slice A3 n3 c3, .slice A4 n4 c4] ob g mb lv (insP v.ins ++ freeP v.ins i) (fun x => (insP v.ins).any fun k => x == (k : Int)) m wr) ∧ Hid (Below w.heap.size w wr))
   case atStart => exact ⟨0, _, Lib.hid (Nat.zero_add _), rfl, HO1, HB⟩
   case round =>
    obtain ⟨wo, rfl⟩ : ∃ x : World, x = wr := ⟨_, rfl⟩
    obtain ⟨i, lv, Hi, rfl, O1, HBA⟩ := hrel
    clear HO1 HB
    by_cases hi : i < n
    ·have hin : (i : Int) < n := by omega
     have hwi : (Lit.int .i64 (i : Int)).wf = true := wf_of (by omega) (by omega)
     have hlk := O1.out.mp.look Tryz.underlying3 Tryz.underlying4 (zeroBoolE _) Tryz.underlying120 hwi
     have bm0 := O1.out.bm.cell 0
     have blt := O1.out.bm.lt
     simp only [List.getElem?_cons_zero] at bm0
     obtain ⟨kb, hkb⟩ : ∃ x, x = (insP v.ins).any fun k => (i : Int) == (k : Int) := ⟨_, rfl⟩
     rw [← hkb] at hlk
     have HKB := Lib.hid hkb
     clear hkb
     cases kb
     ·have HE : Hid (freeP v.ins (i + 1) = freeP v.ins i ++ [i]) := Lib.hid (by unfold freeP; rw [List.range_succ, List.filter_append, List.filter_cons, any_insP HKB.out]; simp)
      have hlj : (insP v.ins ++ freeP v.ins i).length = (insP v.ins ++ freeP v.ins i).length := rfl
      obtain ⟨j, hj⟩ : ∃ x, x = (insP v.ins ++ freeP v.ins i).length := ⟨_, rfl⟩
      have HLJ := Lib.hid hj.symm
      have hlj := hj.symm
      have hj8 : j ≤ 16 := by
       rw [hj, List.length_append]
       have h1 := ordP_len WP.out.ok
       unfold ordP at h1
       rw [List.length_append] at h1
       have h3 : (freeP v.ins i).length ≤ i := by unfold freeP; exact Nat.le_trans (List.length_filter_le _ _) (by simp)
       have := HLen.out
       omega
      clear hj
      have hown8 := O1.out.own
      rw [hlj] at hown8
      obtain ⟨lA, lc, rfl, hl1, hl2, _⟩ := own_form hown8
      have HO8 := Lib.hid hown8
      clear hown8
      have o0 := O1.out.bo.cell 0
      have olt := O1.out.bo.lt
      simp only [List.getElem?_cons_zero] at o0
      clear hlj
      go_upto_region 13 with fail
      have HW8 : Hid (w.heap.size ≤ wo.heap.size) := Lib.hid HBA.out.size
      have O8 := Lib.hid (O1.out.move ((Below.refl _ wo).alloc (Nat.le_refl _) (.cells #[.int .i64 (i : Int)] 3)))
      go_upto_region 14 with (at_builtin; refine wpList_append_own_at _ rfl _ _ 27 rfl w.heap.size 3 i0 (.int .i64 0) 1 8 Tryz.underlying27 Hi0.out Hz0.out Hz1.out Hz2.out rfl (by decide) _ _ _ rfl (HO8.out.alloc _) ⟨wo.heap.size, 0, none⟩ 1 1 [.int .i64 (i : Int)] rfl rfl ?d17 ?d27 ?d37 ?d47 ?d57 ?_)
      try (case d17 => exact cell_one_new _ _ _)
      try (case d27 => simp [Value.oneCell'])
      try (case d37 => unfold maxLen; omega)
      try (case d47 => omega)
      try (case d57 => (try simp); have := HW8.out; omega)
      intro lv' w9 hown9 hg9 _ hat9
      obtain ⟨lA2, lc2, rfl, hl3, hl4, _⟩ := own_form hown9
      have P9 := Lib.hid (O8.out.push (x := i) (lv' := .slice lA2 (j + 1 : Nat) lc2) (wy := w9) (by rw [HLJ.out]; simpa using hown9) hg9)
      have hb9 : Whole w9 ob 27 [.slice lA j lc] := Far.whole (D := fun i => (Value.slice lA j lc).ownBlock = some i) (Far.of_grown hg9 fun i e => e.symm) O8.out.bo fun e => (O8.out.ni _ e).2.2.1 rfl
      have o9 := hb9.cell 0
      have f9 := hb9.free 0
      have olt9 := hb9.lt
      simp only [List.getElem?_cons_zero] at o9
      have HB9 := Lib.hid (((HBA.out.trans (((Below.refl _ wo).alloc (Nat.le_refl _) (.cells #[.int .i64 (i : Int)] 3)).mono HBA.out.size)).trans (below_of_grown hg9 (by simp; have := HW8.out; omega) fun k e => (O8.out.own.lt k e).1)).setCell (p := ⟨ob, 0, none⟩) O8.out.lo.1 (.slice lA2 (j + 1 : Nat) lc2))
      clear hb9
      clear hown9 hg9 hat9 o0 olt bm0 blt hlk
      go_wp2
      go_roundg (gk - 1)
      case measure => have := Hi.out; omega
      case rel => exact ⟨i + 1, _, Lib.hid (by have := Hi.out; omega), by go_num, Lib.hid (by rw [HE.out, ← List.append_assoc]; exact P9.out), HB9⟩
     ·have HE : Hid (freeP v.ins (i + 1) = freeP v.ins i) := Lib.hid (by unfold freeP; rw [List.range_succ, List.filter_append, List.filter_cons, any_insP HKB.out]; simp)
      go_wp2
      go_roundg (gk - 1)
      case measure => have := Hi.out; omega
      case rel => exact ⟨i + 1, _, Lib.hid (by have := Hi.out; omega), by go_num, Lib.hid (by rw [HE.out]; exact O1.out), HBA⟩
    ·obtain rfl : n = i := by have := Hi.out; omega
     have hin : ¬ (n : Int) < n := by omega
     have HOE : Hid (Oc w.heap.size [.slice A n c] [.slice A1 n1 c1, .slice A2 n2 c2, .slice A3 n3 c3, .slice A4 n4 c4] ob g mb lv (ordP v.ins ps.length) (fun x => (insP v.ins).any fun k => x == (k : Int)) m wo) := Lib.hid (by rw [HLen.out]; exact O1.out)
     have hown := HOE.out.own
     rw [ordP_len WP.out.ok, HLen.out] at hown
     obtain ⟨lA, lc, rfl, hl1, hl2, _⟩ := own_form hown
     have o0 := HOE.out.bo.cell 0
     have olt := HOE.out.bo.lt
     have t0 := HOE.out.t.cell 0
     have tlt := HOE.out.t.lt
     simp only [List.getElem?_cons_zero] at t0 o0
     have HMANY := Lib.hid (tree_parts WP.out.tree).2.1
     clear hown Hi O1
     go_wp2
     clear t0 tlt o0 olt
     go_loopg [4, 51] n (fun gg sv iv wr => ∃ (i : Nat), Hid (i + gg = n) ∧ iv = .int .i64 i ∧ sv = .int .i64 ((n + flagsBef ps i : Nat) : Int) ∧ Hid (Oc w.heap.size [.slice A n c] [.slice A1 n1 c1, .slice A2 n2 c2, .slice A3 n3 c3, .slice A4 n4 c4] ob g mb (.slice lA n lc) (ordP v.ins ps.length) (fun x => (insP v.ins).any fun k => x == (k : Int)) m wr) ∧ Hid (Below w.heap.size w wr))
     case atStart => exact ⟨0, Lib.hid (Nat.zero_add _), rfl, rfl, HOE, HBA⟩
     case round =>
      obtain ⟨i, Hi, rfl, rfl, HR, HBR⟩ := hrel
      clear HOE HBA
      by_cases hi : i < n
      ·obtain ⟨b2, o2, p, F, fn, fc, kd, pa, pf, pno, G, gq, gd, rfl, hbS2, hp, hP, hcell⟩ := (HT.out.under HBR.out HS.out).at_ hi
       have hpk : pkOf ps (i : Int) = p := pkOf_at hp
       have hfl : p.fs.length = fn := by have := hP.fs.row.len; simpa [strs] using this
       have g0 := hcell 0 (by omega); have g1 := hcell 1 (by omega); have g2 := hcell 2 (by omega); have g3 := hcell 3 (by omega); have g4 := hcell 4 (by omega); have g5 := hcell 5 (by omega); have g6 := hcell 6 (by omega); have g7 := hcell 7 (by omega); have g8 := hcell 8 (by omega); have g9 := hcell 9 (by omega); have g10 := hcell 10 (by omega); have g11 := hcell 11 (by omega); have g12 := hcell 12 (by omega); have g13 := hcell 13 (by omega)
       unfold pkRow ndRow at g0 g1 g2 g3 g4 g5 g6 g7 g8 g9 g10 g11 g12 g13
       simp only [List.getElem?_cons_zero, List.getElem?_cons_succ, Nat.add_zero] at g0 g1 g2 g3 g4 g5 g6 g7 g8 g9 g10 g11 g12 g13
       have hbl2 : b2 < wr.heap.size := Nat.lt_of_lt_of_le (HS.out _ hbS2) HBR.out.size
       have hfb : flagsBef ps i + fn ≤ flagsBef ps n := by
        have h := flagsBef_mono (ps := ps) (i := i + 1) (j := n) (by omega)
        simp only [flagsBef] at h
        rw [hpk, hfl] at h; exact h
       have hsn : flagsBef ps (i + 1) = flagsBef ps i + fn := by simp only [flagsBef]; rw [hpk, hfl]
       have HSN := Lib.hid hsn
       have h14 : n + flagsBef ps i + fn ≤ 14 := by
        have := HMANY.out
        unfold manyC at this
        rw [HLen.out] at this
        omega
       have hsum : ((n + flagsBef ps i : Nat) : Int) + (fn : Int) = ((n + flagsBef ps (i + 1) : Nat) : Int) := by rw [hsn]; push_cast; omega
       have hin2 : (i : Int) < n := by omega
       have hi0' : (0 : Int) ≤ (i : Int) := by omega
       clear hcell hp hP hpk hfl hbS2 hfb hsn
       have hal : Below wr.heap.size wr (wr.alloc (.cells #[.string ⟨p.nm.toArray⟩, .int .i64 p.ver, .int .i64 p.slot, .slice F fn fc, .int .i64 kd, .string ⟨pa.nm.toArray⟩, .int .i64 pa.op, .int .i64 pa.ver, .int .i64 pa.slot, .string ⟨pa.fl.toArray⟩, .bool pa.on, .string ⟨pf.toArray⟩, .bool pno, .slice G gq gd] 101)) := (Below.refl _ wr).alloc (Nat.le_refl _) _
       have C1 := Lib.hid (HR.out.move hal)
       have HBN := Lib.hid (HBR.out.trans (hal.mono HBR.out.size))
       have HB1 := Lib.hid (Whole.new wr wr.heap.size 101 [.string ⟨p.nm.toArray⟩, .int .i64 p.ver, .int .i64 p.slot, .slice F fn fc, .int .i64 kd, .string ⟨pa.nm.toArray⟩, .int .i64 pa.op, .int .i64 pa.ver, .int .i64 pa.slot, .string ⟨pa.fl.toArray⟩, .bool pa.on, .string ⟨pf.toArray⟩, .bool pno, .slice G gq gd] rfl)
       have p3 := HB1.out.cell 3
       simp only [qgz, qgs] at p3
       clear hal HR
       obtain ⟨sm, hsm⟩ : ∃ x : Nat, x = n + flagsBef ps i := ⟨_, rfl⟩
       rw [← hsm] at hsum h14 ⊢
       have hsb : (sm : Int) + fn ≤ 100000 := by omega
       clear hsm
       go_wp2
       go_roundg (gk - 1)
       case measure => have := Hi.out; omega
       case rel => exact ⟨i + 1, Lib.hid (by have := Hi.out; omega), by go_num, by (push_cast; first | rfl | (congr 1; push_cast at hsum; omega)), C1, HBN⟩
      ·obtain rfl : n = i := by have := Hi.out; omega
       have hin2 : ¬ (n : Int) < n := by omega
       have HMC : Hid (n + flagsBef ps n = manyC ps) := Lib.hid (by unfold manyC; rw [HLen.out])
       obtain ⟨sm, hsm⟩ : ∃ x : Nat, x = n + flagsBef ps n := ⟨_, rfl⟩
       rw [← hsm] at HMC ⊢
       clear hsm
       go_wp2
       go_ret2
       exact ⟨w.heap.size, ob, g, mb, _, m, Nat.le_refl _, by rw [HMC.out]; rfl, HR.out, HBR.out⟩
end Go.Proofs.YtedbhlgjcnnknaaGreatDoor

namespace Qm
open Go

/-! The library's Cut and SplitN are cutAt and cut4. -/

theorem cut_one (c : UInt8) (l : W) : Lib.cut l [c] = match cutAt (· == c) l with | none => (l, [], false) | some (a, _, d) => (a, d, true) := by
 have hi := index_cut c l
 unfold Lib.cut
 cases h : cutAt (· == c) l with
 | none => rw [h] at hi; rw [hi]; rfl
 | some t =>
  obtain ⟨a, b, d⟩ := t
  obtain ⟨e, hb, ha⟩ := of_cutAt_some h
  rw [h] at hi
  simp only [] at hi
  rw [hi, if_pos (by omega)]
  have h1 : l.take ((a.length : Int).toNat) = a := by rw [e]; simp
  have h2 : l.drop ((a.length : Int).toNat + [c].length) = d := by rw [e]; simp [List.drop_append]
  rw [h1, h2]
theorem splitK_step (c : UInt8) (k : Nat) (l : W) : Lib.splitK [c] 0 (k + 1) l = match cutAt (· == c) l with | none => [l] | some (a, _, d) => a :: Lib.splitK [c] 0 k d := by
 have hi := index_cut c l
 rw [Lib.splitK]
 cases h : cutAt (· == c) l with
 | none => rw [h] at hi; rw [hi]; rfl
 | some t =>
  obtain ⟨a, b, d⟩ := t
  obtain ⟨e, hb, ha⟩ := of_cutAt_some h
  rw [h] at hi
  simp only [] at hi
  have h0 : ((a.length : Int) == -1) = false := by simp
  have h1 : l.take ((a.length : Int).toNat + 0) = a := by rw [e]; simp
  have h2 : l.drop ((a.length : Int).toNat + [c].length) = d := by rw [e]; simp [List.drop_append]
  rw [hi, h0, h1, h2]; rfl
theorem splitK_len (c : UInt8) : ∀ (k : Nat) (l : W), (Lib.splitK [c] 0 k l).length ≤ k + 1
 | 0, l => by simp [Lib.splitK]
 | k + 1, l => by
  rw [splitK_step]
  cases cutAt (· == c) l with
  | none => simp
  | some t =>
   obtain ⟨a, b, d⟩ := t
   have := splitK_len c k d
   simp only [List.length_cons]; omega
theorem splitN_some {l a b c d e : W} (h : cut4 l = some (a, b, c, d, e)) : Lib.splitK [32] 0 (min 5 (l.length + 1) - 1) l = [a, b, c, d, e] := by
 have hl : 4 ≤ l.length := by rw [cut4_back h]; simp; omega
 rw [show min 5 (l.length + 1) - 1 = 3 + 1 by omega]
 unfold cut4 at h
 split at h
 ·cases h
 ·rename_i a' x1 l1 h1
  split at h
  ·cases h
  ·rename_i b' x2 l2 h2
   split at h
   ·cases h
   ·rename_i c' x3 l3 h3
    split at h
    ·cases h
    ·rename_i d' x4 l4 h4
     simp only [Option.some.injEq, Prod.mk.injEq] at h
     obtain ⟨rfl, rfl, rfl, rfl, rfl⟩ := h
     rw [splitK_step, h1]
     simp only []
     rw [splitK_step, h2]
     simp only []
     rw [splitK_step, h3]
     simp only []
     rw [splitK_step, h4]
     rfl
theorem splitN_none {l : W} (h : cut4 l = none) : (Lib.splitK [32] 0 (min 5 (l.length + 1) - 1) l).length ≠ 5 := by
 by_cases hl : l.length < 4
 ·have := splitK_len 32 (min 5 (l.length + 1) - 1) l
  omega
 ·rw [show min 5 (l.length + 1) - 1 = 3 + 1 by omega, splitK_step]
  unfold cut4 at h
  cases h1 : cutAt (· == 32) l with
  | none => simp
  | some t1 =>
   obtain ⟨a, x1, l1⟩ := t1
   rw [h1] at h
   simp only [] at h ⊢
   rw [splitK_step]
   cases h2 : cutAt (· == 32) l1 with
   | none => simp
   | some t2 =>
    obtain ⟨b, x2, l2⟩ := t2
    rw [h2] at h
    simp only [] at h ⊢
    rw [splitK_step]
    cases h3 : cutAt (· == 32) l2 with
    | none => simp
    | some t3 =>
     obtain ⟨c, x3, l3⟩ := t3
     rw [h3] at h
     simp only [] at h ⊢
     rw [splitK_step]
     cases h4 : cutAt (· == 32) l3 with
     | none => simp
     | some t4 =>
      obtain ⟨d, x4, l4⟩ := t4
      rw [h4] at h
      cases h
end Qm

/- strings.Cut at a line's end, strings.SplitN into five. -/
namespace Go.Proofs.YtedbhlgjcnnknaaGreatDoor
open Go.RowKit Qm

theorem cut_some {l a d : Qm.W} {x : UInt8} (h : cutAt (· == 10) l = some (a, x, d)) (w : World) (hs : l.length < 4294967281) (hM : MaxW w) :
  Calls Tryz.prog 105 #[.string ⟨l.toArray⟩, .string ⟨#[10]⟩] w fun e w' => e = .returned (.tuple #[.string ⟨a.toArray⟩, .string ⟨d.toArray⟩, .bool true]) ∧ Below w.heap.size w w' := by
 obtain ⟨m, hm⟩ := hM
 have hc := cut_one 10 l
 rw [h] at hc
 refine (Tryz.strings_Cut ⟨l.toArray⟩ ⟨#[10]⟩ m w (by rw [bsz]; exact hs) hm).mono ?_
 rintro e w' ⟨he, n, rfl⟩
 have hc' : Lib.cut (⟨l.toArray⟩ : ByteArray).data.toList (⟨#[10]⟩ : ByteArray).data.toList = (a, d, true) := hc
 rw [hc'] at he
 exact ⟨he, below_drewN (Below.refl _ _) n⟩
theorem cut_none {l : Qm.W} (h : cutAt (· == 10) l = none) (w : World) (hs : l.length < 4294967281) (hM : MaxW w) :
  Calls Tryz.prog 105 #[.string ⟨l.toArray⟩, .string ⟨#[10]⟩] w fun e w' => e = .returned (.tuple #[.string ⟨l.toArray⟩, .string ⟨#[]⟩, .bool false]) ∧ Below w.heap.size w w' := by
 obtain ⟨m, hm⟩ := hM
 have hc := cut_one 10 l
 rw [h] at hc
 refine (Tryz.strings_Cut ⟨l.toArray⟩ ⟨#[10]⟩ m w (by rw [bsz]; exact hs) hm).mono ?_
 rintro e w' ⟨he, n, rfl⟩
 have hc' : Lib.cut (⟨l.toArray⟩ : ByteArray).data.toList (⟨#[10]⟩ : ByteArray).data.toList = (l, [], false) := hc
 rw [hc'] at he
 exact ⟨he, below_drewN (Below.refl _ _) n⟩

theorem splitN_bytes (l : Qm.W) (k : Nat) : (Lib.splitB ⟨#[32]⟩ 0 k ⟨l.toArray⟩).map (·.data.toList) = Lib.splitK [32] 0 k l := Lib.splitB_data ⟨#[32]⟩ 0 k ⟨l.toArray⟩
theorem splitN_five {l a b c d f : Qm.W} (h : cut4 l = some (a, b, c, d, f)) (w : World) (hs : l.length < 4294967281) (hM : MaxW w) :
  Calls Tryz.prog 106 #[.string ⟨l.toArray⟩, .string ⟨#[32]⟩, .int .i64 5] w fun e w' => e = .returned (.slice (some ⟨w.heap.size, 0, none⟩) 5 5) ∧ w' = w.alloc (.cells (strs [a, b, c, d, f]).toArray 9) := by
 obtain ⟨m, hm⟩ := hM
 have hp := splitN_some h
 have hl : 4 ≤ l.length := by rw [cut4_back h]; simp; omega
 have hb := splitN_bytes l (min 5 (l.length + 1) - 1)
 rw [hp] at hb
 refine (Tryz.strings_SplitN ⟨l.toArray⟩ ⟨#[32]⟩ 5 m w (by rw [bsz]; exact hs) hm (by decide) (by decide) (by decide)).mono ?_
 rw [bsz]
 rintro e w' ⟨he, hw⟩
 have hn : min 5 (l.length + 1) = 5 := by omega
 have hlen : (Lib.splitB ⟨#[32]⟩ 0 (min 5 (l.length + 1) - 1) ⟨l.toArray⟩).length = 5 := by rw [← List.length_map (f := (·.data.toList)), hb]; rfl
 rw [hlen, hn] at he
 refine ⟨he, ?_⟩
 rw [hw]
 unfold Lib.cellsOf
 rw [hlen, strs_of hb, hn]
 simp
theorem splitN_not {l : Qm.W} (h : cut4 l = none) (w : World) (hs : l.length < 4294967281) (hM : MaxW w) :
  Calls Tryz.prog 106 #[.string ⟨l.toArray⟩, .string ⟨#[32]⟩, .int .i64 5] w fun e w' => (∃ m cap : Nat, e = .returned (.slice (some ⟨w.heap.size, 0, none⟩) m cap) ∧ m ≠ 5 ∧ m ≤ 5) ∧ Below w.heap.size w w' := by
 obtain ⟨m, hm⟩ := hM
 have hp := splitN_none h
 have hb := splitN_bytes l (min 5 (l.length + 1) - 1)
 have hk := splitK_len 32 (min 5 (l.length + 1) - 1) l
 refine (Tryz.strings_SplitN ⟨l.toArray⟩ ⟨#[32]⟩ 5 m w (by rw [bsz]; exact hs) hm (by decide) (by decide) (by decide)).mono ?_
 rw [bsz]
 rintro e w' ⟨he, rfl⟩
 have hlen : (Lib.splitB ⟨#[32]⟩ 0 (min 5 (l.length + 1) - 1) ⟨l.toArray⟩).length = (Lib.splitK [32] 0 (min 5 (l.length + 1) - 1) l).length := by rw [← List.length_map (f := (·.data.toList)), hb]
 exact ⟨⟨_, _, he, by rw [hlen]; exact hp, by rw [hlen]; omega⟩, (Below.refl _ _).alloc (Nat.le_refl _) _⟩
end Go.Proofs.YtedbhlgjcnnknaaGreatDoor
