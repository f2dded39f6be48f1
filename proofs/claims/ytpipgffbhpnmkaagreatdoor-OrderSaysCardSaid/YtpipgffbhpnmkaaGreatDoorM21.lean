/- Parts of the proof: walks and plain laws, side by side. -/
import Derived.Test.YtpipgffbhpnmkaaGreatDoorM9
import Derived.Deep.LoopGhost
import Derived.Test.YtpipgffbhpnmkaaGreatDoorProg
import Derived.Test.YtpipgffbhpnmkaaGreatDoorM15
import Derived.Test.YtpipgffbhpnmkaaGreatDoorM20
import Derived.Test.YtpipgffbhpnmkaaGreatDoorM1
import Derived.Test.YtpipgffbhpnmkaaGreatDoorM2
import Derived.Test.YtpipgffbhpnmkaaGreatDoorM3
import Derived.Laws.EntriesVeiled
import Derived.Deep.RegionLaw
import Derived.Deep.Cut
import Derived.Lib.SlTrimSet
import Derived.Test.YtpipgffbhpnmkaaGreatDoorM4
import Derived.Shelf.Strings.SlTrimAscii
set_option linter.unusedVariables false
set_option linter.unusedSimpArgs false
set_option linter.unusedSectionVars false
/- Lists held against each other, element by element. -/
namespace Go.Proofs.YtpipgffbhpnmkaaGreatDoor
open Go.RowKit Qm
def eqL {α : Type} (sm : α → α → Bool) : List α → List α → Bool
 | [], [] => true
 | x :: r, y :: s => sm x y && eqL sm r s
 | _, _ => false
theorem eqL_iff {α : Type} {sm : α → α → Bool} (h : ∀ x y, sm x y = true ↔ x = y) : ∀ {xs ys : List α}, eqL sm xs ys = true ↔ xs = ys
 | [], [] => by simp [eqL]
 | [], _ :: _ => by simp [eqL]
 | _ :: _, [] => by simp [eqL]
 | x :: r, y :: s => by simp only [eqL, Bool.and_eq_true, h, eqL_iff h, List.cons.injEq]
theorem eqL_len {α : Type} {sm : α → α → Bool} : ∀ {xs ys : List α}, xs.length ≠ ys.length → eqL sm xs ys = false
 | [], [], h => absurd rfl h
 | [], _ :: _, _ => rfl
 | _ :: _, [], _ => rfl
 | x :: r, y :: s, h => by
  simp only [eqL]
  rw [eqL_len (by simpa using h), Bool.and_false]
theorem eqL_step {α : Type} {sm : α → α → Bool} {xs ys : List α} {j : Nat} {x y : α} (hx : xs[j]? = some x) (hy : ys[j]? = some y) : eqL sm (xs.drop j) (ys.drop j) = (sm x y && eqL sm (xs.drop (j + 1)) (ys.drop (j + 1))) := by
 obtain ⟨h1, rfl⟩ := List.getElem?_eq_some_iff.1 hx
 obtain ⟨h2, rfl⟩ := List.getElem?_eq_some_iff.1 hy
 rw [List.drop_eq_getElem_cons h1, List.drop_eq_getElem_cons h2]
 rfl
def AsksEq {α : Type} (P : Program) (w : World) (F : FuncId) (R : List Value → α → Prop) (sm : α → α → Bool) : Prop :=
 (∀ (args : Array Value) (W : World), (callFunc F args).run P W = .ok (.enter F args) W) ∧
  ∀ (x y : α) (cx cy : List Value) (W : World), Below w.heap.size w W → R cx x → R cy y → Calls P F #[.agg cx.toArray, .agg cy.toArray] W fun e w' => e = .returned (.bool (sm x y)) ∧ Below W.heap.size W w'
end Go.Proofs.YtpipgffbhpnmkaaGreatDoor

/- slices.EqualFunc of slices whose elements have 4 cells. (Printed by wip/bin/mkeqf.py.) -/
namespace Go.Proofs.YtpipgffbhpnmkaaGreatDoor
open Go.RowKit Qm

def Shape_A (x : List Value) : Prop := ∃ (x0 : Bool) (x1 : Int) (x2a : Option Addr) (x2n x2c : Nat) (x3 : Int), x = [.bool x0, .int .i64 x1, .slice x2a x2n x2c, .int .i64 x3]
set_option maxRecDepth 100000 in
set_option maxHeartbeats 3200000 in
theorem equalF_A {α : Type} (R : List Value → α → Prop) (sm : α → α → Bool) (A B : Option Addr) (n c m d : Nat) (xs ys : List α) (F : FuncId) (w : World) (S : Nat → Prop) (hK : RSeq 4 R w S A n xs) (hL : RSeq 4 R w S B m ys) (hS : ∀ k, S k → k < w.heap.size) (hn : n ≤ maxLen) (hm : m ≤ maxLen) (hF : AsksEq Tryz.prog w F R sm) (hsh : ∀ x y, R x y → Shape_A x) :
  Calls Tryz.prog 57 #[.slice A n c, .slice B m d, .func (.func F) #[] #[]] w fun e w' => e = .returned (.bool (eqL sm xs ys)) ∧ Below w.heap.size w w' := by
 unfold maxLen at hn hm
 have HK := qh hK; have HL := qh hL; have HS := qh hS; have HF := qh hF; clear hK hL hS hF
 by_cases hnm : n = m
 ·subst hnm
  go_enter Tryz.func57, Tryz.ntmps57
  go_wp2
  go_loopg [17] n (fun g iv wr => ∃ (j : Nat), Hid (j + g = n) ∧ iv = .int .i64 j ∧ Hid (eqL sm xs ys = eqL sm (xs.drop j) (ys.drop j)) ∧ Below w.heap.size w wr)
  case atStart => exact ⟨0, qh (Nat.zero_add _), rfl, qh rfl, Below.refl _ _⟩
  case round =>
   obtain ⟨j, Hj, rfl, Hcl, hb⟩ := hrel
   have HBr := qh hb; clear hb
   by_cases hj : j < n
   ·obtain ⟨b, o, x, y, rfl, hb, hy, hxy, hxl, hcell⟩ := (HK.out.keep (w' := wr) (fun p hp => HBr.out.cell (HS.out _ hp)) fun _ _ h => h).at_ hj (by decide)
    obtain ⟨b', o', x', y', rfl, hb', hy', hxy', hxl', hcell'⟩ := (HL.out.keep (w' := wr) (fun p hp => HBr.out.cell (HS.out _ hp)) fun _ _ h => h).at_ hj (by decide)
    have Hdr : Hid (eqL sm (xs.drop j) (ys.drop j) = (sm y y' && eqL sm (xs.drop (j + 1)) (ys.drop (j + 1)))) := qh (eqL_step hy hy')
    have hlt : b' < wr.heap.size := ql (HS.out _ hb') HBr.out.size
    obtain ⟨x0, x1, x2a, x2n, x2c, x3, rfl⟩ := hsh _ _ hxy
    obtain ⟨y0, y1, y2a, y2n, y2c, y3, rfl⟩ := hsh _ _ hxy'
    have g0 := hcell 0 (by omega); have g1 := hcell 1 (by omega); have g2 := hcell 2 (by omega); have g3 := hcell 3 (by omega)
    have k0 := hcell' 0 (by omega); have k1 := hcell' 1 (by omega); have k2 := hcell' 2 (by omega); have k3 := hcell' 3 (by omega)
    simp only [List.getElem?_cons_zero, List.getElem?_cons_succ, Nat.add_zero] at g0 g1 g2 g3 k0 k1 k2 k3
    clear hcell hcell' hy hy'
    have hW1 : Below wr.heap.size wr ((wr.alloc (.cells #[.bool x0, .int .i64 x1, .slice x2a x2n x2c, .int .i64 x3] 48)).alloc (.cells #[.bool y0, .int .i64 y1, .slice y2a y2n y2c, .int .i64 y3] 48)) := ((Below.refl _ wr).alloc (qr _) _).alloc (by simp) _
    have hcall := HF.out.2 _ _ _ _ _ (HBr.out.trans (hW1.mono HBr.out.size)) hxy hxy'
    have henter := HF.out.1
    have HB2 := qh (HBr.out.trans (hW1.mono HBr.out.size))
    clear hW1 hxy hxy' hxl hxl'
    generalize sm y y' = q at hcall Hdr
    have Hcall := qh hcall; clear hcall
    cases q
    ·go_wp2_with fail
     refine Hcall.out.mono ?_
     rintro e w' ⟨rfl, hb'⟩
     have HB3 := qh (HB2.out.trans (hb'.mono HB2.out.size)); clear hb'
     go_wp2_with fail
     go_ret
     exact ⟨ret_bool (by rw [Hcl.out, Hdr.out]; rfl), HB3.out⟩
    ·go_wp2_with fail
     refine Hcall.out.mono ?_
     rintro e w' ⟨rfl, hb'⟩
     have HB3 := qh (HB2.out.trans (hb'.mono HB2.out.size)); clear hb'
     go_wp2_with fail
     go_roundg (gk - 1)
     case measure => have := Hj.out; omega
     case rel => exact ⟨j + 1, qh (by have := Hj.out; omega), by go_num, qh (by rw [Hcl.out, Hdr.out, Bool.true_and]), HB3.out⟩
   ·go_wp2_with fail
    go_ret
    refine ⟨ret_bool ?_, HBr.out⟩
    rw [Hcl.out, List.drop_of_length_le (by have := HK.out.len; omega), List.drop_of_length_le (by have := HL.out.len; omega)]; rfl
 ·have e1 : ((n : Int) != (m : Int)) = true := by simp; omega
  have e2 : ((n : Int) == (m : Int)) = false := by simp; omega
  have HE : Hid (eqL sm xs ys = false) := qh (eqL_len (by have := HK.out.len; have := HL.out.len; omega))
  go_enter Tryz.func57, Tryz.ntmps57
  go_wp2
  go_ret
  exact ⟨ret_bool HE.out.symm, Below.refl _ _⟩
end Go.Proofs.YtpipgffbhpnmkaaGreatDoor

/- slices.IndexFunc, slices.ContainsFunc of slices whose elements have 4 cells. (Printed by wip/bin/mkcf.py.) -/
namespace Go.Proofs.YtpipgffbhpnmkaaGreatDoor
open Go.RowKit Qm

end Go.Proofs.YtpipgffbhpnmkaaGreatDoor

/- The document's own SameMember, SameActs, walked. -/
namespace Go.Proofs.YtpipgffbhpnmkaaGreatDoor
open Go.RowKit Qm

set_option maxRecDepth 100000 in
set_option maxHeartbeats 3200000 in
theorem rsameM_any (m o : Mem) (S : Nat → Prop) (A B : Option Addr) (n c k d : Nat) (w : World) (hA : RBools w S A n m.on) (hB : RBools w S B k o.on) (hn : n ≤ maxLen) (hk : k ≤ maxLen) (hS : ∀ k, S k → k < w.heap.size) :
  Calls Tryz.prog 11 #[.agg #[.int .i64 m.pl, .slice A n c], .agg #[.int .i64 o.pl, .slice B k d]] w fun e w' => e = .returned (.bool (decide (m = o))) ∧ Below w.heap.size w w' := by
 have hb2 : Below w.heap.size w ((w.alloc (.cells #[.int .i64 m.pl, .slice A n c] 33)).alloc (.cells #[.int .i64 o.pl, .slice B k d] 33)) := ((Below.refl _ w).alloc (qr _) _).alloc (by simp) _
 have HB := qh hb2
 have Heq := qh (fun wx (hb : Below w.heap.size w wx) => equalB_any A B n k c d m.on o.on wx S (Row.below hA hb hS) (Row.below hB hb hS) hn hk)
 obtain ⟨pl, on⟩ := m
 obtain ⟨pl2, on2⟩ := o
 have HD : Hid (decide ((⟨pl, on⟩ : Mem) = ⟨pl2, on2⟩) = (decide (pl = pl2) && (on == on2))) := qh (by
  rw [Bool.eq_iff_iff, Bool.and_eq_true, decide_eq_true_eq, decide_eq_true_eq, beq_iff_eq, Mem.mk.injEq])
 generalize decide ((⟨pl, on⟩ : Mem) = ⟨pl2, on2⟩) = r at HD ⊢
 dsimp only at Heq ⊢ HB
 generalize (on == on2) = q at Heq HD
 clear hA hB hS hb2
 by_cases hp : pl = pl2
 ·have hp1 : (pl == pl2) = true := by simpa using hp
  have HR : Hid (r = q) := qh (by rw [HD.out, decide_eq_true hp]; rfl)
  clear hp HD
  go_enter Tryz.func11, Tryz.ntmps11
  go_wp2_with (first | (go_at_call 40; refine (Heq.out _ HB.out).mono ?_; rintro e w2 ⟨rfl, nq, rfl⟩; refine Hid.out ?_))
  refine qh ?_
  go_wp2
  go_ret
  exact ⟨ret_bool HR.out.symm, below_drewN HB.out nq⟩
 ·have hp1 : (pl == pl2) = false := by simpa using hp
  have HR : Hid (r = false) := qh (by rw [HD.out, decide_eq_false hp]; rfl)
  clear hp HD
  go_enter Tryz.func11, Tryz.ntmps11
  go_wp2
  go_ret
  exact ⟨ret_bool HR.out.symm, HB.out⟩
def actB (a b : Ac) : Bool := (a.out == b.out) && ((a.cyc == b.cyc) && decide (a.m = b.m))
theorem actB_iff (a b : Ac) : actB a b = true ↔ a = b := by
 obtain ⟨o, m, c⟩ := a
 obtain ⟨o2, m2, c2⟩ := b
 unfold actB
 simp only [Bool.and_eq_true, beq_iff_eq, decide_eq_true_eq, Ac.mk.injEq]
 exact ⟨fun h => ⟨h.1, h.2.2, h.2.1⟩, fun h => ⟨h.1, h.2.2, h.2.1⟩⟩
set_option maxRecDepth 100000 in
set_option maxHeartbeats 3200000 in
theorem sameAc_any (S : Nat → Prop) (w0 : World) (a b : Ac) (cx cy : List Value) (hx : RAct w0 S cx a) (hy : RAct w0 S cy b) (hS : ∀ k, S k → k < w0.heap.size) (w : World) (hb : Below w0.heap.size w0 w) :
  Calls Tryz.prog 58 #[.agg cx.toArray, .agg cy.toArray] w fun e w' => e = .returned (.bool (actB a b)) ∧ Below w.heap.size w w' := by
 obtain ⟨A, n, c, rfl, hn, hc, hA⟩ := hx
 obtain ⟨B, k, d, rfl, hk, hd, hB⟩ := hy
 obtain ⟨o, m, z⟩ := a
 obtain ⟨o2, m2, z2⟩ := b
 have hb2 : Below w.heap.size w ((w.alloc (.cells #[.bool o, .int .i64 m.pl, .slice A n c, .int .i64 z] 48)).alloc (.cells #[.bool o2, .int .i64 m2.pl, .slice B k d, .int .i64 z2] 48)) := ((Below.refl _ w).alloc (qr _) _).alloc (by simp) _
 have HB := qh hb2
 have hb3 := hb.trans (hb2.mono hb.size)
 have Hs := qh (rsameM_any m m2 S A B n c k d _ (Row.below hA hb3 hS) (Row.below hB hb3 hS) (Nat.le_trans hn hc) (Nat.le_trans hk hd) (fun k hk => ql (hS k hk) hb3.size))
 have M0 := qh ((Whole.new w w.heap.size 48 [.bool o, .int .i64 m.pl, .slice A n c, .int .i64 z] rfl).alloc (.cells #[.bool o2, .int .i64 m2.pl, .slice B k d, .int .i64 z2] 48))
 have M1 := qh (Whole.new (w.alloc (.cells #[.bool o, .int .i64 m.pl, .slice A n c, .int .i64 z] 48)) (w.heap.size + 1) 48 [.bool o2, .int .i64 m2.pl, .slice B k d, .int .i64 z2] (by simp))
 have HR : Hid (actB ⟨o, m, z⟩ ⟨o2, m2, z2⟩ = ((o == o2) && ((z == z2) && decide (m = m2)))) := qh rfl
 generalize actB ⟨o, m, z⟩ ⟨o2, m2, z2⟩ = R at HR ⊢
 generalize decide (m = m2) = q at HR Hs
 have x0 := M0.out.cell 0; have x1 := M0.out.cell 1; have x2 := M0.out.cell 2; have x3 := M0.out.cell 3
 have y0 := M1.out.cell 0; have y1 := M1.out.cell 1; have y2 := M1.out.cell 2; have y3 := M1.out.cell 3
 simp only [qgz, qgs] at x0 x1 x2 x3 y0 y1 y2 y3
 clear hA hB hb hb2 hb3 hS
 generalize hoq : (o == o2) = ob at HR
 generalize hzq : (z == z2) = zb at HR
 cases ob
 ·have HE : Hid (R = false) := qh HR.out
  go_enter Tryz.func58, Tryz.ntmps58
  go_wp2
  go_ret
  exact ⟨ret_bool HE.out.symm, HB.out⟩
 ·cases zb
  ·have HE : Hid (R = false) := qh HR.out
   go_enter Tryz.func58, Tryz.ntmps58
   go_wp2
   go_ret
   exact ⟨ret_bool HE.out.symm, HB.out⟩
  ·have HE : Hid (R = q) := qh HR.out
   go_enter Tryz.func58, Tryz.ntmps58
   go_wp2_with (first | (go_at_call 11; refine Hs.out.mono ?_; rintro e w2 ⟨rfl, hb2⟩; refine Hid.out ?_))
   refine qh ?_
   have HB2 := qh (HB.out.trans (hb2.mono HB.out.size))
   clear hb2
   go_wp2
   go_ret
   exact ⟨ret_bool HE.out.symm, HB2.out⟩
theorem shape_act {w : World} {S : Nat → Prop} {x : List Value} {a : Ac} (h : RAct w S x a) : Shape_A x := by
 obtain ⟨A, n, c, rfl, _⟩ := h
 exact ⟨_, _, _, _, _, _, rfl⟩
set_option maxRecDepth 100000 in
set_option maxHeartbeats 3200000 in
theorem rsameActs_any (S : Nat → Prop) (A B : Option Addr) (n c m d : Nat) (xs ys : List Ac) (w : World) (hK : RSeq 4 (RAct w S) w S A n xs) (hL : RSeq 4 (RAct w S) w S B m ys) (hS : ∀ k, S k → k < w.heap.size) (hn : n ≤ maxLen) (hm : m ≤ maxLen) :
  Calls Tryz.prog 27 #[.slice A n c, .slice B m d] w fun e w' => e = .returned (.bool (eqL actB xs ys)) ∧ Below w.heap.size w w' := by
 have hq := equalF_A (RAct w S) actB A B n c m d xs ys 58 w S hK hL hS hn hm
  ⟨fun args W => by kernel_rfl, fun x y cx cy W hb h1 h2 => sameAc_any S w x y cx cy h1 h2 hS W hb⟩ (fun x y h => shape_act h)
 have Hq := qh hq
 clear hK hL hS hq
 go_enter Tryz.func27, Tryz.ntmps27
 go_wp2_with (first | (go_at_call 57; refine Hq.out.mono ?_; rintro e w2 ⟨rfl, hb2⟩; refine Hid.out ?_))
 refine qh ?_
 have HB2 := qh hb2
 clear hb2
 go_wp2
 go_ret
 exact ⟨rfl, HB2.out⟩
end Go.Proofs.YtpipgffbhpnmkaaGreatDoor

/- The document's reader with a stack answers as the program's, in plain words. -/
namespace Qm
open Go

structure Fr where
 k : Int
 f : W
 no : Bool
 ys : List Nd
end Qm

/- quartermasterref.ReadNeed: what stands open, in memory. -/
namespace Go.Proofs.YtpipgffbhpnmkaaGreatDoor
open Go.RowKit Qm

abbrev Hd := Option Addr × Nat
def obs (A : Option Addr) (hs : List Hd) : List Nat := (A :: hs.map (·.1)).filterMap fun a => a.map (·.block)
def frow (g : Fr) (h : Hd) : List Value := ndRow g.k At.zero g.f g.no h.1 g.ys.length h.2
def frows : List Fr → List Hd → List Value
 | g :: gs, h :: hs => frows gs hs ++ frow g h
 | _, _ => []
def KidOk (wx : World) (B : Nat) (F : Nat → Prop) (g : Fr) (h : Hd) : Prop :=
 ∃ cs : List (List Value), cs.length = g.ys.length ∧ wx.ownsRow B 40 10 (.slice h.1 g.ys.length h.2) g.ys.length cs.flatten ∧
  (∀ (i : Nat) (x : List Value) (y : Nd), cs[i]? = some x → g.ys[i]? = some y → RNd wx F x y) ∧ g.f.length ≤ maxLen
def KidsOk (wx : World) (B : Nat) (F : Nat → Prop) : List Fr → List Hd → Prop
 | [], [] => True
 | g :: gs, h :: hs => KidOk wx B F g h ∧ KidsOk wx B F gs hs
 | _, _ => False
def Fre (wx : World) (B : Nat) (A : Option Addr) (hs : List Hd) (i : Nat) : Prop := B ≤ i ∧ i < wx.heap.size ∧ i ∉ obs A hs
structure Op (B : Nat) (fs : List Fr) (hs : List Hd) (A : Option Addr) (c : Nat) (wx : World) : Prop where
 own : wx.ownsRow B 40 10 (.slice A fs.length c) fs.length (frows fs hs)
 kids : KidsOk wx B (Fre wx B A hs) fs hs
 nodup : (obs A hs).Nodup
section
variable {wx wy : World} {B : Nat} {F F' : Nat → Prop} {g : Fr} {gs fs : List Fr} {h : Hd} {hs : List Hd} {A : Option Addr} {c : Nat}
theorem nd2 {a b : Option Nat} {l : List Nat} : ((a.toList ++ (b.toList ++ l)).Nodup) ↔ (a.toList ++ l).Nodup ∧ (b.toList ++ l).Nodup ∧ (∀ q, a = some q → ¬ b = some q) := by
 cases a <;> cases b <;> simp [List.nodup_cons, eq_comm] <;> grind
end
end Go.Proofs.YtpipgffbhpnmkaaGreatDoor

/- The closures of quartermasterref.ReadNeed, walked. -/
namespace Go.Proofs.YtpipgffbhpnmkaaGreatDoor
open Go.RowKit Qm

section
variable {B BO BW c : Nat} {fs : List Fr} {hs : List Hd} {A : Option Addr} {wh : Value} {w w' : World}
end
structure Aft (B BO BW : Nat) (g : Fr) (gs : List Fr) (hd : Hd) (hs : List Hd) (b c : Nat) (wh : Value) (w wx w8 : World) : Prop where
 op : Op B (g :: gs) (hd :: hs) (some ⟨b, 0, none⟩) c wx
 lt : b < w8.heap.size
 cell : w8.cell? ⟨b, gs.length * 10 + 9, none⟩ = some (.slice hd.1 g.ys.length hd.2)
 free : w8.frozen? ⟨b, gs.length * 10 + 9, none⟩ = false
 far : Far (fun i => B ≤ i) w w8
end Go.Proofs.YtpipgffbhpnmkaaGreatDoor

/- quartermasterref.sized, walked. -/
namespace Qm
open Go
mutual
def szd : Nd → Nat → Int × Int
 | .mk _ _ _ _ ks, l => if l = 0 then (0, 99) else szdL ks (l - 1) 1 0
def szdL : List Nd → Nat → Int → Int → Int × Int
 | [], _, all, dp => (all, dp + 1)
 | k :: r, l, all, dp => if 100 < all + (szd k l).1 ∨ 50 < (szd k l).2 then (101, 99) else szdL r l (all + (szd k l).1) (max dp (szd k l).2)
end
theorem Nd.deep_pos (n : Nd) : 1 ≤ n.deep := by cases n; simp only [Nd.deep]; omega
theorem szdL_spec {ks : List Nd} {l : Nat} (ih : ∀ x ∈ ks, ((x.deep ≤ l ∧ x.nodes ≤ 100) ∧ szd x l = ((x.nodes : Int), (x.deep : Int))) ∨ (¬ (x.deep ≤ l ∧ x.nodes ≤ 100) ∧ (szd x l).2 = 99 ∧ 0 ≤ (szd x l).1 ∧ (szd x l).1 ≤ 101)) (hl : l ≤ 50) :
  ∀ (all dp : Nat), 1 ≤ all → all ≤ 100 → dp ≤ l → ((max dp (deepL ks) ≤ l ∧ all + nodesL ks ≤ 100) ∧ szdL ks l all dp = (((all + nodesL ks : Nat) : Int), ((max dp (deepL ks) + 1 : Nat) : Int))) ∨ (¬ (max dp (deepL ks) ≤ l ∧ all + nodesL ks ≤ 100) ∧ szdL ks l all dp = (101, 99)) := by
 induction ks with
 | nil => intro all dp h1 h2 h3; exact .inl ⟨by simp only [deepL, nodesL]; omega, by simp only [szdL, nodesL, deepL]; congr 1 <;> omega⟩
 | cons k r ihr =>
  intro all dp h1 h2 h3
  have ir := ihr fun x hx => ih x (List.mem_cons_of_mem _ hx)
  simp only [szdL, nodesL, deepL]
  rcases ih k (List.mem_cons_self ..) with ⟨⟨q1, q2⟩, e⟩ | ⟨q, e, _, _⟩
  ·rw [e]
   by_cases hc : 100 < all + k.nodes
   ·rw [if_pos (by simp only; omega)]
    exact .inr ⟨by omega, rfl⟩
   ·rw [if_neg (by simp only; omega)]
    have em : (max (dp : Int) (k.deep : Int)) = ((max dp k.deep : Nat) : Int) := by omega
    have ea : ((all : Int) + (k.nodes : Int)) = ((all + k.nodes : Nat) : Int) := by omega
    simp only [em, ea]
    rcases ir (all + k.nodes) (max dp k.deep) (by omega) (by omega) (by omega) with ⟨a, b⟩ | ⟨a, b⟩
    ·refine .inl ⟨by omega, ?_⟩
     rw [b]; congr 2 <;> omega
    ·exact .inr ⟨by omega, b⟩
  ·rw [if_pos (.inr (by omega))]
   exact .inr ⟨by omega, rfl⟩
theorem szd_spec : ∀ (n : Nd) (l : Nat), l ≤ 50 → ((n.deep ≤ l ∧ n.nodes ≤ 100) ∧ szd n l = ((n.nodes : Int), (n.deep : Int))) ∨ (¬ (n.deep ≤ l ∧ n.nodes ≤ 100) ∧ (szd n l).2 = 99 ∧ 0 ≤ (szd n l).1 ∧ (szd n l).1 ≤ 101) := by
 refine Nd.ind fun k a f no ks ih => ?_
 intro l hl
 simp only [szd, Nd.nodes, Nd.deep]
 by_cases h : l = 0
 ·rw [if_pos h]; exact .inr ⟨by omega, rfl, by simp only; omega, by simp only; omega⟩
 ·rw [if_neg h]
  have e1 : ((1 : Int)) = ((1 : Nat) : Int) := rfl
  rcases szdL_spec (l := l - 1) (fun x hx => ih x hx (l - 1) (by omega)) (by omega) 1 0 (by omega) (by omega) (by omega) with ⟨a, b⟩ | ⟨a, b⟩
  ·refine .inl ⟨by omega, ?_⟩
   have b' : szdL ks (l - 1) 1 0 = _ := b
   rw [b']; congr 2 <;> omega
  ·have b' : szdL ks (l - 1) 1 0 = _ := b
   rw [b']
   exact .inr ⟨by omega, rfl, by simp only; omega, by simp only; omega⟩
theorem szd_le (n : Nd) (l : Nat) (hl : l ≤ 50) : 0 ≤ (szd n l).1 ∧ (szd n l).1 ≤ 101 ∧ 0 ≤ (szd n l).2 ∧ (szd n l).2 ≤ 99 := by
 rcases szd_spec n l hl with ⟨⟨a, b⟩, e⟩ | ⟨_, e, h1, h2⟩
 ·rw [e]; simp only; omega
 ·omega
theorem szd_many (n : Nd) : (20 < (szd n 4).1 ∨ 4 < (szd n 4).2) ↔ tooMany n := by
 unfold tooMany
 rcases szd_spec n 4 (by omega) with ⟨⟨a, b⟩, e⟩ | ⟨h, e, _, _⟩
 ·rw [e]; simp only; omega
 ·rw [e]; have := n.deep_pos; omega
end Qm
namespace Go.Proofs.YtpipgffbhpnmkaaGreatDoor
open Go.RowKit Qm

set_option maxHeartbeats 1600000 in
theorem sized_any : ∀ (n : Nd) (S : Nat → Prop) (x : List Value) (l : Nat) (w : World), RNd w S x n → (∀ k, S k → k < w.heap.size) → l ≤ 4 →
  Calls Tryz.prog 78 #[.agg x.toArray, .int .i64 l] w fun e w' => e = .returned (.tuple #[.int .i64 (szd n l).1, .int .i64 (szd n l).2]) ∧ Below w.heap.size w w' := by
 refine Nd.ind fun k a f no ks ih => ?_
 intro S x l w hR hS hl
 have HI := qh ih; clear ih
 obtain ⟨A, n, c, rfl, hnc, hc, h1, h2, h3, hK⟩ := hR.open_
 clear hR
 have HS := qh hS; clear hS
 have HK := qh hK; clear hK
 unfold maxLen at hc
 clear h1 h2 h3
 unfold ndRow
 have HW := qh (Whole.new w _ 40 [.int .i64 k, .string ⟨a.nm.toArray⟩, .int .i64 a.op, .int .i64 a.ver, .int .i64 a.slot, .string ⟨a.fl.toArray⟩, .bool a.on, .string ⟨f.toArray⟩, .bool no, .slice A n c] rfl)
 have HB := qh ((Below.refl _ w).alloc (qr _) (.cells #[.int .i64 k, .string ⟨a.nm.toArray⟩, .int .i64 a.op, .int .i64 a.ver, .int .i64 a.slot, .string ⟨a.fl.toArray⟩, .bool a.on, .string ⟨f.toArray⟩, .bool no, .slice A n c] 40))
 by_cases h4 : l = 0
 ·subst h4
  have HC : Hid (szd (.mk k a f no ks) 0 = (0, 99)) := qh (by simp [szd])
  generalize szd (.mk k a f no ks) 0 = R at HC ⊢
  go_enter Tryz.func78, Tryz.ntmps78
  go_wp2
  go_ret2
  exact ⟨by rw [HC.out]; rfl, HB.out⟩
 ·have h4' : ((l : Int) == 0) = false := by simp; omega
  have HC : Hid (szd (.mk k a f no ks) l = szdL ks (l - 1) 1 0) := qh (by simp [szd, h4])
  generalize szd (.mk k a f no ks) l = R at HC ⊢
  go_enter Tryz.func78, Tryz.ntmps78
  go_wp2
  go_loopg [4, 5, 15] n (fun g av dv iv wr => ∃ (j : Nat) (z d : Int), Hid (j + g = n) ∧ iv = .int .i64 j ∧ av = .int .i64 z ∧ dv = .int .i64 d ∧ 1 ≤ z ∧ z ≤ 100 ∧ 0 ≤ d ∧ d ≤ 50 ∧ Hid (szdL ks (l - 1) 1 0 = szdL (ks.drop j) (l - 1) z d) ∧ Below w.heap.size w wr)
  case atStart => exact ⟨0, 1, 0, qh (Nat.zero_add _), rfl, rfl, rfl, by omega, by omega, by omega, by omega, qh rfl, HB.out⟩
  case round =>
   obtain ⟨j, z, d, Hj, rfl, rfl, rfl, hz1, hz2, hd1, hd2, Hcl, hb⟩ := hrel
   have HBr := qh hb; clear hb
   by_cases hj : j < n
   ·obtain ⟨b, o, x, y, rfl, hb, hy, hxy, hcell⟩ := (HK.out.under HBr.out HS.out).at_ hj
    have Hdr := qh (drop_step hy)
    have hmem := List.mem_of_getElem? hy
    obtain ⟨yk, ya, yf, yn, yks⟩ := y
    obtain ⟨A', n', c', rfl, -⟩ := hxy.open_
    have g0 := hcell 0 (by omega); have g1 := hcell 1 (by omega); have g2 := hcell 2 (by omega); have g3 := hcell 3 (by omega); have g4 := hcell 4 (by omega)
    have g5 := hcell 5 (by omega); have g6 := hcell 6 (by omega); have g7 := hcell 7 (by omega); have g8 := hcell 8 (by omega); have g9 := hcell 9 (by omega)
    clear hcell
    unfold ndRow at g0 g1 g2 g3 g4 g5 g6 g7 g8 g9
    simp only [List.getElem?_cons_zero, List.getElem?_cons_succ, Nat.add_zero] at g0 g1 g2 g3 g4 g5 g6 g7 g8 g9
    clear hy
    have hxy2 := (hxy.under (Below.refl _ wr |>.alloc (qr _) (.cells #[.int .i64 yk, .string ⟨ya.nm.toArray⟩, .int .i64 ya.op, .int .i64 ya.ver, .int .i64 ya.slot, .string ⟨ya.fl.toArray⟩, .bool ya.on, .string ⟨yf.toArray⟩, .bool yn, .slice A' n' c'] 40)) fun q hq => ql (HS.out q hq) HBr.out.size)
    clear hxy
    have hcall := HI.out _ hmem S _ (l - 1) _ hxy2 (fun q hq => by have := HS.out q hq; have := HBr.out.size; simp; omega) (by omega)
    have e : ((l - 1 : Nat) : Int) = (l : Int) - 1 := by omega
    rw [e] at hcall
    unfold ndRow at hcall
    have Hle := szd_le (.mk yk ya yf yn yks) (l - 1) (by omega)
    have HX : Hid (szdL (ks.drop j) (l - 1) z d = if 100 < z + (szd (.mk yk ya yf yn yks) (l - 1)).1 ∨ 50 < (szd (.mk yk ya yf yn yks) (l - 1)).2 then (101, 99) else szdL (ks.drop (j + 1)) (l - 1) (z + (szd (.mk yk ya yf yn yks) (l - 1)).1) (max d (szd (.mk yk ya yf yn yks) (l - 1)).2)) := qh (by rw [Hdr.out]; simp only [szdL])
    generalize hq : szd (.mk yk ya yf yn yks) (l - 1) = q at hcall Hle HX
    obtain ⟨m, dd⟩ := q
    simp only at hcall Hle HX
    obtain ⟨m1, m2, d1, d2⟩ := Hle
    have HBn := qh (HBr.out.alloc HBr.out.size (.cells #[.int .i64 yk, .string ⟨ya.nm.toArray⟩, .int .i64 ya.op, .int .i64 ya.ver, .int .i64 ya.slot, .string ⟨ya.fl.toArray⟩, .bool ya.on, .string ⟨yf.toArray⟩, .bool yn, .slice A' n' c'] 40))
    clear hq e hxy2 Hdr hmem
    have Hcall := qh hcall; clear hcall
    by_cases hm : 100 < z + m
    ·have HX2 := qh (HX.out.trans (if_pos (.inl hm)))
     clear HX
     go_wp2_with (first | (go_at_call 78; refine Hcall.out.mono ?_; rintro e w' ⟨rfl, hb'⟩; refine Hid.out ?_))
     refine qh ?_
     have HB' := qh (HBn.out.trans (hb'.mono HBn.out.size)); clear hb'
     go_wp2
     go_ret2
     exact ⟨by rw [HC.out, Hcl.out, HX2.out]; rfl, HB'.out⟩
    ·have hm' : decide (100 < z + m) = false := by simpa using hm
     by_cases hd : 50 < dd
     ·have HX2 := qh (HX.out.trans (if_pos (.inr hd)))
      clear HX
      go_wp2_with (first | (go_at_call 78; refine Hcall.out.mono ?_; rintro e w' ⟨rfl, hb'⟩; refine Hid.out ?_))
      refine qh ?_
      have HB' := qh (HBn.out.trans (hb'.mono HBn.out.size)); clear hb'
      go_wp2
      go_ret2
      exact ⟨by rw [HC.out, Hcl.out, HX2.out]; rfl, HB'.out⟩
     ·have hd' : decide (50 < dd) = false := by simpa using hd
      have HX2 := qh (HX.out.trans (if_neg (by omega)))
      clear HX
      go_wp2_with (first | (go_at_call 78; refine Hcall.out.mono ?_; rintro e w' ⟨rfl, hb'⟩; refine Hid.out ?_))
      refine qh ?_
      have HB' := qh (HBn.out.trans (hb'.mono HBn.out.size)); clear hb'
      go_wp2
      all_goals (
       go_roundg (gk - 1)
       case measure => have := Hj.out; omega
       case rel => exact ⟨j + 1, z + m, max d dd, qh (by have := Hj.out; omega), by go_num, rfl, (by first | rfl | (congr 1; omega)), by omega, by omega, by omega, by omega, qh (by rw [Hcl.out, HX2.out]), HB'.out⟩)
   ·go_wp2
    go_ret2
    refine ⟨?_, HBr.out⟩
    rw [HC.out, Hcl.out, List.drop_of_length_le (by have := HK.out.len; omega)]; rfl
end Go.Proofs.YtpipgffbhpnmkaaGreatDoor

/- Names, cut and told by membership: plain. -/
namespace Qm
open Go

def letters : List UInt8 := [97, 98, 99, 100, 101, 102, 103, 104, 105, 106, 107, 108, 109, 110, 111, 112, 113, 114, 115, 116, 117, 118, 119, 120, 121, 122]
def alnum : List UInt8 := [97, 98, 99, 100, 101, 102, 103, 104, 105, 106, 107, 108, 109, 110, 111, 112, 113, 114, 115, 116, 117, 118, 119, 120, 121, 122, 48, 49, 50, 51, 52, 53, 54, 55, 56, 57]

theorem byte_all {p : UInt8 → Prop} (h : ∀ n : Fin 256, p (UInt8.ofNat n.val)) (c : UInt8) : p c := by
 have h1 := h ⟨c.toNat, c.toNat_lt⟩
 simpa using h1
theorem letters_low (c : UInt8) : decide (0 ≤ Lib.indexByte letters c) = lowB c :=
 byte_all (p := fun c => decide (0 ≤ Lib.indexByte letters c) = lowB c) (by decide +kernel) c
theorem alnum_mem (c : UInt8) : alnum.contains c = (lowB c || digB c) :=
 byte_all (p := fun c => alnum.contains c = (lowB c || digB c)) (by decide +kernel) c

theorem mem_dropWhile {α : Type} {p : α → Bool} {x : α} (hx : p x = false) : ∀ {l : List α}, x ∈ l → x ∈ l.dropWhile p
 | [], h => by cases h
 | y :: r, h => by
  rw [List.dropWhile_cons]
  by_cases hy : p y = true
  ·rw [if_pos hy]
   rcases List.mem_cons.1 h with rfl | h
   ·rw [hx] at hy; cases hy
   ·exact mem_dropWhile hx h
  ·rw [if_neg hy]; exact h
theorem dropWhile_all {α : Type} {p : α → Bool} : ∀ {l : List α}, (∀ x ∈ l, p x = true) → l.dropWhile p = []
 | [], _ => rfl
 | y :: r, h => by
  rw [List.dropWhile_cons, if_pos (h y (List.mem_cons_self ..))]
  exact dropWhile_all fun x hx => h x (List.mem_cons_of_mem _ hx)
theorem trim_all {l cs : List UInt8} (h : ∀ x ∈ l, cs.contains x = true) : Lib.trimS l cs = [] := by
 unfold Lib.trimS Lib.trimRightS
 rw [dropWhile_all fun x hx => h x (List.mem_reverse.1 hx)]
 rfl
theorem trim_some {l cs : List UInt8} {x : UInt8} (hx : x ∈ l) (h : cs.contains x = false) : Lib.trimS l cs ≠ [] := by
 intro e
 have h1 : x ∈ Lib.trimRightS l cs := List.mem_reverse.2 (mem_dropWhile h (List.mem_reverse.2 hx))
 have h2 : x ∈ Lib.trimS l cs := mem_dropWhile h h1
 rw [e] at h2
 cases h2

theorem okFrom_iff : ∀ {i : Nat} {l : List UInt8}, 0 < i → (okFrom i l = true ↔ ∀ x ∈ l, alnum.contains x = true)
 | _, [], _ => by simp [okFrom]
 | i, c :: r, h => by
  have ih := okFrom_iff (i := i + 1) (l := r) (by omega)
  simp only [okFrom, okAt, Bool.and_eq_true, ih, List.forall_mem_cons]
  have : (lowB c || decide (0 < i) && digB c) = alnum.contains c := by
   rw [alnum_mem, decide_eq_true h, Bool.true_and]
  rw [this]

theorem isName_told {c : UInt8} {r : List UInt8} (h : (c :: r).length ≤ 8) : isName (c :: r) = (lowB c && (Lib.trimS (c :: r) alnum).isEmpty) := by
 unfold isName
 rw [decide_eq_true (by simp at h ⊢; omega), Bool.true_and]
 have e : okFrom 0 (c :: r) = (lowB c && okFrom 1 r) := by simp [okFrom, okAt]
 rw [e]
 cases hc : lowB c
 ·rfl
 ·rw [Bool.true_and, Bool.true_and]
  by_cases hr : okFrom 1 r = true
  ·rw [hr]
   have h1 := (okFrom_iff (by decide)).1 hr
   rw [trim_all]
   ·rfl
   ·intro x hx
    rcases List.mem_cons.1 hx with rfl | hx
    ·rw [alnum_mem, hc]; rfl
    ·exact h1 x hx
  ·have h1 : ¬ ∀ x ∈ r, alnum.contains x = true := fun h => hr ((okFrom_iff (by decide)).2 h)
   have h2 : okFrom 1 r = false := by simpa using hr
   rw [h2]
   obtain ⟨x, hx, hn⟩ : ∃ x, x ∈ r ∧ alnum.contains x = false := by
    apply Classical.byContradiction
    intro hno
    exact h1 fun x hx => by
     cases hh : alnum.contains x
     ·exact absurd ⟨x, hx, hh⟩ hno
     ·rfl
   have := trim_some (List.mem_cons_of_mem c hx) hn
   cases e : Lib.trimS (c :: r) alnum
   ·exact absurd e this
   ·rfl
end Qm

/- The other telling of a name, walked. -/
namespace Go.Proofs.YtpipgffbhpnmkaaGreatDoor
open Go.RowKit Qm

theorem bs_one {s : ByteArray} {c : UInt8} {r : List UInt8} (h : s.data.toList = c :: r) : s.extract 0 1 = ⟨#[c]⟩ := by
 have e : (s.extract 0 1).data.toList = [c] := by rw [Lib.extract_data, h]; simp
 generalize s.extract 0 1 = t at e
 obtain ⟨⟨l⟩⟩ := t
 simp at e
 subst e
 rfl

set_option maxHeartbeats 1600000 in
theorem rname_any (s : ByteArray) (w : World) (hs : s.size ≤ maxLen) :
  Calls Tryz.prog 50 #[.string s] w fun e w' => e = .returned (.bool (isName s.data.toList)) ∧ Below w.heap.size w w' := by
 unfold maxLen at hs
 have HSZ := qh (Lib.size_eq s)
 by_cases h0 : s.size = 0
 ·have e0 : decide ((0 : Int) < (s.size : Int)) = false := decide_eq_false (by omega)
  go_enter Tryz.func50, Tryz.ntmps50
  go_wp2
  go_ret
  refine ⟨ret_bool ?_, Below.refl _ _⟩
  unfold isName
  rw [decide_eq_false (by have := HSZ.out; omega)]; rfl
 ·have e0 : decide ((0 : Int) < (s.size : Int)) = true := by simp; omega
  by_cases h8 : 8 < s.size
  ·have e8 : decide ((s.size : Int) ≤ 8) = false := by simp; omega
   go_enter Tryz.func50, Tryz.ntmps50
   go_wp2
   go_ret
   refine ⟨ret_bool ?_, Below.refl _ _⟩
   unfold isName
   rw [decide_eq_false (by have := HSZ.out; omega)]; rfl
  ·have e8 : decide ((s.size : Int) ≤ 8) = true := by simp; omega
   obtain ⟨c, r, hcr⟩ : ∃ c r, s.data.toList = c :: r := by
    cases e : s.data.toList with
    | nil => have h := HSZ.out; rw [e, List.length_nil] at h; omega
    | cons c r => exact ⟨c, r, rfl⟩
   have htold := isName_told (c := c) (r := r) (by have := HSZ.out; rw [hcr] at this; omega)
   rw [← hcr] at htold
   have HT := qh htold; clear htold
   have hcon := fun wx => Tryz.strings_Contains_one ⟨letters.toArray⟩ c wx
   rw [show (⟨letters.toArray⟩ : ByteArray).data.toList = letters from by simp, letters_low, ← bs_one hcr] at hcon
   have h1 : (1 : Int) ≤ (s.size : Int) := by omega
   cases hlow : lowB c
   ·rw [hlow] at hcon HT
    have HC := qh hcon; clear hcon
    go_enter Tryz.func50, Tryz.ntmps50
    go_wp2_with (first | (go_at_call 76; refine (HC.out _).mono ?_; rintro e w1 ⟨rfl, rfl⟩; refine Hid.out ?_))
    refine qh ?_
    go_wp2
    go_ret
    exact ⟨ret_bool (by rw [HT.out]; rfl), Below.refl _ _⟩
   ·rw [hlow, Bool.true_and] at HT
    rw [hlow] at hcon
    have HC := qh hcon; clear hcon
    have htrim : ∀ wx, Calls Tryz.prog 77 #[.string s, .string ⟨alnum.toArray⟩] wx fun e w' => e = .returned (.string ⟨(Lib.trimS s.data.toList (⟨alnum.toArray⟩ : ByteArray).data.toList).toArray⟩) ∧ ∃ q, w' = ((wx.alloc (.cells (Lib.setCells (⟨alnum.toArray⟩ : ByteArray).data.toList) 144)).alloc (.cells (Lib.setCells (⟨alnum.toArray⟩ : ByteArray).data.toList) 144)).drewN q := fun wx => Any.strings_Trim_set Tryz.lays160 (zero_of_info (P := Tryz.prog) (t := 144) (v := .agg (Array.replicate 256 (.bool false))) (n := 256) (by kernel_rfl)).1 (by kernel_rfl) s ⟨alnum.toArray⟩ wx (by decide) (by omega) (by omega) (by decide) (fun j b h => by
     have hm := List.mem_of_getElem? h
     revert hm
     rw [show (⟨alnum.toArray⟩ : ByteArray).data.toList = alnum from by simp]
     intro hm
     exact (show ∀ b ∈ alnum, b.toNat < 128 by decide) b hm)
    rw [show (⟨alnum.toArray⟩ : ByteArray).data.toList = alnum from by simp] at htrim
    generalize Lib.trimS s.data.toList alnum = T at htrim HT
    have HTr := qh htrim; clear htrim
    have hT : (⟨T.toArray⟩ : ByteArray).toList.isEmpty = T.isEmpty := by rw [Lib.toList_data]
    go_enter Tryz.func50, Tryz.ntmps50
    go_wp2_with (first
     | (go_at_call 76; refine (HC.out _).mono ?_; rintro e w1 ⟨rfl, rfl⟩; refine Hid.out ?_)
     | (go_at_call 77; refine (HTr.out _).mono ?_; rintro e w1 ⟨rfl, n, rfl⟩; refine Hid.out ?_))
    refine qh ?_
    go_wp2_with (first
     | (go_at_call 77; refine (HTr.out _).mono ?_; rintro e w1 ⟨rfl, n, rfl⟩; refine Hid.out ?_))
    refine qh ?_
    go_wp2
    go_ret
    exact ⟨ret_bool (by rw [HT.out]), below_drewN (((Below.refl _ _).alloc (qr _) _).alloc (by simp) _) n⟩
end Go.Proofs.YtpipgffbhpnmkaaGreatDoor

/- The other telling of an atom's check, walked. -/
namespace Go.Proofs.YtpipgffbhpnmkaaGreatDoor
open Go.RowKit Qm

set_option maxHeartbeats 3200000 in
theorem rcheck_any (s f : ByteArray) (op ver slot : Int) (on : Bool) (w : World) (hs : s.size ≤ maxLen) (hf : f.size ≤ maxLen) :
  Calls Tryz.prog 80 #[atv s op ver slot f on] w fun e w' => e = .returned (.int .i64 (ckAtom (atOf s op ver slot f on))) ∧ Below w.heap.size w w' := by
 unfold atv
 have ba : Below w.heap.size w (w.alloc (.cells #[.string s, .int .i64 op, .int .i64 ver, .int .i64 slot, .string f, .bool on] 37)) := (Below.refl _ w).alloc (qr _) _
 have Ba := qh ba; clear ba
 cases hn : isName s.data.toList
 ·skip
  go_enter Tryz.func80, Tryz.ntmps80
  go_wp2_with (first
   | (go_at_call 50; refine (rname_any _ _ hs).mono ?_; rintro e w1 ⟨rfl, hb1⟩; have c0 := box_cell hb1 (i := 0) rfl; have c1 := box_cell hb1 (i := 1) rfl; have c2 := box_cell hb1 (i := 2) rfl; have c3 := box_cell hb1 (i := 3) rfl; have c4 := box_cell hb1 (i := 4) rfl; have c5 := box_cell hb1 (i := 5) rfl; refine Hid.out ?_))
  refine qh ?_
  have HB := qh (Ba.out.trans (hb1.mono (by simp)))
  clear hb1
  go_wp2
  go_ret
  exact ⟨ret_int (ck1 (a := atOf s op ver slot f on) (.inl hn)).symm, HB.out⟩
 ·by_cases h0 : f.data.toList = []
  ·obtain ⟨e1, e2⟩ := empty_spell h0
   go_enter Tryz.func80, Tryz.ntmps80
   go_wp2_with (first
    | (go_at_call 50; refine (rname_any _ _ hs).mono ?_; rintro e w1 ⟨rfl, hb1⟩; have c0 := box_cell hb1 (i := 0) rfl; have c1 := box_cell hb1 (i := 1) rfl; have c2 := box_cell hb1 (i := 2) rfl; have c3 := box_cell hb1 (i := 3) rfl; have c4 := box_cell hb1 (i := 4) rfl; have c5 := box_cell hb1 (i := 5) rfl; refine Hid.out ?_))
   refine qh ?_
   have HB := qh (Ba.out.trans (hb1.mono (by simp)))
   clear hb1
   have H0 := qh h0
   have HG := qh (show ¬ (isName (atOf s op ver slot f on).nm = false ∨ (atOf s op ver slot f on).fl ≠ [] ∧ isName (atOf s op ver slot f on).fl = false) by simp [atOf, hn, h0])
   clear h0
   by_cases o1 : op < 0
   ·
    go_wp2
    go_ret
    exact ⟨ret_int (ck3 (a := atOf s _ _ slot f on) HG.out (by show _ ∨ _; simp only [atOf]; first | omega | exact .inr (.inl ⟨trivial, ‹_›⟩))).symm, HB.out⟩
   have o1' : decide (op < 0) = false := by simpa using o1
   by_cases o2 : 3 < op
   ·
    go_wp2
    go_ret
    exact ⟨ret_int (ck3 (a := atOf s _ _ slot f on) HG.out (by show _ ∨ _; simp only [atOf]; first | omega | exact .inr (.inl ⟨trivial, ‹_›⟩))).symm, HB.out⟩
   have o2' : decide (3 < op) = false := by simpa using o2
   by_cases s1 : slot < 0
   ·
    go_wp2
    go_ret
    exact ⟨ret_int (ck3 (a := atOf s _ _ slot f on) HG.out (by show _ ∨ _; simp only [atOf]; first | omega | exact .inr (.inl ⟨trivial, ‹_›⟩))).symm, HB.out⟩
   have s1' : decide (slot < 0) = false := by simpa using s1
   by_cases s2 : 9 < slot
   ·
    go_wp2
    go_ret
    exact ⟨ret_int (ck3 (a := atOf s _ _ slot f on) HG.out (by show _ ∨ _; simp only [atOf]; first | omega | exact .inr (.inl ⟨trivial, ‹_›⟩))).symm, HB.out⟩
   have s2' : decide (9 < slot) = false := by simpa using s2
   by_cases z : op = 0
   ·
    subst z
    by_cases v : ver = 0
    ·
     subst v
     cases on
     ·
      go_wp2
      go_ret
      exact ⟨ret_int (by rw [ck4 (a := atOf s _ _ slot f false) HG.out (by simp only [atOf]; omega)]; simp [atOf]), HB.out⟩
     ·
      go_wp2
      go_ret
      exact ⟨ret_int (by rw [ck4 (a := atOf s _ _ slot f true) HG.out (by simp only [atOf]; omega)]; simp [atOf, H0.out]), HB.out⟩
    ·
     have v1 : (ver == 0) = false := by simpa using v
     have v2 : (ver != 0) = true := by simpa using v
     go_wp2
     go_ret
     exact ⟨ret_int (ck3 (a := atOf s _ _ slot f on) HG.out (by show _ ∨ _; simp only [atOf]; first | omega | exact .inr (.inl ⟨trivial, ‹_›⟩))).symm, HB.out⟩
   ·
    have z1 : (op == 0) = false := by simpa using z
    have z2 : (op != 0) = true := by simpa using z
    by_cases v1 : ver < 1
    ·
     go_wp2
     go_ret
     exact ⟨ret_int (ck3 (a := atOf s _ _ slot f on) HG.out (by show _ ∨ _; simp only [atOf]; first | omega | exact .inr (.inl ⟨trivial, ‹_›⟩))).symm, HB.out⟩
    have v1' : decide (ver < 1) = false := by simpa using v1
    by_cases v2 : 99 < ver
    ·
     go_wp2
     go_ret
     exact ⟨ret_int (ck3 (a := atOf s _ _ slot f on) HG.out (by show _ ∨ _; simp only [atOf]; first | omega | exact .inr (.inl ⟨trivial, ‹_›⟩))).symm, HB.out⟩
    have v2' : decide (99 < ver) = false := by simpa using v2
    cases on
    ·
     go_wp2
     go_ret
     exact ⟨ret_int (by rw [ck4 (a := atOf s _ _ slot f false) HG.out (by simp only [atOf]; omega)]; simp [atOf]), HB.out⟩
    ·
     go_wp2
     go_ret
     exact ⟨ret_int (by rw [ck4 (a := atOf s _ _ slot f true) HG.out (by simp only [atOf]; omega)]; simp [atOf, H0.out]), HB.out⟩
  ·obtain ⟨e1, e2⟩ := full_spell h0
   cases hn2 : isName f.data.toList
   ·skip
    go_enter Tryz.func80, Tryz.ntmps80
    go_wp2_with (first
     | (go_at_call 50; refine (rname_any _ _ hs).mono ?_; rintro e w1 ⟨rfl, hb1⟩; have c0 := box_cell hb1 (i := 0) rfl; have c1 := box_cell hb1 (i := 1) rfl; have c2 := box_cell hb1 (i := 2) rfl; have c3 := box_cell hb1 (i := 3) rfl; have c4 := box_cell hb1 (i := 4) rfl; have c5 := box_cell hb1 (i := 5) rfl; refine Hid.out ?_))
    refine qh ?_
    go_wp2_with (first
     | (go_at_call 50; refine (rname_any _ _ hf).mono ?_; rintro e w2 ⟨rfl, hb2⟩; replace c0 := (hb2.cell (World.block_lt_of_cell? _ _ c0)).trans c0; replace c1 := (hb2.cell (World.block_lt_of_cell? _ _ c1)).trans c1; replace c2 := (hb2.cell (World.block_lt_of_cell? _ _ c2)).trans c2; replace c3 := (hb2.cell (World.block_lt_of_cell? _ _ c3)).trans c3; replace c4 := (hb2.cell (World.block_lt_of_cell? _ _ c4)).trans c4; replace c5 := (hb2.cell (World.block_lt_of_cell? _ _ c5)).trans c5; refine Hid.out ?_))
    refine qh ?_
    have HB := qh (Ba.out.trans ((hb1.mono (by simp)).trans (hb2.mono (Nat.le_trans (by simp) hb1.size))))
    clear hb1 hb2
    go_wp2
    go_ret
    exact ⟨ret_int (ck1 (a := atOf s op ver slot f on) (.inr ⟨h0, hn2⟩)).symm, HB.out⟩
   ·skip
    go_enter Tryz.func80, Tryz.ntmps80
    go_wp2_with (first
     | (go_at_call 50; refine (rname_any _ _ hs).mono ?_; rintro e w1 ⟨rfl, hb1⟩; have c0 := box_cell hb1 (i := 0) rfl; have c1 := box_cell hb1 (i := 1) rfl; have c2 := box_cell hb1 (i := 2) rfl; have c3 := box_cell hb1 (i := 3) rfl; have c4 := box_cell hb1 (i := 4) rfl; have c5 := box_cell hb1 (i := 5) rfl; refine Hid.out ?_))
    refine qh ?_
    go_wp2_with (first
     | (go_at_call 50; refine (rname_any _ _ hf).mono ?_; rintro e w2 ⟨rfl, hb2⟩; replace c0 := (hb2.cell (World.block_lt_of_cell? _ _ c0)).trans c0; replace c1 := (hb2.cell (World.block_lt_of_cell? _ _ c1)).trans c1; replace c2 := (hb2.cell (World.block_lt_of_cell? _ _ c2)).trans c2; replace c3 := (hb2.cell (World.block_lt_of_cell? _ _ c3)).trans c3; replace c4 := (hb2.cell (World.block_lt_of_cell? _ _ c4)).trans c4; replace c5 := (hb2.cell (World.block_lt_of_cell? _ _ c5)).trans c5; refine Hid.out ?_))
    refine qh ?_
    have HB := qh (Ba.out.trans ((hb1.mono (by simp)).trans (hb2.mono (Nat.le_trans (by simp) hb1.size))))
    clear hb1 hb2
    have H0 := qh h0
    have HG := qh (show ¬ (isName (atOf s op ver slot f on).nm = false ∨ (atOf s op ver slot f on).fl ≠ [] ∧ isName (atOf s op ver slot f on).fl = false) by simp [atOf, hn, hn2])
    clear h0
    by_cases o1 : op < 0
    ·
     go_wp2
     go_ret
     exact ⟨ret_int (ck3 (a := atOf s _ _ slot f on) HG.out (by show _ ∨ _; simp only [atOf]; first | omega | exact .inr (.inl ⟨trivial, ‹_›⟩))).symm, HB.out⟩
    have o1' : decide (op < 0) = false := by simpa using o1
    by_cases o2 : 3 < op
    ·
     go_wp2
     go_ret
     exact ⟨ret_int (ck3 (a := atOf s _ _ slot f on) HG.out (by show _ ∨ _; simp only [atOf]; first | omega | exact .inr (.inl ⟨trivial, ‹_›⟩))).symm, HB.out⟩
    have o2' : decide (3 < op) = false := by simpa using o2
    by_cases s1 : slot < 0
    ·
     go_wp2
     go_ret
     exact ⟨ret_int (ck3 (a := atOf s _ _ slot f on) HG.out (by show _ ∨ _; simp only [atOf]; first | omega | exact .inr (.inl ⟨trivial, ‹_›⟩))).symm, HB.out⟩
    have s1' : decide (slot < 0) = false := by simpa using s1
    by_cases s2 : 9 < slot
    ·
     go_wp2
     go_ret
     exact ⟨ret_int (ck3 (a := atOf s _ _ slot f on) HG.out (by show _ ∨ _; simp only [atOf]; first | omega | exact .inr (.inl ⟨trivial, ‹_›⟩))).symm, HB.out⟩
    have s2' : decide (9 < slot) = false := by simpa using s2
    by_cases z : op = 0
    ·
     subst z
     by_cases v : ver = 0
     ·
      subst v
      cases on
      ·
       go_wp2
       go_ret
       exact ⟨ret_int (by rw [ck4 (a := atOf s _ _ slot f _) HG.out (by simp only [atOf]; omega)]; simp [atOf, H0.out]), HB.out⟩
      ·
       go_wp2
       go_ret
       exact ⟨ret_int (by rw [ck4 (a := atOf s _ _ slot f _) HG.out (by simp only [atOf]; omega)]; simp [atOf, H0.out]), HB.out⟩
     ·
      have v1 : (ver == 0) = false := by simpa using v
      have v2 : (ver != 0) = true := by simpa using v
      go_wp2
      go_ret
      exact ⟨ret_int (ck3 (a := atOf s _ _ slot f on) HG.out (by show _ ∨ _; simp only [atOf]; first | omega | exact .inr (.inl ⟨trivial, ‹_›⟩))).symm, HB.out⟩
    ·
     have z1 : (op == 0) = false := by simpa using z
     have z2 : (op != 0) = true := by simpa using z
     by_cases v1 : ver < 1
     ·
      go_wp2
      go_ret
      exact ⟨ret_int (ck3 (a := atOf s _ _ slot f on) HG.out (by show _ ∨ _; simp only [atOf]; first | omega | exact .inr (.inl ⟨trivial, ‹_›⟩))).symm, HB.out⟩
     have v1' : decide (ver < 1) = false := by simpa using v1
     by_cases v2 : 99 < ver
     ·
      go_wp2
      go_ret
      exact ⟨ret_int (ck3 (a := atOf s _ _ slot f on) HG.out (by show _ ∨ _; simp only [atOf]; first | omega | exact .inr (.inl ⟨trivial, ‹_›⟩))).symm, HB.out⟩
     have v2' : decide (99 < ver) = false := by simpa using v2
     cases on
     ·
      go_wp2
      go_ret
      exact ⟨ret_int (by rw [ck4 (a := atOf s _ _ slot f _) HG.out (by simp only [atOf]; omega)]; simp [atOf, H0.out]), HB.out⟩
     ·
      go_wp2
      go_ret
      exact ⟨ret_int (by rw [ck4 (a := atOf s _ _ slot f _) HG.out (by simp only [atOf]; omega)]; simp [atOf, H0.out]), HB.out⟩
end Go.Proofs.YtpipgffbhpnmkaaGreatDoor
