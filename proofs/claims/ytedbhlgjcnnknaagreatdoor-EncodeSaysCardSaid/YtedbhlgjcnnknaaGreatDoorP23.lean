/- Parts of the proof: walks and plain laws, side by side. -/
import Derived.Test.YtedbhlgjcnnknaaGreatDoorP22
import Derived.Test.YtedbhlgjcnnknaaGreatDoorP1
import Derived.Test.YtedbhlgjcnnknaaGreatDoorP12
import Derived.Test.YtedbhlgjcnnknaaGreatDoorP4
import Derived.Test.YtedbhlgjcnnknaaGreatDoorP16
import Derived.Test.YtedbhlgjcnnknaaGreatDoorP13
import Derived.Maps.AppendAt
import Derived.Test.YtedbhlgjcnnknaaGreatDoorP17
import Derived.Test.YtedbhlgjcnnknaaGreatDoorP14
import Derived.Test.YtedbhlgjcnnknaaGreatDoorP20
import Derived.Test.YtedbhlgjcnnknaaGreatDoorP15
import Derived.BigQuiet
set_option linter.unusedVariables false
set_option linter.unusedSimpArgs false
set_option linter.unusedSectionVars false
set_option maxRecDepth 100000
set_option maxHeartbeats 12800000
namespace Go.Proofs.YtedbhlgjcnnknaaGreatDoor
section
open Go.RowKit Qm
def validE (ps : List Pk) (v : Ws) (l : List Mem) : Int := if ckWish ps v ≠ 0 then ckWish ps v else ckSet ps l
def validV (ps : List Pk) (v : Ws) (l : List Mem) : Bool := decide (validE ps v l = 0) && validP ps v.ts v.ms l
theorem valid_any (ps : List Pk) (v : Ws) (l : List Mem) (S : Nat → Prop) (A B : Option Addr) (n c q d : Nat) (A1 A2 A3 A4 : Option Addr) (n1 c1 n2 c2 n3 c3 n4 c4 : Nat) (w : World) (hT : RTree w S A n ps) (hnc : n ≤ c) (hc : c ≤ maxLen) (hV : WsAt w S A1 n1 c1 A2 n2 c2 A3 n3 c3 A4 n4 c4 v) (hL : RSet w S B q l) (hqd : q ≤ d) (hd : d ≤ maxLen) (hS : ∀ k, S k → k < w.heap.size) :
  Calls Tryz.prog 18 #[.agg #[.slice A n c], .agg #[.slice A1 n1 c1, .slice A2 n2 c2, .slice A3 n3 c3, .slice A4 n4 c4], .slice B q d] w fun e w' => e = .returned (.tuple #[.bool (validV ps v l), .int .i64 (validE ps v l)]) ∧ Below w.heap.size w w' := by
 have X0 := qh (Wb.new w A n c [.slice A1 n1 c1, .slice A2 n2 c2, .slice A3 n3 c3, .slice A4 n4 c4])
 have HT := qh hT; have HS := qh hS; have HL := qh hL; have HV := qh hV; clear hT hS hL hV
 have Hlt := qh (fun (wx : World) (hb : Below w.heap.size w wx) k hk => ql (HS.out k hk) hb.size)
 have Hcw := qh (cwish_any ps v S A n c A1 A2 A3 A4 n1 c1 n2 c2 n3 c3 n4 c4 _ (HT.out.under X0.out.bel HS.out) hnc hc (HV.out.under X0.out.bel HS.out) (Hlt.out _ X0.out.bel))
 have Hcs := qh (fun wx (hb : Below w.heap.size w wx) => cset_any ps l S A B n c q d wx (HT.out.under hb HS.out) hnc hc (HL.out.under hb HS.out) (qlt hqd hd) (Hlt.out _ hb))
 have HE : Hid (validE ps v l = if ckWish ps v ≠ 0 then ckWish ps v else ckSet ps l) := qh rfl
 have HVV : Hid (validV ps v l = (decide (validE ps v l = 0) && validP ps v.ts v.ms l)) := qh rfl
 generalize validE ps v l = e at HE HVV ⊢
 generalize validV ps v l = r at HVV ⊢
 generalize ckWish ps v = z at Hcw HE
 generalize hy : ckSet ps l = y at Hcs HE
 have HY := qh hy; clear hy
 by_cases z0 : z = 0
 ·subst z0
  obtain rfl : e = y := by rw [HE.out, if_neg (by simp)]
  by_cases y0 : e = 0
  ·subst y0
   have Hva := qh (fun wx (hb : Below w.heap.size w wx) => validR_any ps v l S A B n c q d A1 A2 A3 A4 n1 c1 n2 c2 n3 c3 n4 c4 wx (Cx.of HY.out (HT.out.under hb HS.out) hnc hc (HL.out.under hb HS.out) hqd hd (Hlt.out _ hb)) HY.out (HV.out.under hb HS.out))
   obtain rfl : r = validP ps v.ts v.ms l := by rw [HVV.out]; simp
   clear HVV HE
   generalize validP ps v.ts v.ms l = r at Hva ⊢
   go_enter Tryz.func18, Tryz.ntmps18
   go_wp2_with (first | (go_at_call 34; refine Hcw.out.mono ?_; rintro e w2 ⟨rfl, hb2⟩; refine Hid.out ?_))
   refine qh ?_
   have X2 := qh (X0.out.move hb2)
   clear hb2 X0 Hcw
   have t0 := X2.out.t.cell 0
   simp only [qgz, qgs] at t0
   go_wp2_with (first | (go_at_call 56; refine (Hcs.out _ X2.out.bel).mono ?_; rintro e w3 ⟨rfl, hb3⟩; refine Hid.out ?_))
   refine qh ?_
   have X3 := qh (X2.out.move hb3)
   clear hb3 X2 t0
   have t0 := X3.out.t.cell 0
   have v0 := X3.out.v.cell 0; have v1 := X3.out.v.cell 1; have v2 := X3.out.v.cell 2; have v3 := X3.out.v.cell 3
   simp only [qgz, qgs] at t0 v0 v1 v2 v3
   go_wp2_with (first | (go_at_call 57; refine (Hva.out _ X3.out.bel).mono ?_; rintro e w4 ⟨rfl, hb4⟩; refine Hid.out ?_))
   refine qh ?_
   have X4 := qh (X3.out.move hb4)
   clear hb4
   go_wp2
   go_ret2
   exact ⟨rfl, X4.out.bel⟩
  ·have y1 : (e != 0) = true := by simpa using y0
   obtain rfl : r = false := by rw [HVV.out, qdf y0]; rfl
   clear HVV HE
   go_enter Tryz.func18, Tryz.ntmps18
   go_wp2_with (first | (go_at_call 34; refine Hcw.out.mono ?_; rintro e w2 ⟨rfl, hb2⟩; refine Hid.out ?_))
   refine qh ?_
   have X2 := qh (X0.out.move hb2)
   clear hb2 X0 Hcw
   have t0 := X2.out.t.cell 0
   simp only [qgz, qgs] at t0
   go_wp2_with (first | (go_at_call 56; refine (Hcs.out _ X2.out.bel).mono ?_; rintro e w3 ⟨rfl, hb3⟩; refine Hid.out ?_))
   refine qh ?_
   have X3 := qh (X2.out.move hb3)
   clear hb3 X2 t0
   go_wp2
   go_ret2
   exact ⟨rfl, X3.out.bel⟩
 ·have z1 : (z != 0) = true := by simpa using z0
  obtain rfl : e = z := by rw [HE.out, if_pos z0]
  obtain rfl : r = false := by rw [HVV.out, qdf z0]; rfl
  clear HVV HE
  go_enter Tryz.func18, Tryz.ntmps18
  go_wp2_with (first | (go_at_call 34; refine Hcw.out.mono ?_; rintro e w2 ⟨rfl, hb2⟩; refine Hid.out ?_))
  refine qh ?_
  have X2 := qh (X0.out.move hb2)
  clear hb2 X0 Hcw
  go_wp2
  go_ret2
  exact ⟨rfl, X2.out.bel⟩
end
section
open Go.RowKit
end
section
open Go.RowKit Qm
theorem sameMem_iff (x y : Mem) : sameMem x y = true ↔ x = y := by
 obtain ⟨p, o⟩ := x; obtain ⟨q, r⟩ := y
 unfold sameMem
 rw [Bool.and_eq_true, decide_eq_true_eq, beq_iff_eq, Mem.mk.injEq]
theorem eqL_self (l : List Mem) : eqL sameMem l l = true := (eqL_iff sameMem_iff).2 rfl
end
section
open Go.RowKit Qm
def pairsV (xs : List (Int × Int)) : List Value := xs.flatMap fun p => [.int .i64 p.1, .int .i64 p.2]
structure Ro (B0 : Nat) (wb : Nat) (a0 a1 a2 ov : Value) (xs : List (Int × Int)) (w wr : World) : Prop where
 b : Below B0 w wr
 wi : Whole wr wb 30 [a0, a1, a2, ov]
 o : wr.ownsRow (wb + 1) 86 2 ov xs.length (pairsV xs)
 hb : B0 ≤ wb
section
variable {B0 wb : Nat} {a0 a1 a2 ov : Value} {xs : List (Int × Int)} {w wr wy : World}
end
end
section
open Go.RowKit Qm
structure Tn (w : World) (A : Option Addr) (n c : Nat) (wx : World) : Prop where
 t : Whole wx w.heap.size 24 [.slice A n c]
 bel : Below w.heap.size w wx
section
variable {w : World} {A : Option Addr} {n c : Nat} {wx wy : World}
end
end
section
open Go.RowKit Qm
def litV (ps : List Pk) (v : Ws) (l : List Mem) (x : Nat) : Int := if chVal ps v l (x - 1) = true then (x : Int) else -(x : Int)
structure Asg (ps : List Pk) (v : Ws) (l : List Mem) (md : List Int) (Q : Nat → Prop) : Prop where
 len : md.length = manyC ps + 1
 at_ : ∀ x, Q x → md.getD x 0 = litV ps v l x
def Qp (ps : List Pk) (v : Ws) (i x : Nat) : Prop := ∃ j, j < i ∧ (x = ((chW ps v).pick j).natAbs ∨ ∃ k, k < (pkOf ps j).fs.length ∧ x = ((chW ps v).on j k).natAbs)
def Qf (ps : List Pk) (v : Ws) (i k x : Nat) : Prop := Qp ps v i x ∨ x = ((chW ps v).pick i).natAbs ∨ ∃ j, j < k ∧ x = ((chW ps v).on i j).natAbs
theorem boolKey (a b : Bool) (x y : Int) : (if (a != b) = true then x else y) = if ((!b) == a) = true then x else y := by cases a <;> cases b <;> rfl
section
variable {ps : List Pk} {v : Ws} {l : List Mem} {md : List Int} {Q Q' : Nat → Prop}
theorem Asg.mono (h : Asg ps v l md Q) (hQ : ∀ x, Q' x → Q x) : Asg ps v l md Q' := ⟨h.len, fun x hx => h.at_ x (hQ x hx)⟩
theorem Asg.put (h : Asg ps v l md Q) {p : Nat} {y : Int} (hp : p < manyC ps + 1) (hy : y = litV ps v l p) : Asg ps v l (md.set p y) (fun x => Q x ∨ x = p) := by
 refine ⟨by rw [List.length_set]; exact h.len, fun x hx => ?_⟩
 rw [qgd, List.getElem?_set]
 by_cases e : p = x
 ·subst e
  rw [if_pos rfl, if_pos (by rw [h.len]; exact hp)]; exact hy
 ·rw [if_neg e, ← qgd]
  exact h.at_ x (hx.resolve_right fun h => e h.symm)
theorem Asg.start : Asg ps v l ((List.range (manyC ps + 1)).map fun _ => 0) (Qp ps v 0) := ⟨by simp, fun x ⟨j, hj, _⟩ => by omega⟩
theorem litV_pick (h : WsOk ps v) {i : Nat} (hi : i < ps.length) {t : Bool} (ht : (atP l i).isSome = t) :
  litV ps v l ((chW ps v).pick i).natAbs = if (decide (0 < (chW ps v).pick i) == t) = true then (((chW ps v).pick i).natAbs : Int) else -(((chW ps v).pick i).natAbs : Int) := by
 unfold litV
 rw [pick_abs, Nat.add_sub_cancel, chVal_pick h hi, ht, pick_pos]
 exact boolKey _ _ _ _
theorem litV_on {i k : Nat} (hi : i < ps.length) (hk : k < (pkOf ps i).fs.length) {m : Mem} (hm : atP l i = some m) :
  litV ps v l ((chW ps v).on i k).natAbs = if (decide (0 < (chW ps v).on i k) == onOf m.on k) = true then (((chW ps v).on i k).natAbs : Int) else -(((chW ps v).on i k).natAbs : Int) := by
 unfold litV
 rw [on_abs, Nat.add_sub_cancel, chVal_on hi hk, hm, on_pos]
 dsimp only
 exact boolKey _ _ _ _
theorem litV_off {i k : Nat} (hi : i < ps.length) (hk : k < (pkOf ps i).fs.length) (hm : atP l i = none) :
  litV ps v l ((chW ps v).on i k).natAbs = -(((chW ps v).on i k).natAbs : Int) := by
 unfold litV
 rw [on_abs, Nat.add_sub_cancel, chVal_on hi hk, hm]
 rfl
theorem Qf_succ {i k x : Nat} (h : Qf ps v i (k + 1) x) : Qf ps v i k x ∨ x = ((chW ps v).on i k).natAbs := by
 rcases h with h | h | ⟨j, hj, h⟩
 ·exact .inl (.inl h)
 ·exact .inl (.inr (.inl h))
 ·by_cases e : j = k
  ·subst e; exact .inr h
  ·exact .inl (.inr (.inr ⟨j, by omega, h⟩))
theorem Qf_zero {i x : Nat} (h : Qf ps v i 0 x) : Qp ps v i x ∨ x = ((chW ps v).pick i).natAbs := by
 rcases h with h | h | ⟨j, hj, _⟩
 ·exact .inl h
 ·exact .inr h
 ·omega
theorem Qp_succ {i x : Nat} (h : Qp ps v (i + 1) x) : Qf ps v i (pkOf ps i).fs.length x := by
 obtain ⟨j, hj, h⟩ := h
 by_cases e : j = i
 ·subst e; exact .inr h
 ·exact .inl ⟨j, by omega, h⟩
theorem Asg.done (hw : WsOk ps v) (h : Asg ps v l md (Qp ps v ps.length)) : md.drop 1 = litsB (chVec ps v l) := by
 have hl := h.len
 apply List.ext_getElem?
 intro x
 unfold litsB
 rw [List.getElem?_drop, qgm, chVec_len]
 by_cases hx : x < manyC ps
 ·rw [List.getElem?_range hx, qge (by omega)]
  have hq : Qp ps v ps.length (1 + x) := by
   rcases var_owner hw hx with ⟨i, hi, rfl⟩ | ⟨i, k, hi, hk, rfl⟩
   ·exact ⟨i, hi, .inl (by rw [pick_abs]; omega)⟩
   ·exact ⟨i, hi, .inr ⟨k, hk, by rw [on_abs]; omega⟩⟩
  have h1 := h.at_ _ hq
  rw [qgd, qge (by omega), Option.getD_some] at h1
  rw [h1, Option.map_some]
  unfold litV
  rw [Nat.add_sub_cancel_left, chVec_at hx]
  congr 1
  split <;> omega
 ·rw [List.getElem?_eq_none (by omega), List.getElem?_eq_none (by simpa using hx)]; rfl
end
theorem atP_ix {l : List Mem} {i : Nat} : (ixB (fun m : Mem => decide (m.pl = (i : Int))) l = -1 ∧ atP l i = none) ∨ ∃ (k : Nat) (m : Mem), ixB (fun m : Mem => decide (m.pl = (i : Int))) l = k ∧ l[k]? = some m ∧ atP l i = some m := by
 unfold ixB atP
 cases h : l.findIdx? (fun m : Mem => decide (m.pl = (i : Int))) with
 | none =>
  left
  refine ⟨rfl, ?_⟩
  rw [List.find?_eq_none]
  rw [List.findIdx?_eq_none_iff] at h
  intro x hx
  have := h x hx
  simpa using this
 | some k =>
  right
  obtain ⟨hk, h1, h2⟩ := List.findIdx?_eq_some_iff_getElem.1 h
  refine ⟨k, l[k], rfl, qge hk, ?_⟩
  rw [List.find?_eq_some_iff_getElem]
  exact ⟨h1, k, hk, rfl, fun j hj => by have := h2 j hj; simpa using this⟩
end
section
open Go.RowKit Qm
theorem litSet_any (x : Int) (yes : Bool) (mb G N : Nat) (w : World) (hm : Whole w mb 27 [.slice (some ⟨G, 0, none⟩) N N]) (md : List Int) (hg : Whole w G 3 (md.map (.int .i64))) (hl : md.length = N) (hx : x ≠ 0) (hx2 : x.natAbs < N) (hN : N ≤ 100000) :
  Calls Tryz.prog 48 #[.int .i64 x, .bool yes, .pointer (some ⟨mb, 0, none⟩)] w fun e w' => e = .returned (.tuple #[]) ∧ w' = w.setCell ⟨G, x.natAbs, none⟩ (.int .i64 (if (decide (0 < x) == yes) = true then (x.natAbs : Int) else -(x.natAbs : Int))) := by
 have m0 := hm.cell 0
 have gc : w.cell? ⟨G, x.natAbs, none⟩ = some (.int .i64 (md.getD x.natAbs 0)) := by
  rw [hg.cell, qgm, qge (by omega), qgd, qge (by omega)]; rfl
 have gf := hg.free x.natAbs
 have mlt := hm.lt
 have glt := hg.lt
 have hxb : -200000 ≤ x ∧ x ≤ 200000 := by omega
 simp only [qgz] at m0
 clear hm hg hl
 by_cases hp : 0 < x
 ·have hd : decide ((0 : Int) < x) = true := qdt hp
  obtain ⟨k, rfl⟩ : ∃ k : Nat, x = k := ⟨x.toNat, by omega⟩
  have e1 : (k : Int).natAbs = k := by omega
  have hmx : max (k : Int) (-(k : Int)) = k := by omega
  rw [e1] at gc gf hx2 ⊢
  rw [hd]
  have hkn : (k : Int) < N := by omega
  have hk0 : (0 : Int) ≤ (k : Int) := by omega
  have hkp : decide (0 < k) = true := qdt (by omega)
  have hkp2 : 0 < k := by omega
  clear e1 hx hxb
  cases yes
  ·go_enter Tryz.func48, Tryz.ntmps48
   go_wp2
   exact bodyPost_end (results_none rfl _ _ _) rfl ⟨rfl, rfl⟩
  ·go_enter Tryz.func48, Tryz.ntmps48
   go_wp2
   exact bodyPost_end (results_none rfl _ _ _) rfl ⟨rfl, rfl⟩
 ·have hd : decide ((0 : Int) < x) = false := qdf hp
  obtain ⟨k, rfl⟩ : ∃ k : Nat, x = -(k : Int) := ⟨(-x).toNat, by omega⟩
  have e1 : (-(k : Int)).natAbs = k := by omega
  have hmx : max (-(k : Int)) (k : Int) = k := by omega
  rw [hd]
  rw [e1] at gc gf hx2 ⊢
  have hd2 : decide ((0 : Int) < -(k : Int)) = false := qdf (by omega)
  have hkn : (k : Int) < N := by omega
  have hk0 : (0 : Int) ≤ (k : Int) := by omega
  clear e1 hx hxb hd
  cases yes
  ·go_enter Tryz.func48, Tryz.ntmps48
   go_wp2
   exact bodyPost_end (results_none rfl _ _ _) rfl ⟨rfl, rfl⟩
  ·go_enter Tryz.func48, Tryz.ntmps48
   go_wp2
   exact bodyPost_end (results_none rfl _ _ _) rfl ⟨rfl, rfl⟩
theorem litAt_any (pl : Int) (A : Option Addr) (n c ib i : Nat) (w : World) (hi : w.cell? ⟨ib, 0, none⟩ = some (.int .i64 (i : Int))) :
  Calls Tryz.prog 50 #[.agg #[.int .i64 pl, .slice A n c], .pointer (some ⟨ib, 0, none⟩)] w fun e w' => e = .returned (.bool (decide (pl = (i : Int)))) ∧ Below w.heap.size w w' := by
 have hal : Below w.heap.size w (w.alloc (.cells #[.int .i64 pl, .slice A n c] 85)) := (Below.refl _ w).alloc (qr _) _
 have ilt := World.block_lt_of_cell? _ _ hi
 dsimp only at ilt
 have hw := (Whole.new w w.heap.size 85 [.int .i64 pl, .slice A n c] rfl).cell 0
 simp only [qgz] at hw
 have HB := qh hal
 clear hal
 go_enter Tryz.func50, Tryz.ntmps50
 go_wp2
 go_ret
 exact ⟨ret_bool (by by_cases e : pl = (i : Int) <;> simp [e]), HB.out⟩
end
section
open Go.RowKit Qm
def litL (ps : List Pk) (v : Ws) (l : List Mem) : List Int := if validE ps v l = 0 then litsB (chVec ps v l) else []
def LiteralsP (ps : List Pk) (v : Ws) (l : List Mem) (w : World) (e : Ending) (w' : World) : Prop :=
 ∃ A c, e = .returned (.tuple #[.slice A (litL ps v l).length c, .int .i64 (validE ps v l)]) ∧ RInts w' (fun k => w.heap.size ≤ k ∧ k < w'.heap.size) A (litL ps v l).length (litL ps v l) ∧ (litL ps v l).length ≤ c ∧ c ≤ maxLen ∧ Below w.heap.size w w'
theorem LiteralsP.err {ps : List Pk} {v : Ws} {l : List Mem} {w w' : World} {z : Int} (hz : z ≠ 0) (he : validE ps v l = z) (hb : Below w.heap.size w w') : LiteralsP ps v l w (.returned (.tuple #[.slice none 0 0, .int .i64 z])) w' := by
 have hl : litL ps v l = [] := by unfold litL; rw [if_neg (by rw [he]; exact hz)]
 exact ⟨none, 0, by rw [hl, he]; rfl, by rw [hl]; exact RInts.nil_, by rw [hl]; exact qr _, Nat.zero_le _, hb⟩
def LiteralsQ (ps : List Pk) (v : Ws) (l : List Mem) (w : World) (e : Ending) (w' : World) : Prop :=
 LiteralsP ps v l w e w' ∧ ∀ A n c z, e = .returned (.tuple #[.slice A n c, z]) → 0 < n → ∃ g d, A = some ⟨g, 1, none⟩ ∧ w.heap.size ≤ g ∧ Whole w' g 3 (d :: (litL ps v l).map (.int .i64))
theorem LiteralsQ.none_ {ps : List Pk} {v : Ws} {l : List Mem} {w w' : World} {B : Option Addr} {k : Nat} {x : Value} (h : LiteralsP ps v l w (.returned (.tuple #[.slice B 0 k, x])) w') : LiteralsQ ps v l w (.returned (.tuple #[.slice B 0 k, x])) w' :=
 ⟨h, fun A n c z e h0 => by simp at e; omega⟩
structure Lb (w : World) (A : Option Addr) (n c : Nat) (wv : List Value) (wx : World) : Prop where
 t : Whole wx w.heap.size 24 [.slice A n c]
 wi : Whole wx (w.heap.size + 1) 30 wv
 bel : Below w.heap.size w wx
section
variable {w : World} {A : Option Addr} {n c : Nat} {wv : List Value} {wx wy : World}
theorem Lb.below {B : Nat} (h : Lb w A n c wv wx) (hb : Below B wx wy) (hB : w.heap.size + 1 < B) : Lb w A n c wv wy :=
 ⟨h.t.below hb (by omega), h.wi.below hb (by omega), h.bel.trans (hb.mono (by omega))⟩
theorem Lb.move (h : Lb w A n c wv wx) (hb : Below wx.heap.size wx wy) : Lb w A n c wv wy := h.below hb h.wi.lt
theorem Lb.new (w : World) (A : Option Addr) (n c : Nat) (wv : List Value) : Lb w A n c wv ((w.alloc (.cells #[.slice A n c] 24)).alloc (.cells wv.toArray 30)) :=
 ⟨(Whole.new w _ _ [_] rfl).alloc _, Whole.new (w.alloc (.cells #[.slice A n c] 24)) (w.heap.size + 1) _ wv (by simp), ((Below.refl _ w).alloc (qr _) _).alloc (by simp) _⟩
end
theorem make_intsN (n : Nat) (hn : n ≤ 100000) (w : World) {x : Int} (hx : x = n) : (Instr.makeSlice 27 (.int .i64 x) (.int .i64 x)).run Tryz.prog w = .ok (.slice (some ⟨w.heap.size, 0, none⟩) n n) (w.alloc (.cells ((List.range n).map fun _ => Value.int .i64 0).toArray 3)) := by
 subst hx; exact make_intsE n hn w
structure Lst (w3 : World) (N : Nat) (md : List Int) (wr : World) : Prop where
 bm : Whole wr (w3.heap.size + 1) 27 [.slice (some ⟨w3.heap.size, 0, none⟩) N N]
 g : Whole wr w3.heap.size 3 (md.map (.int .i64))
 bel : Below w3.heap.size w3 wr
section
variable {w3 : World} {N : Nat} {md : List Int} {wr wy : World}
theorem Lst.move (h : Lst w3 N md wr) (hb : Below wr.heap.size wr wy) : Lst w3 N md wy := ⟨h.bm.below hb h.bm.lt, h.g.below hb h.g.lt, h.bel.trans (hb.mono h.bel.size)⟩
theorem Lst.put (h : Lst w3 N md wr) (p : Nat) (x : Int) : Lst w3 N (md.set p x) (wr.setCell ⟨w3.heap.size, p, none⟩ (.int .i64 x)) :=
 ⟨h.bm.far (by show w3.heap.size + 1 ≠ w3.heap.size; omega) _, by rw [List.map_set]; exact h.g.set_ p _, h.bel.setCell (p := ⟨w3.heap.size, p, none⟩) (qr _) _⟩
theorem Lst.tail (h : Lst w3 N md wr) (hl : md.length = N) (hN : 1 ≤ N) : RInts wr (fun k => k = w3.heap.size) (some ⟨w3.heap.size, 1, none⟩) (N - 1) (md.drop 1) := by
 have h0 := h.g.ints (S := fun k => k = w3.heap.size) rfl hl
 have := Row.drop h0 (k := 1) (cap := N + 1) (by omega) (by omega)
 rw [if_neg (by omega)] at this
 unfold RInts; rw [List.map_drop]; exact this
theorem Lst.new (w3 : World) (N : Nat) : Lst w3 N ((List.range N).map fun _ => 0) ((w3.alloc (.cells ((List.range N).map fun _ => Value.int .i64 0).toArray 3)).alloc (.cells #[.slice (some ⟨w3.heap.size, 0, none⟩) N N] 27)) := by
 have h1 := (Whole.new w3 w3.heap.size 3 ((List.range N).map fun _ => Value.int .i64 0) rfl).alloc (.cells #[.slice (some ⟨w3.heap.size, 0, none⟩) N N] 27)
 refine ⟨Whole.new (w3.alloc (.cells ((List.range N).map fun _ => Value.int .i64 0).toArray 3)) (w3.heap.size + 1) _ [_] (by simp), by rw [List.map_map]; exact h1, ((Below.refl _ w3).alloc (qr _) _).alloc (by simp) _⟩
end
theorem onsX_at {X : Chs} {ps : List Pk} {i : Nat} (hip : i < ps.length) : (onsX X ps).getD i [] = (List.range (pkOf ps i).fs.length).map (X.on i) := by
 unfold onsX
 rw [qgd, qgm, List.getElem?_range hip]; rfl
theorem literals_q (ps : List Pk) (v : Ws) (l : List Mem) (S : Nat → Prop) (A B : Option Addr) (n c q1 d1 : Nat) (A1 A2 A3 A4 : Option Addr) (n1 c1 n2 c2 n3 c3 n4 c4 : Nat) (w : World) (hT : RTree w S A n ps) (hnc : n ≤ c) (hc : c ≤ maxLen) (hV : WsAt w S A1 n1 c1 A2 n2 c2 A3 n3 c3 A4 n4 c4 v) (hL : RSet w S B q1 l) (hqd : q1 ≤ d1) (hd : d1 ≤ maxLen) (hS : ∀ k, S k → k < w.heap.size) :
  Calls Tryz.prog 13 #[.agg #[.slice A n c], .agg #[.slice A1 n1 c1, .slice A2 n2 c2, .slice A3 n3 c3, .slice A4 n4 c4], .slice B q1 d1] w (LiteralsQ ps v l w) := by
 have X0 := qh (Lb.new w A n c [.slice A1 n1 c1, .slice A2 n2 c2, .slice A3 n3 c3, .slice A4 n4 c4])
 have HT := qh hT; have HS := qh hS; have HW := qh hV; have HL := qh hL
 have HQL := qh hL.len
 have HCC := qh (And.intro hnc hc)
 have Hlt := qh (fun (wx : World) (hb : Below w.heap.size w wx) k hk => ql (HS.out k hk) hb.size)
 have Hva := qh (valid_any ps v l S A B n c q1 d1 A1 A2 A3 A4 n1 c1 n2 c2 n3 c3 n4 c4 _ (HT.out.under X0.out.bel HS.out) hnc hc (HW.out.under X0.out.bel HS.out) (HL.out.under X0.out.bel HS.out) hqd hd (Hlt.out _ X0.out.bel))
 have Hch := qh (fun (wx : World) (hb : Below w.heap.size w wx) => choices_any ps v S A n c A1 n1 c1 A2 n2 c2 A3 n3 c3 A4 n4 c4 wx (HT.out.under hb HS.out) hnc hc (HW.out.under hb HS.out) (Hlt.out _ hb))
 unfold maxLen at hc hd
 clear hT hV hS hL
 obtain ⟨z, hz⟩ : ∃ z, z = validE ps v l := ⟨_, rfl⟩
 rw [← hz] at Hva
 have HZ := qh hz
 clear hz
 go_enter Tryz.func13, Tryz.ntmps13
 go_wp2_with (first | (go_at_call 18; refine Hva.out.mono ?_; rintro e w2 ⟨rfl, hb2⟩; refine Hid.out ?_))
 refine qh ?_
 have X2 := qh (X0.out.move hb2)
 clear hb2 Hva X0
 by_cases h0 : z = 0
 ·subst h0
  have hwz : ckWish ps v = 0 := by
   have h := HZ.out
   unfold validE at h
   split at h
   ·rename_i h2; exact absurd h.symm h2
   ·rename_i h2; simpa using h2
  have hsz : ckSet ps l = 0 := by
   have h := HZ.out
   unfold validE at h
   rw [if_neg (by rw [hwz]; simp)] at h
   exact h.symm
  have HC2 := qh (Hch.out _ X2.out.bel hwz)
  have HSZ := qh hsz
  have t0 := X2.out.t.cell 0
  have v0 := X2.out.wi.cell 0; have v1 := X2.out.wi.cell 1; have v2 := X2.out.wi.cell 2; have v3 := X2.out.wi.cell 3
  have wlt := X2.out.wi.lt
  have tlt := X2.out.t.lt
  have HWZ := qh hwz
  simp only [qgz, qgs] at t0 v0 v1 v2 v3
  clear hwz hsz Hch
  go_wp2_with (first | (go_at_call 44; refine HC2.out.mono ?_; rintro e w3 ⟨q, hq1, hq2, hq3, hq4, hq5, hq6, hq7, rfl, hd3, hb3⟩; refine Hid.out ?_))
  refine qh ?_
  subst hq3 hq5
  have HX := qh hq6
  have X3 := qh (X2.out.move hb3)
  have HD3 := qh hd3
  have HLen := qh hd3.len
  have WP := qh (wish_parts HWZ.out)
  have hmany : manyC q.ps ≤ 14 := (tree_parts WP.out.tree).2.1
  obtain ⟨P, hs, HK⟩ := HD3.out
  have d3 := HK.blk.cell 3
  have dlt := HK.blk.lt
  simp only [qgz, qgs] at d3
  obtain ⟨MC, hMC⟩ : ∃ x, x = manyC q.ps := ⟨_, rfl⟩
  rw [← hMC] at d3 hmany
  have HMC := qh hMC
  obtain ⟨N, hN⟩ : ∃ x : Nat, x = MC + 1 := ⟨_, rfl⟩
  have hms := fun wx => make_intsN N (by omega) wx (x := (MC : Int) + 1) (by omega)
  have HN := qh hN
  have henter : ∀ (args : Array Value) (W : World), (callFunc 48 args).run Tryz.prog W = .ok (.enter 48 args) W := fun args W => by kernel_rfl
  have L4 := qh (Lst.new w3 N)
  have X4 := qh (X3.out.below L4.out.bel X3.out.wi.lt)
  have t0 := X3.out.t.cell 0
  have tlt := X3.out.t.lt
  have tlt2 : w.heap.size < w3.heap.size + 1 := by omega
  have h8 : q.n ≤ 8 := by rw [← HLen.out]; exact (tree_parts WP.out.tree).1
  have HA0 : Hid (Asg q.ps v l ((List.range N).map fun _ => 0) (Qp q.ps v 0)) := qh (by rw [hN, hMC]; exact Asg.start)
  simp only [qgz] at t0
  clear hd3 hb3 hq1 hq2 hq4 hq6 hq7 HC2 v0 v1 v2 v3 wlt X2 HK hMC hN
  go_wp2
  generalize (w3.alloc (.cells ((List.range N).map fun _ => Value.int .i64 0).toArray 3)).alloc (.cells #[.slice (some ⟨w3.heap.size, 0, none⟩) N N] 27) = w4 at L4 X4 ⊢
  clear t0 tlt tlt2
  have t0 := X4.out.t.cell 0
  have tlt := X4.out.t.lt
  simp only [qgz] at t0
  go_wp2
  have HB4 : Hid (Below w4.heap.size w4 w4) := qh (Below.refl _ _)
  have tlt4 : w3.heap.size + 1 < w4.heap.size := L4.out.bm.lt
  have HLT4 := qh tlt4
  have HDI : Hid (DIn q.X q.ps ⟨MC, [], fun _ _ => 0⟩) := qh (by rw [HMC.out, HX.out]; exact DIn.start WP.out.ok)
  have HNZ : Hid (∀ i k, i < q.ps.length → k < (pkOf q.ps i).fs.length → q.X.on i k ≠ 0) := qh (fun i k hi hk => by rw [HX.out]; exact ((chW_ok WP.out.ok).on i hi k hk).1)
  have HNP : Hid (∀ i, i < q.ps.length → q.X.pick i ≠ 0) := qh (fun i hi => by rw [HX.out]; exact ((chW_ok WP.out.ok).pick i hi).1)
  have HM14 := qh hmany
  clear t0 tlt tlt4 d3 dlt hms hmany
  go_loopg [41] q.n (fun g iv wr => ∃ (i : Nat) (md : List Int), Hid (i + g = q.n) ∧ iv = .int .i64 i ∧ Hid (Lst w3 N md wr) ∧ Hid (Asg q.ps v l md (Qp q.ps v i)))
  case atStart => exact ⟨0, _, qh (Nat.zero_add _), rfl, L4, HA0⟩
  case round =>
   obtain ⟨g3, rfl⟩ : ∃ x : Nat, x = gk := ⟨_, rfl⟩
   obtain ⟨wo, rfl⟩ : ∃ x : World, x = wr := ⟨_, rfl⟩
   obtain ⟨i, md, Hi, rfl, LO, HA⟩ := hrel
   clear HB4
   by_cases hi : i < q.n
   ·have hip : i < q.ps.length := by rw [HLen.out]; exact hi
    have hi1 : (i : Int) < q.n := by omega
    have hal : Below wo.heap.size wo (wo.alloc (.cells #[.int .i64 (i : Int)] 3)) := (Below.refl _ wo).alloc (qr _) _
    have IX := qh (Whole.new wo wo.heap.size 3 [.int .i64 (i : Int)] rfl)
    have LX := qh (LO.out.move hal)
    have X5 := qh (X3.out.below LX.out.bel X3.out.wi.lt)
    have Hix := qh (indexF_M (RMem _ S) (fun m : Mem => decide (m.pl = (i : Int))) B q1 d1 l 50 #[.pointer (some ⟨wo.heap.size, 0, none⟩)] _ S (HL.out.under X5.out.bel HS.out) (Hlt.out _ X5.out.bel) (qlt hqd hd) ⟨fun args W => by kernel_rfl, fun m hm cx W hW hR => by
     obtain ⟨A5, n5, c5, rfl, _⟩ := hR
     have hc := (IX.out.below hW IX.out.lt).cell 0
     simp only [qgz] at hc
     exact litAt_any m.pl A5 n5 c5 wo.heap.size i W hc⟩ (fun x y hR => by obtain ⟨A5, n5, c5, rfl, _⟩ := hR; exact ⟨_, _, _, _, rfl⟩))
    clear hal
    go_wp2_with (first | (go_at_call 49; refine Hix.out.mono ?_; rintro e w5 ⟨rfl, hb5⟩; refine Hid.out ?_))
    refine qh ?_
    have L5 := qh (LX.out.move hb5)
    have hbd := below_drewN (Below.refl w5.heap.size w5) 1
    have LD := qh (L5.out.move hbd)
    have I5 := qh (IX.out.below hb5 IX.out.lt)
    have ID := qh (I5.out.below hbd I5.out.lt)
    have HMDL : Hid (md.length = N) := qh (by rw [HA.out.len, HN.out, HMC.out])
    obtain ⟨pb, po, hpA⟩ := HD3.out.pA (by omega)
    obtain ⟨c1, c2, c3, c4⟩ := (HD3.out.move L5.out.bel).pk hpA hi
    have hpn := HNP.out i hip
    have hpi := HDI.out.pick i hip
    dsimp only at hpi
    obtain ⟨x, hx⟩ : ∃ x, x = q.X.pick i := ⟨_, rfl⟩
    have HXI := qh hx
    rw [← hx] at c2 hpi hpn
    have hx0 : x ≠ 0 := hpn
    have hxN : x.natAbs < N := by have := HN.out; omega
    have i0 := I5.out.cell 0
    have ilt := I5.out.lt
    simp only [qgz] at i0
    have hi0 : (0 : Int) ≤ (i : Int) := by omega
    have hpc : q.n ≤ q.pc := HD3.out.caps.2.1.1
    clear hb5 hbd hpn hpi hx Hix LX IX
    rcases atP_ix (l := l) (i := i) with ⟨hix, hat⟩ | ⟨k, m, hix, hlk, hat⟩
    ·rw [hix]
     have HAT := qh hat
     clear hix hat
     have Hset := qh (litSet_any x false (w3.heap.size + 1) w3.heap.size N _ LD.out.bm md LD.out.g HMDL.out hx0 hxN (by have := HM14.out; have := HN.out; omega))
     go_upto_region 11 with fail
     refine wp_region_held_drew (S := (fun w' => w'.cell? ⟨q.b, 1, none⟩ = some (.slice (some ⟨pb, po, none⟩) q.n q.pc) ∧ w'.cell? ⟨pb, po + i, none⟩ = some (.int .i64 x) ∧ w'.cell? ⟨wo.heap.size, 0, none⟩ = some (.int .i64 (i : Int)))) (by kernel_rfl) (⟨c1, c2, i0⟩) (fun hHeld => ?_)
     first | (refine tkA (v := ?_) held_at0 ?_ ?_; rotate_left; focus (intro _ h; (try dsimp only at h); go_simp; (try with_reducible rfl); done)) | refine tkB held_at0 ?_
     (try simp only [Act.put, qsa, qsz, qss])
     first | (refine tkA (v := ?_) held_at1 ?_ ?_; rotate_left; focus (intro _ h; (try dsimp only at h); go_simp; (try with_reducible rfl); done)) | refine tkB held_at1 ?_
     (try simp only [Act.put, qsa, qsz, qss])
     first | (refine tkA (v := ?_) held_at2 ?_ ?_; rotate_left; focus (intro _ h; (try dsimp only at h); go_simp; (try with_reducible rfl); done)) | refine tkB held_at2 ?_
     (try simp only [Act.put, qsa, qsz, qss])
     first | (refine tkA (v := ?_) held_at3 ?_ ?_; rotate_left; focus (intro _ h; (try dsimp only at h); go_simp; (try with_reducible rfl); done)) | refine tkB held_at3 ?_
     (try simp only [Act.put, qsa, qsz, qss])
     first | (refine tkA (v := ?_) held_at4 ?_ ?_; rotate_left; focus (intro _ h; (try dsimp only at h); go_simp; (try with_reducible rfl); done)) | refine tkB held_at4 ?_
     (try simp only [Act.put, qsa, qsz, qss])
     first | (refine tkA (v := ?_) held_at5 ?_ ?_; rotate_left; focus (intro _ h; (try dsimp only at h); go_simp; (try with_reducible rfl); done)) | refine tkB held_at5 ?_
     (try simp only [Act.put, qsa, qsz, qss])
     first | (refine tkA (v := ?_) held_at6 ?_ ?_; rotate_left; focus (intro _ h; (try dsimp only at h); go_simp; (try with_reducible rfl); done)) | refine tkB held_at6 ?_
     (try simp only [Act.put, qsa, qsz, qss])
     first | (refine tkA (v := ?_) held_at7 ?_ ?_; rotate_left; focus (intro _ h; (try dsimp only at h); go_simp; (try with_reducible rfl); done)) | refine tkB held_at7 ?_
     (try simp only [Act.put, qsa, qsz, qss])
     first | (refine tkA (v := ?_) held_at8 ?_ ?_; rotate_left; focus (intro _ h; (try dsimp only at h); go_simp; (try with_reducible rfl); done)) | refine tkB held_at8 ?_
     (try simp only [Act.put, qsa, qsz, qss])
     first | (refine tkA (v := ?_) held_at9 ?_ ?_; rotate_left; focus (intro _ h; (try dsimp only at h); go_simp; (try with_reducible rfl); done)) | refine tkB held_at9 ?_
     (try simp only [Act.put, qsa, qsz, qss])
     refine wpAnyH_ready (rs := [10]) (by kernel_rfl) (by simp) ?_
     refine AllReadyH.cons held_at10 (fun K hK => ?_) AllReadyH.nil
     (try simp only [qsa, qsz, qss])
     go_simp
     go_at_call 48
     refine Hset.out.mono ?_
     rintro e6 w6 ⟨rfl, hw6⟩
     have HY : Hid ((if (decide (0 < x) == false) = true then (x.natAbs : Int) else -(x.natAbs : Int)) = litV q.ps v l x.natAbs) := qh (by have := (litV_pick WP.out.ok (v := v) (l := l) hip (t := false) (by rw [HAT.out]; rfl)); rw [← HX.out, ← HXI.out] at this; exact this.symm)
     have L6 := qh (LD.out.put x.natAbs (if (decide (0 < x) == false) = true then (x.natAbs : Int) else -(x.natAbs : Int)))
     have I6 := qh (ID.out.far (p := ⟨w3.heap.size, x.natAbs, none⟩) (by show wo.heap.size ≠ w3.heap.size; have := LO.out.bm.lt; omega) (.int .i64 (if (decide (0 < x) == false) = true then (x.natAbs : Int) else -(x.natAbs : Int))))
     rw [← hw6] at L6 I6
     clear hw6 Hset
     have HA6 : Hid (Asg q.ps v l _ (Qf q.ps v i 0)) := qh ((HA.out.put (p := x.natAbs) (y := (if (decide (0 < x) == false) = true then (x.natAbs : Int) else -(x.natAbs : Int))) (by rw [← HMC.out, ← HN.out]; exact hxN) HY.out).mono fun y hy => by rw [HXI.out, HX.out]; exact Qf_zero hy)
     generalize md.set x.natAbs (if (decide (0 < x) == false) = true then (x.natAbs : Int) else -(x.natAbs : Int)) = md6 at L6 HA6
     obtain ⟨c1', c2', c3', c4'⟩ := (HD3.out.move L6.out.bel).pk hpA hi
     rw [← HXI.out] at c2'
     have i0' := I6.out.cell 0
     simp only [qgz] at i0'
     refine hK.out _ _ (⟨c1', c2', i0'⟩) (fun hHeld => ?_)
     clear hK K
     (try simp only [Act.put, qsa, qsz, qss])
     refine wpAnyH_done (by kernel_rfl) ?_ _
     clear c1 c2 c3 c4 c1' c2' c3' c4' i0 hHeld
     obtain ⟨P6, hs6, hK6⟩ := (HD3.out.move L6.out.bel).cells
     have d2 := hK6.blk.cell 2
     have dlt := hK6.blk.lt
     have hoc5 : q.n ≤ q.oc := hK6.caps.2.2.1
     simp only [qgz, qgs] at d2
     clear hK6
     obtain ⟨P3, hs3, hK3⟩ := HD3.out.cells
     obtain ⟨b4, o4, A5, n5, c5, hoA, hbS4, hoc3, hor, hn5, hc5⟩ := hK3.st.ons.at_ hi
     rw [onsX_at hip] at hor
     have hn5l := hor.len
     simp only [List.length_map, List.length_range] at hn5l
     rw [hoA] at d2
     have hb43 : b4 < w3.heap.size := (hK3.s1 _ hbS4).2.1
     have hb4 : b4 < w6.heap.size := ql hb43 L6.out.bel.size
     have hoc := (L6.out.bel.cell (p := ⟨b4, o4 + i, none⟩) hb43).trans hoc3
     have HOR := qh hor
     have HS1 := qh (fun k hk => (hK3.s1 k hk).2.1)
     have HN5 := qh hn5l
     have hn14 : n5 ≤ 14 := by
      have h := flagsBef_mono (ps := q.ps) (i := i + 1) (j := q.ps.length) (by omega)
      have h2 := (tree_parts WP.out.tree).2.1
      unfold manyC at h2
      simp only [flagsBef] at h
      omega
     have i0 := I6.out.cell 0
     have ilt := I6.out.lt
     simp only [qgz] at i0
     clear hK3 hoA hbS4 hor hn5 hc5 hn5l hoc3 hb43 hpA hpc LD ID L5 I5
     go_wp2
     go_quiet (fail)
     rename_i nq
     have L7 := qh (L6.out.move (below_drewN (Below.refl _ w6) nq))
     generalize w6.drewN nq = w7 at L7 ⊢
     clear d2 dlt hoc hb4 i0 ilt L6 I6
     go_wp2
     go_loopg [66] n5 (fun g iv wr => ∃ (kk : Nat) (mr : List Int), Hid (kk + g = n5) ∧ iv = .int .i64 kk ∧ Hid (Lst w3 N mr wr) ∧ Hid (Asg q.ps v l mr (Qf q.ps v i kk)))
     case atStart => exact ⟨0, _, qh (Nat.zero_add _), rfl, L7, HA6⟩
     case round =>
      obtain ⟨kk, mr, Hk, rfl, LR, HR⟩ := hrel
      clear L7 HA6
      by_cases hk : kk < n5
      ·obtain ⟨b6, o6, rfl, hbS6, hfc⟩ := (HOR.out.below LR.out.bel HS1.out).at_ hk
       have hkl : kk < (pkOf q.ps i).fs.length := by have := HN5.out; omega
       rw [getD_range hkl] at hfc
       have hb6 : b6 < wr.heap.size := ql (HS1.out _ hbS6) LR.out.bel.size
       have hob := HDI.out.on i kk hip hkl
       have hoz := HNZ.out i kk hip hkl
       dsimp only at hob
       obtain ⟨x2, hx2⟩ : ∃ x, x = q.X.on i kk := ⟨_, rfl⟩
       have HX2 := qh hx2
       rw [← hx2] at hfc hob hoz
       have hkn : (kk : Int) < n5 := by omega
       have hkk0 : (0 : Int) ≤ (kk : Int) := by omega
       have hx2N : x2.natAbs < N := by have := HN.out; omega
       have hx2b : -200000 ≤ x2 ∧ x2 ≤ 200000 := by have := HN.out; have := HM14.out; omega
       have HMR : Hid (mr.length = N) := qh (by rw [HR.out.len, HN.out, HMC.out])
       clear hbS6 hob hx2
       have hwr : IntKind.i64.wrap (-x2) = -x2 := IntWalk.i64_in _ (by omega)
       obtain ⟨y, hy⟩ : ∃ y : Nat, y = x2.natAbs := ⟨_, rfl⟩
       have hmx : max x2 (-x2) = (y : Int) := by omega
       have hyN : (y : Int) < N := by omega
       have hyn : y < N := by omega
       have hwy : IntKind.i64.wrap (-(y : Int)) = -(y : Int) := IntWalk.i64_in _ (by omega)
       have m0 := LR.out.bm.cell 0
       have mlt := LR.out.bm.lt
       have gf := LR.out.g.free y
       have glt := LR.out.g.lt
       have hcy : -(max x2 (-x2)) = -(y : Int) := by omega
       have gc : wr.cell? ⟨w3.heap.size, y, none⟩ = some (.int .i64 (mr.getD y 0)) := by
        have hmr := HMR.out
        rw [LR.out.g.cell, qgm, qge (by omega), qgd, qge (by omega)]; rfl
       simp only [qgz] at m0
       have L8 := qh (LR.out.put y (-(y : Int)))
       have HA8 : Hid (Asg q.ps v l (mr.set y (-(y : Int))) (Qf q.ps v i (kk + 1))) := qh ((HR.out.put (p := y) (by rw [← HMC.out, ← HN.out]; exact hyn) (by rw [hy, HX2.out, HX.out]; exact (litV_off hip hkl HAT.out).symm)).mono fun z hz => by rw [hy, HX2.out, HX.out]; exact Qf_succ hz)
       clear hy hcy hx2N
       go_wp2
       go_roundg (gk - 1)
       case measure => have := Hk.out; omega
       case rel => exact ⟨kk + 1, _, qh (by have := Hk.out; omega), by go_num, L8, HA8⟩
      ·have hkn : ¬ (kk : Int) < n5 := by omega
       have HKE : Hid (kk = (pkOf q.ps i).fs.length) := qh (by have := HN5.out; have := Hk.out; omega)
       go_wp2
       go_roundg (g3 - 1)
       case measure => have := Hi.out; omega
       case rel => exact ⟨i + 1, mr, qh (by have := Hi.out; omega), by go_num, LR, qh (HR.out.mono fun y hy => by rw [HKE.out]; exact Qp_succ hy)⟩
    ·rw [hix]
     have HAT := qh hat
     have HLK := qh hlk
     have hk0 : (0 : Int) ≤ (k : Int) := by omega
     have hkq : k < q1 := by rw [← HQL.out]; exact (List.getElem?_eq_some_iff.1 hlk).1
     have hkqi : (k : Int) < q1 := by omega
     have HOK : Hid (m.on.length = (pkOf q.ps i).fs.length) := qh (by
      have h1 := ckMs_mem (ckSet_zero HSZ.out).2 m (List.mem_of_getElem? hlk)
      have h2 := List.find?_some hat
      have h3 : m.pl = (i : Int) := of_decide_eq_true h2
      rw [h1.2.2, h3])
     clear hix hat hlk
     have Hset := qh (litSet_any x true (w3.heap.size + 1) w3.heap.size N _ LD.out.bm md LD.out.g HMDL.out hx0 hxN (by have := HM14.out; have := HN.out; omega))
     go_upto_region 11 with fail
     refine wp_region_held_drew (S := (fun w' => w'.cell? ⟨q.b, 1, none⟩ = some (.slice (some ⟨pb, po, none⟩) q.n q.pc) ∧ w'.cell? ⟨pb, po + i, none⟩ = some (.int .i64 x) ∧ w'.cell? ⟨wo.heap.size, 0, none⟩ = some (.int .i64 (i : Int)))) (by kernel_rfl) (⟨c1, c2, i0⟩) (fun hHeld => ?_)
     first | (refine tkA (v := ?_) held_at0 ?_ ?_; rotate_left; focus (intro _ h; (try dsimp only at h); go_simp; (try with_reducible rfl); done)) | refine tkB held_at0 ?_
     (try simp only [Act.put, qsa, qsz, qss])
     first | (refine tkA (v := ?_) held_at1 ?_ ?_; rotate_left; focus (intro _ h; (try dsimp only at h); go_simp; (try with_reducible rfl); done)) | refine tkB held_at1 ?_
     (try simp only [Act.put, qsa, qsz, qss])
     first | (refine tkA (v := ?_) held_at2 ?_ ?_; rotate_left; focus (intro _ h; (try dsimp only at h); go_simp; (try with_reducible rfl); done)) | refine tkB held_at2 ?_
     (try simp only [Act.put, qsa, qsz, qss])
     first | (refine tkA (v := ?_) held_at3 ?_ ?_; rotate_left; focus (intro _ h; (try dsimp only at h); go_simp; (try with_reducible rfl); done)) | refine tkB held_at3 ?_
     (try simp only [Act.put, qsa, qsz, qss])
     first | (refine tkA (v := ?_) held_at4 ?_ ?_; rotate_left; focus (intro _ h; (try dsimp only at h); go_simp; (try with_reducible rfl); done)) | refine tkB held_at4 ?_
     (try simp only [Act.put, qsa, qsz, qss])
     first | (refine tkA (v := ?_) held_at5 ?_ ?_; rotate_left; focus (intro _ h; (try dsimp only at h); go_simp; (try with_reducible rfl); done)) | refine tkB held_at5 ?_
     (try simp only [Act.put, qsa, qsz, qss])
     first | (refine tkA (v := ?_) held_at6 ?_ ?_; rotate_left; focus (intro _ h; (try dsimp only at h); go_simp; (try with_reducible rfl); done)) | refine tkB held_at6 ?_
     (try simp only [Act.put, qsa, qsz, qss])
     first | (refine tkA (v := ?_) held_at7 ?_ ?_; rotate_left; focus (intro _ h; (try dsimp only at h); go_simp; (try with_reducible rfl); done)) | refine tkB held_at7 ?_
     (try simp only [Act.put, qsa, qsz, qss])
     first | (refine tkA (v := ?_) held_at8 ?_ ?_; rotate_left; focus (intro _ h; (try dsimp only at h); go_simp; (try with_reducible rfl); done)) | refine tkB held_at8 ?_
     (try simp only [Act.put, qsa, qsz, qss])
     first | (refine tkA (v := ?_) held_at9 ?_ ?_; rotate_left; focus (intro _ h; (try dsimp only at h); go_simp; (try with_reducible rfl); done)) | refine tkB held_at9 ?_
     (try simp only [Act.put, qsa, qsz, qss])
     refine wpAnyH_ready (rs := [10]) (by kernel_rfl) (by simp) ?_
     refine AllReadyH.cons held_at10 (fun K hK => ?_) AllReadyH.nil
     (try simp only [qsa, qsz, qss])
     go_simp
     go_at_call 48
     refine Hset.out.mono ?_
     rintro e6 w6 ⟨rfl, hw6⟩
     have HY : Hid ((if (decide (0 < x) == true) = true then (x.natAbs : Int) else -(x.natAbs : Int)) = litV q.ps v l x.natAbs) := qh (by have := (litV_pick WP.out.ok (v := v) (l := l) hip (t := true) (by rw [HAT.out]; rfl)); rw [← HX.out, ← HXI.out] at this; exact this.symm)
     have L6 := qh (LD.out.put x.natAbs (if (decide (0 < x) == true) = true then (x.natAbs : Int) else -(x.natAbs : Int)))
     have I6 := qh (ID.out.far (p := ⟨w3.heap.size, x.natAbs, none⟩) (by show wo.heap.size ≠ w3.heap.size; have := LO.out.bm.lt; omega) (.int .i64 (if (decide (0 < x) == true) = true then (x.natAbs : Int) else -(x.natAbs : Int))))
     rw [← hw6] at L6 I6
     clear hw6 Hset
     have HA6 : Hid (Asg q.ps v l _ (Qf q.ps v i 0)) := qh ((HA.out.put (p := x.natAbs) (y := (if (decide (0 < x) == true) = true then (x.natAbs : Int) else -(x.natAbs : Int))) (by rw [← HMC.out, ← HN.out]; exact hxN) HY.out).mono fun y hy => by rw [HXI.out, HX.out]; exact Qf_zero hy)
     generalize md.set x.natAbs (if (decide (0 < x) == true) = true then (x.natAbs : Int) else -(x.natAbs : Int)) = md6 at L6 HA6
     obtain ⟨c1', c2', c3', c4'⟩ := (HD3.out.move L6.out.bel).pk hpA hi
     rw [← HXI.out] at c2'
     have i0' := I6.out.cell 0
     simp only [qgz] at i0'
     refine hK.out _ _ (⟨c1', c2', i0'⟩) (fun hHeld => ?_)
     clear hK K
     (try simp only [Act.put, qsa, qsz, qss])
     refine wpAnyH_done (by kernel_rfl) ?_ _
     clear c1 c2 c3 c4 c1' c2' c3' c4' i0 hHeld
     obtain ⟨P6, hs6, hK6⟩ := (HD3.out.move L6.out.bel).cells
     have d2 := hK6.blk.cell 2
     have dlt := hK6.blk.lt
     have hoc5 : q.n ≤ q.oc := hK6.caps.2.2.1
     simp only [qgz, qgs] at d2
     clear hK6
     obtain ⟨P3, hs3, hK3⟩ := HD3.out.cells
     obtain ⟨b4, o4, A5, n5, c5, hoA, hbS4, hoc3, hor, hn5, hc5⟩ := hK3.st.ons.at_ hi
     rw [onsX_at hip] at hor
     have hn5l := hor.len
     simp only [List.length_map, List.length_range] at hn5l
     rw [hoA] at d2
     have hb43 : b4 < w3.heap.size := (hK3.s1 _ hbS4).2.1
     have hb4 : b4 < w6.heap.size := ql hb43 L6.out.bel.size
     have hoc := (L6.out.bel.cell (p := ⟨b4, o4 + i, none⟩) hb43).trans hoc3
     have HOR := qh hor
     have HS1 := qh (fun k hk => (hK3.s1 k hk).2.1)
     have HN5 := qh hn5l
     have hn14 : n5 ≤ 14 := by
      have h := flagsBef_mono (ps := q.ps) (i := i + 1) (j := q.ps.length) (by omega)
      have h2 := (tree_parts WP.out.tree).2.1
      unfold manyC at h2
      simp only [flagsBef] at h
      omega
     have i0 := I6.out.cell 0
     have ilt := I6.out.lt
     simp only [qgz] at i0
     clear hK3 hoA hbS4 hor hn5 hc5 hn5l hoc3 hb43 hpA hpc LD ID L5 I5
     go_wp2
     go_quiet (fail)
     rename_i nq
     have L7 := qh (L6.out.move (below_drewN (Below.refl _ w6) nq))
     generalize w6.drewN nq = w7 at L7 ⊢
     clear d2 dlt hoc hb4 i0 ilt L6 I6
     go_wp2
     go_loopg [66] n5 (fun g iv wr => ∃ (kk : Nat) (mr : List Int), Hid (kk + g = n5) ∧ iv = .int .i64 kk ∧ Hid (Lst w3 N mr wr) ∧ Hid (Asg q.ps v l mr (Qf q.ps v i kk)))
     case atStart => exact ⟨0, _, qh (Nat.zero_add _), rfl, L7, HA6⟩
     case round =>
      obtain ⟨kk, mr, Hk, rfl, LR, HR⟩ := hrel
      clear L7 HA6
      by_cases hk : kk < n5
      ·obtain ⟨b6, o6, rfl, hbS6, hfc⟩ := (HOR.out.below LR.out.bel HS1.out).at_ hk
       have hkl : kk < (pkOf q.ps i).fs.length := by have := HN5.out; omega
       rw [getD_range hkl] at hfc
       have hb6 : b6 < wr.heap.size := ql (HS1.out _ hbS6) LR.out.bel.size
       have hob := HDI.out.on i kk hip hkl
       have hoz := HNZ.out i kk hip hkl
       dsimp only at hob
       obtain ⟨x2, hx2⟩ : ∃ x, x = q.X.on i kk := ⟨_, rfl⟩
       have HX2 := qh hx2
       rw [← hx2] at hfc hob hoz
       have hkn : (kk : Int) < n5 := by omega
       have hkk0 : (0 : Int) ≤ (kk : Int) := by omega
       have hx2N : x2.natAbs < N := by have := HN.out; omega
       have hx2b : -200000 ≤ x2 ∧ x2 ≤ 200000 := by have := HN.out; have := HM14.out; omega
       have HMR : Hid (mr.length = N) := qh (by rw [HR.out.len, HN.out, HMC.out])
       clear hbS6 hob hx2
       obtain ⟨mb, mo, m', B', kb, db, hBe, hbS, hm', hkd, hdm, hon, g0, g1⟩ := (HL.out.under ((X3.out.below LR.out.bel X3.out.wi.lt).bel) HS.out).at_ hkq
       rw [HLK.out] at hm'
       injection hm' with hm'
       subst hm'
       subst hBe
       have hbk : kb = n5 := by rw [← hon.len, HOK.out, HN5.out]
       subst hbk
       obtain ⟨b7, o7, rfl, hbS7, h7⟩ := hon.at_ hk
       rw [show m.on.getD kk false = onOf m.on kk from rfl] at h7
       have hmb : mb < wr.heap.size := ql (HS.out _ hbS) (X3.out.below LR.out.bel X3.out.wi.lt).bel.size
       have hb7 : b7 < wr.heap.size := ql (HS.out _ hbS7) (X3.out.below LR.out.bel X3.out.wi.lt).bel.size
       obtain ⟨ob, hob2⟩ : ∃ y, y = onOf m.on kk := ⟨_, rfl⟩
       have HOB := qh hob2
       rw [← hob2] at h7
       have Hset2 := qh (litSet_any x2 ob (w3.heap.size + 1) w3.heap.size N wr LR.out.bm mr LR.out.g HMR.out hoz hx2N (by have := HM14.out; have := HN.out; omega))
       have HA8 : Hid (Asg q.ps v l (mr.set x2.natAbs (if (decide (0 < x2) == ob) = true then (x2.natAbs : Int) else -(x2.natAbs : Int))) (Qf q.ps v i (kk + 1))) := qh ((HR.out.put (p := x2.natAbs) (by rw [← HMC.out, ← HN.out]; exact hx2N) (by rw [HOB.out, HX2.out, HX.out]; exact (litV_on hip hkl HAT.out).symm)).mono fun z hz => by rw [HX2.out, HX.out]; exact Qf_succ hz)
       have L8 := qh (LR.out.put x2.natAbs (if (decide (0 < x2) == ob) = true then (x2.natAbs : Int) else -(x2.natAbs : Int)))
       obtain ⟨yv, hyv⟩ : ∃ y : Int, y = (if (decide (0 < x2) == ob) = true then (x2.natAbs : Int) else -(x2.natAbs : Int)) := ⟨_, rfl⟩
       rw [← hyv] at Hset2 HA8 L8
       clear hyv
       have hqc : q1 ≤ d1 := hqd
       clear hon hob2 hbS hbS7 hoz hx2N
       go_wp2_with (first | (go_at_call 48; refine Hset2.out.mono ?_; rintro e8 w8 ⟨rfl, hw8⟩; have hw9 := hw8.symm; subst hw9; refine Hid.out ?_))
       refine qh ?_
       go_wp2
       go_roundg (gk - 1)
       case measure => have := Hk.out; omega
       case rel => exact ⟨kk + 1, _, qh (by have := Hk.out; omega), by go_num, L8, HA8⟩
      ·have hkn : ¬ (kk : Int) < n5 := by omega
       have HKE : Hid (kk = (pkOf q.ps i).fs.length) := qh (by have := HN5.out; have := Hk.out; omega)
       go_wp2
       go_roundg (g3 - 1)
       case measure => have := Hi.out; omega
       case rel => exact ⟨i + 1, mr, qh (by have := Hi.out; omega), by go_num, LR, qh (HR.out.mono fun y hy => by rw [HKE.out]; exact Qp_succ hy)⟩
   ·have hi1 : ¬ (i : Int) < q.n := by omega
    have HI : Hid (i = q.n) := qh (by have := Hi.out; omega)
    have m0 := LO.out.bm.cell 0
    have mlt := LO.out.bm.lt
    simp only [qgz] at m0
    have hN1 : (1 : Int) ≤ N := by have := HN.out; omega
    have hN2 : 1 ≤ N := by omega
    have HMDL : Hid (md.length = N) := qh (by rw [HA.out.len, HN.out, HMC.out])
    have HFIN : Hid (litL q.ps v l = md.drop 1) := qh (by
     unfold litL
     rw [if_pos HZ.out.symm]
     exact (Asg.done WP.out.ok (by rw [HLen.out, ← HI.out]; exact HA.out)).symm)
    have HLL : Hid ((litL q.ps v l).length = N - 1) := qh (by rw [HFIN.out, List.length_drop, HMDL.out])
    have HBZ : Hid (Below w.heap.size w wo) := qh ((X3.out.below LO.out.bel X3.out.wi.lt).bel)
    have HT2 := qh (LO.out.tail HMDL.out hN2)
    have HW3 : Hid (w.heap.size ≤ w3.heap.size ∧ w3.heap.size < wo.heap.size ∧ N ≤ 100000) := qh (by have := X3.out.wi.lt; have := LO.out.g.lt; have := HM14.out; have := HN.out; omega)
    have HG1 : Hid (LiteralsP q.ps v l w (.returned (.tuple #[.slice (some ⟨w3.heap.size, 1, none⟩) (N - 1 : Nat) (N - 1 : Nat), .int .i64 0])) wo) := qh (by
     refine ⟨some ⟨w3.heap.size, 1, none⟩, N - 1, ?_, ?_, ?_, ?_, HBZ.out⟩
     ·rw [HLL.out, ← HZ.out]
     ·rw [HLL.out, HFIN.out]
      exact HT2.out.more fun k hk => by subst hk; exact ⟨HW3.out.1, HW3.out.2.1⟩
     ·rw [HLL.out]; exact qr _
     ·have := HW3.out.2.2; unfold maxLen; omega)
    have HG2 : Hid (N = 1 → LiteralsP q.ps v l w (.returned (.tuple #[.slice (some ⟨w3.heap.size, 0, none⟩) 0 0, .int .i64 0])) wo) := qh (fun h1 => by
     have h0 : litL q.ps v l = [] := List.eq_nil_of_length_eq_zero (by rw [HLL.out, h1])
     refine ⟨some ⟨w3.heap.size, 0, none⟩, 0, ?_, ?_, ?_, Nat.zero_le _, HBZ.out⟩
     ·rw [h0, ← HZ.out]; rfl
     ·rw [h0]; exact RInts.nil_
     ·rw [h0]; exact qr _)
    have HQ1 : Hid (LiteralsQ q.ps v l w (.returned (.tuple #[.slice (some ⟨w3.heap.size, 1, none⟩) (N - 1 : Nat) (N - 1 : Nat), .int .i64 0])) wo) := qh ⟨HG1.out, fun A n c z e h0 => by
     simp at e
     refine ⟨w3.heap.size, .int .i64 (md.headD 0), e.1.1.symm, HW3.out.1, ?_⟩
     have hg := LO.out.g
     rw [HFIN.out]
     match md, HMDL.out, hg with
     | [], hl, _ => simp at hl; omega
     | d :: r, _, hg => exact hg⟩
    have HQ2 : Hid (N = 1 → LiteralsQ q.ps v l w (.returned (.tuple #[.slice (some ⟨w3.heap.size, 0, none⟩) 0 0, .int .i64 0])) wo) := qh (fun h1 => LiteralsQ.none_ (HG2.out h1))
    clear HMDL HFIN HLL HBZ HT2 HW3 HG1 HG2
    go_wp2
    all_goals go_ret2
    all_goals first | exact HQ1.out | exact HQ2.out (by omega)
 ·have HE : Hid (validE ps v l = z) := qh HZ.out.symm
  have h0b : (z == 0) = false := by simpa using h0
  go_wp2
  go_ret2
  exact LiteralsQ.none_ (LiteralsP.err h0 HE.out X2.out.bel)
theorem literals_any (ps : List Pk) (v : Ws) (l : List Mem) (S : Nat → Prop) (A B : Option Addr) (n c q1 d1 : Nat) (A1 A2 A3 A4 : Option Addr) (n1 c1 n2 c2 n3 c3 n4 c4 : Nat) (w : World) (hT : RTree w S A n ps) (hnc : n ≤ c) (hc : c ≤ maxLen) (hV : WsAt w S A1 n1 c1 A2 n2 c2 A3 n3 c3 A4 n4 c4 v) (hL : RSet w S B q1 l) (hqd : q1 ≤ d1) (hd : d1 ≤ maxLen) (hS : ∀ k, S k → k < w.heap.size) :
  Calls Tryz.prog 13 #[.agg #[.slice A n c], .agg #[.slice A1 n1 c1, .slice A2 n2 c2, .slice A3 n3 c3, .slice A4 n4 c4], .slice B q1 d1] w (LiteralsP ps v l w) :=
 (literals_q ps v l S A B n c q1 d1 A1 A2 A3 A4 n1 c1 n2 c2 n3 c3 n4 c4 w hT hnc hc hV hL hqd hd hS).mono fun _ _ h => h.1
end
section
open Go.RowKit Qm
theorem litL_ok {ps : List Pk} {v : Ws} {l : List Mem} (h : validE ps v l = 0) : litL ps v l = litsB (chVec ps v l) := by unfold litL; rw [if_pos h]
end
end Go.Proofs.YtedbhlgjcnnknaaGreatDoor
