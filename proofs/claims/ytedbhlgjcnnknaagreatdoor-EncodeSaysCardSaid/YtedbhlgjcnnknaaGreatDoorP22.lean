/- Parts of the proof: walks and plain laws, side by side. -/
import Derived.Test.YtedbhlgjcnnknaaGreatDoorP21
import Derived.Test.YtedbhlgjcnnknaaGreatDoorProg
import Derived.Test.YtedbhlgjcnnknaaGreatDoorP13
import Derived.Test.YtedbhlgjcnnknaaGreatDoorP20
import Derived.Test.YtedbhlgjcnnknaaGreatDoorP4
import Derived.Test.YtedbhlgjcnnknaaGreatDoorP12
import Derived.Test.YtedbhlgjcnnknaaGreatDoorP18
import Derived.Test.YtedbhlgjcnnknaaGreatDoorP6
import Derived.Maps.AppendAt
import Derived.Test.YtedbhlgjcnnknaaGreatDoorP1
import Derived.Test.YtedbhlgjcnnknaaGreatDoorP15
import Derived.Deep.RegionHeld3
import Derived.Laws.EntriesVeiled
import Derived.Test.YtedbhlgjcnnknaaGreatDoorP17
import Derived.Test.YtedbhlgjcnnknaaGreatDoorShelf
set_option linter.unusedVariables false
set_option linter.unusedSimpArgs false
set_option linter.unusedSectionVars false
set_option maxRecDepth 100000
set_option maxHeartbeats 12800000
namespace Go.Proofs.YtedbhlgjcnnknaaGreatDoor
section
open Go.RowKit Qm
def Shape_M (x : List Value) : Prop := ∃ (x0 : Int) (x1a : Option Addr) (x1n x1c : Nat), x = [.int .i64 x0, .slice x1a x1n x1c]
theorem equalF_M {α : Type} (R : List Value → α → Prop) (sm : α → α → Bool) (A B : Option Addr) (n c m d : Nat) (xs ys : List α) (F : FuncId) (w : World) (S : Nat → Prop) (hK : RSeq 2 R w S A n xs) (hL : RSeq 2 R w S B m ys) (hS : ∀ k, S k → k < w.heap.size) (hn : n ≤ maxLen) (hm : m ≤ maxLen) (hF : AsksEq Tryz.prog w F R sm) (hsh : ∀ x y, R x y → Shape_M x) :
  Calls Tryz.prog 53 #[.slice A n c, .slice B m d, .func (.func F) #[] #[]] w fun e w' => e = .returned (.bool (eqL sm xs ys)) ∧ Below w.heap.size w w' := by
 unfold maxLen at hn hm
 have HK := qh hK; have HL := qh hL; have HS := qh hS; have HF := qh hF; clear hK hL hS hF
 by_cases hnm : n = m
 ·subst hnm
  go_enter Tryz.func53, Tryz.ntmps53
  go_wp2
  go_loopg [17] n (fun g iv wr => ∃ (j : Nat), Hid (j + g = n) ∧ iv = .int .i64 j ∧ Hid (eqL sm xs ys = eqL sm (xs.drop j) (ys.drop j)) ∧ Below w.heap.size w wr)
  case atStart => exact ⟨0, qh (Nat.zero_add _), rfl, qh rfl, Below.refl _ _⟩
  case round =>
   obtain ⟨j, Hj, rfl, Hcl, hb⟩ := hrel
   have HBr := qh hb; clear hb
   by_cases hj : j < n
   ·obtain ⟨b, o, x, y, rfl, hb, hy, hxy, hxl, hcell⟩ := (HK.out.keep (w' := wr) (fun p hp => HBr.out.cell (HS.out _ hp)) fun _ _ h => h).at_ hj (by decide)
    obtain ⟨b', o', x', y', rfl, hb', hy', hxy', hxl', hcell'⟩ := (HL.out.keep (w' := wr) (fun p hp => HBr.out.cell (HS.out _ hp)) fun _ _ h => h).at_ hj (by decide)
    have Hdr : Hid (eqL sm (xs.drop j) (ys.drop j) = (sm y y' && eqL sm (xs.drop (j + 1)) (ys.drop (j + 1)))) := qh (eqL_step hy hy')
    have hlt : b' < wr.heap.size := ql (HS.out _ hb') HBr.out.size
    obtain ⟨x0, x1a, x1n, x1c, rfl⟩ := hsh _ _ hxy
    obtain ⟨y0, y1a, y1n, y1c, rfl⟩ := hsh _ _ hxy'
    have g0 := hcell 0 (by omega); have g1 := hcell 1 (by omega)
    have k0 := hcell' 0 (by omega); have k1 := hcell' 1 (by omega)
    simp only [qgz, qgs, Nat.add_zero] at g0 g1 k0 k1
    clear hcell hcell' hy hy'
    have hW1 : Below wr.heap.size wr ((wr.alloc (.cells #[.int .i64 x0, .slice x1a x1n x1c] 85)).alloc (.cells #[.int .i64 y0, .slice y1a y1n y1c] 85)) := ((Below.refl _ wr).alloc (qr _) _).alloc (by simp) _
    have hcall := HF.out.2 _ _ _ _ _ (HBr.out.trans (hW1.mono HBr.out.size)) hxy hxy'
    have henter := HF.out.1
    have HB2 := qh (HBr.out.trans (hW1.mono HBr.out.size))
    clear hW1 hxy hxy' hxl hxl'
    generalize sm y y' = q at hcall Hdr
    have Hcall := qh hcall; clear hcall
    cases q
    ·go_wp2_with fail
     refine Hcall.out.mono ?_
     rintro e w' ⟨rfl, hb'⟩
     have HB3 := qh (HB2.out.trans (hb'.mono HB2.out.size)); clear hb'
     go_wp2_with fail
     go_ret
     exact ⟨ret_bool (by rw [Hcl.out, Hdr.out]; rfl), HB3.out⟩
    ·go_wp2_with fail
     refine Hcall.out.mono ?_
     rintro e w' ⟨rfl, hb'⟩
     have HB3 := qh (HB2.out.trans (hb'.mono HB2.out.size)); clear hb'
     go_wp2_with fail
     go_roundg (gk - 1)
     case measure => have := Hj.out; omega
     case rel => exact ⟨j + 1, qh (by have := Hj.out; omega), by go_num, qh (by rw [Hcl.out, Hdr.out, Bool.true_and]), HB3.out⟩
   ·go_wp2_with fail
    go_ret
    refine ⟨ret_bool ?_, HBr.out⟩
    rw [Hcl.out, List.drop_of_length_le (by have := HK.out.len; omega), List.drop_of_length_le (by have := HL.out.len; omega)]; rfl
 ·have e1 : ((n : Int) != (m : Int)) = true := by simp; omega
  have e2 : ((n : Int) == (m : Int)) = false := by simp; omega
  have HE : Hid (eqL sm xs ys = false) := qh (eqL_len (by have := HK.out.len; have := HL.out.len; omega))
  go_enter Tryz.func53, Tryz.ntmps53
  go_wp2
  go_ret
  exact ⟨ret_bool HE.out.symm, Below.refl _ _⟩
end
section
open Go.RowKit Qm
def sameMem (x y : Mem) : Bool := decide (x.pl = y.pl) && (x.on == y.on)
theorem sameMemr_any (x y : Mem) (S : Nat → Prop) (cx cy : List Value) (w : World) (hx : RMem w S cx x) (hy : RMem w S cy y) (hS : ∀ k, S k → k < w.heap.size) :
  Calls Tryz.prog 70 #[.agg cx.toArray, .agg cy.toArray] w fun e w' => e = .returned (.bool (sameMem x y)) ∧ Below w.heap.size w w' := by
 obtain ⟨A, n, c, rfl, hn, hc, hon⟩ := hx
 obtain ⟨B, m, d, rfl, hm, hd, hon'⟩ := hy
 have hbx : Below w.heap.size w ((w.alloc (.cells #[.int .i64 x.pl, .slice A n c] 85)).alloc (.cells #[.int .i64 y.pl, .slice B m d] 85)) := ((Below.refl _ w).alloc (qr _) _).alloc (by simp) _
 have heq := equalB_any A B n m c d x.on y.on _ S (Row.keep hon fun p hp => hbx.cell (hS _ hp)) (Row.keep hon' fun p hp => hbx.cell (hS _ hp)) (qlt hn hc) (qlt hm hd)
 have HC : Hid (sameMem x y = (decide (x.pl = y.pl) && (x.on == y.on))) := qh rfl
 obtain ⟨pl, on⟩ := x
 obtain ⟨pl', on'⟩ := y
 dsimp only at heq HC hbx
 generalize sameMem ⟨pl, on⟩ ⟨pl', on'⟩ = R at HC ⊢
 generalize (on == on') = q at heq HC
 have Heq := qh heq
 have HB := qh hbx
 clear heq hbx hon hon' hS
 by_cases hp : pl = pl'
 ·subst hp
  have hpp : (pl == pl) = true := by simp
  have HR : Hid (R = q) := qh (by rw [HC.out, qdt rfl, Bool.true_and])
  clear HC
  go_enter Tryz.func70, Tryz.ntmps70
  go_wp2_with (first | (go_at_call 55; refine Heq.out.mono ?_; rintro e w3 ⟨rfl, nq, rfl⟩; refine Hid.out ?_))
  refine qh ?_
  go_wp2
  go_ret
  exact ⟨ret_bool (by rw [HR.out]), below_drewN HB.out _⟩
 ·have hpp : (pl == pl') = false := by simpa using hp
  have HR : Hid (R = false) := qh (by rw [HC.out, qdf hp, Bool.false_and])
  clear HC hp
  go_enter Tryz.func70, Tryz.ntmps70
  go_wp2
  go_ret
  exact ⟨ret_bool (by rw [HR.out]), HB.out⟩
theorem sameSetr_any (xs ys : List Mem) (S : Nat → Prop) (A B : Option Addr) (n c m d : Nat) (w : World) (hT : RSet w S A n xs) (hU : RSet w S B m ys) (hS : ∀ k, S k → k < w.heap.size) (hn : n ≤ maxLen) (hm : m ≤ maxLen) :
  Calls Tryz.prog 24 #[.slice A n c, .slice B m d] w fun e w' => e = .returned (.bool (eqL sameMem xs ys)) ∧ Below w.heap.size w w' := by
 have hq := equalF_M (RMem w S) sameMem A B n c m d xs ys 70 w S hT hU hS hn hm
  ⟨fun args W => by kernel_rfl, fun x y cx cy W hb hx hy => sameMemr_any x y S cx cy W (hx.under hb hS) (hy.under hb hS) (fun k hk => ql (hS k hk) hb.size)⟩
  (fun x y h => by obtain ⟨A, n, c, rfl, _⟩ := h; exact ⟨_, _, _, _, rfl⟩)
 generalize eqL sameMem xs ys = q at hq ⊢
 have Hq := qh hq
 clear hq hT hU hS
 go_enter Tryz.func24, Tryz.ntmps24
 go_wp2_with (first | (go_at_call 53; refine Hq.out.mono ?_; rintro e w3 ⟨rfl, hb3⟩; refine Hid.out ?_))
 refine qh ?_
 have HB3 := qh hb3
 clear hb3
 go_wp2
 go_ret
 exact ⟨rfl, HB3.out⟩
end
section
open Go.RowKit Qm
end
section
open Go.RowKit Qm
end
section
open Go.RowKit Qm
structure Um (w : World) (A : Option Addr) (n c : Nat) (A1 : Option Addr) (n1 c1 : Nat) (A2 : Option Addr) (n2 c2 : Nat) (A4 : Option Addr) (n4 c4 : Nat) (AM : Option Addr) (nM cM : Nat) (acc out : List Int) (cv : Value) (wr : World) : Prop where
 b : Below w.heap.size w wr
 t : Whole wr w.heap.size 24 [.slice A n c]
 wi : Whole wr (w.heap.size + 1) 30 [.slice A1 n1 c1, .slice A2 n2 c2, .slice AM nM cM, .slice A4 n4 c4]
 ms : RInts wr (fun k => w.heap.size + 1 < k ∧ k < wr.heap.size ∧ cv.ownBlock ≠ some k) AM nM acc
 hn : nM ≤ cM ∧ cM ≤ maxLen
 o : wr.ownsRow (w.heap.size + 1 + 1) 3 1 cv out.length (out.map (Value.int .i64))
section
variable {w : World} {A : Option Addr} {n c : Nat} {A1 A2 A4 AM : Option Addr} {n1 c1 n2 c2 n4 c4 nM cM : Nat} {acc out : List Int} {cv : Value} {wr wy : World}
end
end
section
open Go.RowKit Qm
theorem flat_lenG {K : Nat} : ∀ {cs : List (List Value)}, (∀ x ∈ cs, x.length = K) → cs.flatten.length = cs.length * K
 | [], _ => by simp
 | c :: r, h => by
  have := flat_lenG (K := K) (cs := r) fun x hx => h x (List.mem_cons_of_mem _ hx)
  have h0 := h c (List.mem_cons_self ..)
  rw [List.flatten_cons, List.length_append, this, h0, List.length_cons, Nat.succ_mul]; omega
theorem RSeq.whole {α : Type} {K : Nat} {R : List Value → α → Prop} {w : World} {S : Nat → Prop} {b n : Nat} {t : TypeId} (cs : List (List Value)) (ys : List α) (h : Whole w b t cs.flatten) (hl : ys.length = n) (hn : cs.length = n) (hK : ∀ x ∈ cs, x.length = K)
  (hR : ∀ (j : Nat) (x : List Value) (y : α), cs[j]? = some x → ys[j]? = some y → R x y) (hb : S b) : RSeq K R w S (some ⟨b, 0, none⟩) n ys :=
 ⟨cs, hl, hn, h.row hb (by rw [flat_lenG hK, hn]), hK, hR⟩
end
section
open Go.RowKit Qm
structure Re (w : World) (T : Nat) (A : Option Addr) (c : Nat) (ab : Nat) (ta : At) (KA : Option Addr) (kn : Nat) (ks : List Int) (wx : World) : Prop where
 t : RTree wx (fun i => i < T) A 4 smallT
 tb : Whole wx T 24 [.slice A 4 c]
 a : Whole wx ab 75 (atRow ta)
 m : Whole wx (T + 1 + 1) 85 [.int .i64 3, .slice none 0 0]
 v : Whole wx (T + 1 + 1 + 1) 30 [.slice (some ⟨ab, 0, none⟩) 1 1, .slice (some ⟨T + 1 + 1, 0, none⟩) 1 1, .slice KA kn kn, .slice none 0 0]
 k : RInts wx (fun i => T + 1 + 1 + 1 < i ∧ i < wx.heap.size) KA kn ks
 ok : (ta.nm.length ≤ maxLen ∧ ta.fl.length ≤ maxLen) ∧ kn ≤ maxLen ∧ ab ≠ T + 1 + 1 + 1
 bel : Below w.heap.size w wx
 hT : w.heap.size ≤ T
section
variable {w : World} {T : Nat} {A : Option Addr} {c : Nat} {ab : Nat} {ta : At} {KA : Option Addr} {kn : Nat} {ks : List Int} {wx wy : World}
end
end
section
open Go.RowKit Qm
end
section
open Go.RowKit
end
section
open Go.RowKit Qm
structure Hb (w : World) (A : Option Addr) (n c : Nat) (B : Option Addr) (q d k : Nat) (nr : List Value) (wx : World) : Prop where
 t : Whole wx w.heap.size 24 [.slice A n c]
 l : Whole wx (w.heap.size + 1) 26 [.slice B q d]
 k : Whole wx (w.heap.size + 1 + 1) 3 [.int .i64 (k : Int)]
 n : Whole wx (w.heap.size + 1 + 1 + 1) 99 nr
 e : Whole wx (w.heap.size + 1 + 1 + 1 + 1) 164 [.func (.func 112) #[] #[.pointer (some ⟨w.heap.size, 0, none⟩), .pointer (some ⟨w.heap.size + 1, 0, none⟩), .pointer (some ⟨w.heap.size + 1 + 1, 0, none⟩)]]
 bel : Below w.heap.size w wx
theorem Hb.move {w : World} {A : Option Addr} {n c : Nat} {B : Option Addr} {q d k : Nat} {nr : List Value} {wx wy : World} (h : Hb w A n c B q d k nr wx) (hb : Below wx.heap.size wx wy) : Hb w A n c B q d k nr wy :=
 ⟨h.t.below hb h.t.lt, h.l.below hb h.l.lt, h.k.below hb h.k.lt, h.n.below hb h.n.lt, h.e.below hb h.e.lt, h.bel.trans (hb.mono h.bel.size)⟩
theorem Hb.new (w : World) (A : Option Addr) (n c : Nat) (B : Option Addr) (q d k : Nat) (nr : List Value) :
  Hb w A n c B q d k nr (((((w.alloc (.cells #[.slice A n c] 24)).alloc (.cells #[.slice B q d] 26)).alloc (.cells #[.int .i64 (k : Int)] 3)).alloc (.cells nr.toArray 99)).alloc
   (.cells #[.func (.func 112) #[] #[.pointer (some ⟨w.heap.size, 0, none⟩), .pointer (some ⟨w.heap.size + 1, 0, none⟩), .pointer (some ⟨w.heap.size + 1 + 1, 0, none⟩)]] 164)) := by
 have h1 := Whole.new w _ 24 [.slice A n c] rfl
 have h2 := Whole.new (w.alloc (.cells #[.slice A n c] 24)) (w.heap.size + 1) 26 [.slice B q d] (by simp)
 have h3 := Whole.new ((w.alloc (.cells #[.slice A n c] 24)).alloc (.cells #[.slice B q d] 26)) (w.heap.size + 1 + 1) 3 [.int .i64 (k : Int)] (by simp)
 have h4 := Whole.new (((w.alloc (.cells #[.slice A n c] 24)).alloc (.cells #[.slice B q d] 26)).alloc (.cells #[.int .i64 (k : Int)] 3)) (w.heap.size + 1 + 1 + 1) 99 nr (by simp)
 exact ⟨(((h1.alloc _).alloc _).alloc _).alloc _, ((h2.alloc _).alloc _).alloc _, (h3.alloc _).alloc _, h4.alloc _, Whole.new _ _ _ [_] (by simp), (((((Below.refl _ w).alloc (qr _) _).alloc (by simp) _).alloc (by simp; omega) _).alloc (by simp; omega) _).alloc (by simp; omega) _⟩
theorem blockB_step {f : Mem → Bool} {k i : Nat} {l : List Mem} {m : Mem} (h : l[i]? = some m) : blockB f k i (l.drop i) = if i ≠ k ∧ f m = true then false else blockB f k (i + 1) (l.drop (i + 1)) := by
 obtain ⟨hj, rfl⟩ := List.getElem?_eq_some_iff.1 h
 rw [List.drop_eq_getElem_cons hj]
 rfl
theorem memAt_at {l : List Mem} {k : Nat} {m : Mem} (h : l[k]? = some m) : memAt l k = m := by
 unfold memAt
 rw [qgd, h]; rfl
theorem flagsN_kid {k : Int} {a : At} {f : Qm.W} {no : Bool} : ∀ {ks : List Nd} {x : Nd}, x ∈ ks → ∀ g ∈ flagsN x, g ∈ flagsL ks
 | y :: r, x, hx, g, hg => by
  simp only [flagsL, List.mem_append]
  rcases List.mem_cons.1 hx with rfl | hx
  ·exact .inl hg
  ·exact .inr (flagsN_kid (k := k) (a := a) (f := f) (no := no) hx g hg)
theorem any_not {α : Type} (p : α → Bool) (l : List α) : (!l.any fun x => !p x) = l.all p := by
 induction l with
 | nil => rfl
 | cons x r ih => simp only [List.any_cons, List.all_cons, Bool.not_or, Bool.not_not, ih]
theorem holds_any (ps : List Pk) (l : List Mem) (S : Nat → Prop) (A : Option Addr) (n c : Nat) (B : Option Addr) (q d : Nat) : ∀ (y : Nd) (k : Nat) (cx : List Value) (w : World), Cx ps l S A n c B q d w → k < q → RNd w S cx y → (∀ f ∈ flagsN y, f ∈ (pkOf ps (memAt l k).pl).fs) →
  Calls Tryz.prog 87 #[.agg #[.slice A n c], .slice B q d, .int .i64 (k : Int), .agg cx.toArray] w fun e w' => e = .returned (.bool (holdsN ps l k (memAt l k) y)) ∧ Below w.heap.size w w' := by
 refine Nd.ind fun kd a f no ks ih => ?_
 intro k cx w C hkq hx hfl
 obtain ⟨D, r, e, rfl, hre, he, h1, h2, h3, hK⟩ := hx.open_
 have HC : Hid (holdsN ps l k (memAt l k) (.mk kd a f no ks) = if kd = 1 then l.any (fun m => isA ps m a) else if kd = 2 then blockB (fun m => isA ps m a) k 0 l else if kd = 4 then someN ps l k (memAt l k) ks else if kd = 5 ∧ ifOff ps (memAt l k) f no = true then true else allN ps l k (memAt l k) ks) := qh rfl
 generalize holdsN ps l k (memAt l k) (.mk kd a f no ks) = R at HC ⊢
 have H5 := qh (Hb.new w A n c B q d k (ndRow kd a f no D r e))
 have hll := C.s.len
 have hkl : k < l.length := by omega
 -- the closures, in whatever world comes
 have Heach := qh (fun x (hx : x ∈ ks) cx' (W : World) (hb : Below w.heap.size w W) (hr : RNd w S cx' x) => ih x hx k cx' W (C.under hb) hkq (hr.under hb C.lt) (fun g hg => hfl g (by unfold flagsN; exact List.mem_append_right _ (flagsN_kid (k := kd) (a := a) (f := f) (no := no) hx g hg))))
 have HF5 : Hid (kd = 5 → f ∈ (pkOf ps (memAt l k).pl).fs) := qh fun h => hfl f (by unfold flagsN; rw [if_pos h]; simp)
 have HKD := qh hK
 have HCX := qh C
 have H1 := qh h1; have H2 := qh h2; have H3 := qh h3; have HE := qh he
 have HN := qh (show RNd w S (ndRow kd a f no D r e) (.mk kd a f no ks) from hx)
 clear hx hfl ih h1 h2 h3 hK
 have hqd := C.qd
 have hdm := C.dm
 clear C
 unfold maxLen at hdm he
 by_cases k1 : kd = 1
 ·subst k1
  have HR : Hid (R = l.any (fun m => isA ps m a)) := qh (by rw [HC.out, if_pos rfl])
  have hcf := containsF_M (RMem w S) (fun m => isA ps m a) B q d l 114 #[.pointer (some ⟨w.heap.size, 0, none⟩), .pointer (some ⟨w.heap.size + 1 + 1 + 1, 0, none⟩)] _ S (RSeq.keep HCX.out.s (fun p hp => H5.out.bel.cell (HCX.out.lt _ hp)) fun _ _ h => h) (fun x hx => ql (HCX.out.lt x hx) H5.out.bel.size) (by unfold maxLen; omega)
   ⟨fun args W => by kernel_rfl, fun m hm cx W hb hr => wants_any HCX.out a H1.out H2.out w.heap.size (w.heap.size + 1 + 1 + 1) 1 f no D r e hm cx hr W (H5.out.bel.trans (hb.mono H5.out.bel.size)) ((H5.out.move hb).t.cell 0) (fun i _ => (H5.out.move hb).n.cell i)⟩ (fun x y h => shape_mem h)
  have Hcf := qh hcf
  unfold ndRow at Hcf H5 ⊢
  clear hcf HC Heach HF5
  go_enter Tryz.func87, Tryz.ntmps87
  go_wp2_with (first | (go_at_call 84; refine Hcf.out.mono ?_; rintro e w6 ⟨rfl, hb6⟩; refine Hid.out ?_))
  refine qh ?_
  have H6 := qh (H5.out.move hb6)
  clear hb6
  go_wp2
  go_ret
  exact ⟨ret_bool HR.out.symm, H6.out.bel⟩
 by_cases k2 : kd = 2
 ·subst k2
  have HR : Hid (R = blockB (fun m => isA ps m a) k 0 l) := qh (by rw [HC.out, if_neg (by decide), if_pos rfl])
  have Hll := qh hll
  unfold ndRow at H5 ⊢
  clear HC Heach HF5
  go_enter Tryz.func87, Tryz.ntmps87
  go_wp2
  go_loopg [27] q (fun g iv wr => ∃ i : Nat, Hid (i + g = q) ∧ iv = .int .i64 i ∧ Hid (blockB (fun m => isA ps m a) k 0 l = blockB (fun m => isA ps m a) k i (l.drop i)) ∧ Hid (Hb w A n c B q d k [.int .i64 2, .string ⟨a.nm.toArray⟩, .int .i64 a.op, .int .i64 a.ver, .int .i64 a.slot, .string ⟨a.fl.toArray⟩, .bool a.on, .string ⟨f.toArray⟩, .bool no, .slice D r e] wr))
  case atStart => exact ⟨0, qh (Nat.zero_add _), rfl, qh rfl, H5⟩
  case round =>
   obtain ⟨i, Hi, rfl, Hcl, HR5⟩ := hrel
   clear H5
   by_cases hi : i < q
   ·obtain ⟨b, o, m, E, u, v, rfl, hbS, hm, huv, hv, hon, g0, g1⟩ := (HCX.out.s.under HR5.out.bel HCX.out.lt).at_ hi
    have Hst := qh (blockB_step (f := fun m => isA ps m a) (k := k) hm)
    have hbl : b < wr.heap.size := ql (HCX.out.lt _ hbS) HR5.out.bel.size
    have hal : Below wr.heap.size wr (wr.alloc (.cells #[.int .i64 m.pl, .slice E u v] 85)) := (Below.refl _ _).alloc (qr _) _
    have H6 := qh (HR5.out.move hal)
    have t0 := HR5.out.t.cell 0
    have kc0 := HR5.out.k.cell 0
    have n1 := HR5.out.n.cell 1; have n2 := HR5.out.n.cell 2; have n3 := HR5.out.n.cell 3; have n4 := HR5.out.n.cell 4; have n5 := HR5.out.n.cell 5; have n6 := HR5.out.n.cell 6
    simp only [qgz, qgs] at t0 kc0 n1 n2 n3 n4 n5 n6
    have elt := HR5.out.e.lt
    have elt0 : w.heap.size < wr.heap.size := by omega
    have elt1 : w.heap.size + 1 < wr.heap.size := by omega
    have elt2 : w.heap.size + 1 + 1 < wr.heap.size := by omega
    have elt3 : w.heap.size + 1 + 1 + 1 < wr.heap.size := by omega
    by_cases hik : i = k
    ·subst hik
     have HS : Hid (blockB (fun m => isA ps m a) i i (l.drop i) = blockB (fun m => isA ps m a) i (i + 1) (l.drop (i + 1))) := qh (by rw [Hst.out, if_neg (by simp)])
     go_wp2
     go_roundg (gk - 1)
     case measure => have := Hi.out; omega
     case rel => exact ⟨i + 1, qh (by have := Hi.out; omega), by go_num, qh (by rw [Hcl.out, HS.out]), H6⟩
    ·have hik1 : ((i : Int) != (k : Int)) = true := by simp; omega
     have His := qh (HCX.out.is (w' := wr.alloc (.cells #[.int .i64 m.pl, .slice E u v] 85)) (List.mem_of_getElem? hm) (Row.keep (w := wr) (w' := w) hon (fun p hp => (HR5.out.bel.cell (HCX.out.lt _ hp)).symm)) huv a H1.out H2.out H6.out.bel)
     clear hm hon hal
     generalize isA ps m a = x at His Hst
     cases x
     ·have HS : Hid (blockB (fun m => isA ps m a) k i (l.drop i) = blockB (fun m => isA ps m a) k (i + 1) (l.drop (i + 1))) := qh (by rw [Hst.out, if_neg (by simp)])
      go_wp2_with (first | (go_at_call 86; refine His.out.mono ?_; rintro e w7 ⟨rfl, hb7⟩; refine Hid.out ?_))
      refine qh ?_
      have H7 := qh (H6.out.move hb7)
      clear hb7 t0 kc0 n1 n2 n3 n4 n5 n6 elt elt0 elt1 elt2 elt3 hbl g0 g1
      go_wp2
      go_roundg (gk - 1)
      case measure => have := Hi.out; omega
      case rel => exact ⟨i + 1, qh (by have := Hi.out; omega), by go_num, qh (by rw [Hcl.out, HS.out]), H7⟩
     ·have HS : Hid (blockB (fun m => isA ps m a) k i (l.drop i) = false) := qh (by rw [Hst.out, if_pos ⟨hik, rfl⟩])
      go_wp2_with (first | (go_at_call 86; refine His.out.mono ?_; rintro e w7 ⟨rfl, hb7⟩; refine Hid.out ?_))
      refine qh ?_
      have H7 := qh (H6.out.move hb7)
      clear hb7 t0 kc0 n1 n2 n3 n4 n5 n6 elt elt0 elt1 elt2 elt3 hbl g0 g1
      go_wp2
      go_ret
      exact ⟨ret_bool (by rw [HR.out, Hcl.out, HS.out]), H7.out.bel⟩
   ·obtain rfl : q = i := by have := Hi.out; omega
    go_wp2
    go_ret
    exact ⟨ret_bool (by rw [HR.out, Hcl.out, List.drop_of_length_le (by have := Hll.out; omega)]; rfl), HR5.out.bel⟩
 by_cases k4 : kd = 4
 ·subst k4
  have HR : Hid (R = ks.any (holdsN ps l k (memAt l k))) := qh (by rw [HC.out, if_neg (by decide), if_neg (by decide), if_pos rfl, someN_eq])
  have hcf := containsF_N (RNd w S) (holdsN ps l k (memAt l k)) D r e ks 112 #[.pointer (some ⟨w.heap.size, 0, none⟩), .pointer (some ⟨w.heap.size + 1, 0, none⟩), .pointer (some ⟨w.heap.size + 1 + 1, 0, none⟩)] _ S (RSeq.keep (kids_seq HKD.out) (fun p hp => H5.out.bel.cell (HCX.out.lt _ hp)) fun _ _ h => h) (fun x hx => ql (HCX.out.lt x hx) H5.out.bel.size) (by unfold maxLen; omega)
   ⟨fun args W => by kernel_rfl, fun x hx cx W hb hr => each_any A B n c q d k w.heap.size (w.heap.size + 1) (w.heap.size + 1 + 1) cx (holdsN ps l k (memAt l k) x) W (shape_nd hr) ((H5.out.move hb).t.cell 0) ((H5.out.move hb).l.cell 0) ((H5.out.move hb).k.cell 0) (fun w' hb' => Heach.out x hx cx w' ((H5.out.bel.trans (hb.mono H5.out.bel.size)).trans (hb'.mono (qlt H5.out.bel.size hb.size))) hr)⟩ (fun x y h => shape_nd h)
  generalize ks.any (holdsN ps l k (memAt l k)) = sm at hcf HR
  have Hcf := qh hcf
  unfold ndRow at Hcf H5 ⊢
  clear hcf HC Heach HF5
  go_enter Tryz.func87, Tryz.ntmps87
  go_wp2_with (first | (go_at_call 115; refine Hcf.out.mono ?_; rintro e w6 ⟨rfl, hb6⟩; refine Hid.out ?_))
  refine qh ?_
  have H6 := qh (H5.out.move hb6)
  clear hb6
  go_wp2
  go_ret
  exact ⟨ret_bool HR.out.symm, H6.out.bel⟩
 have k1' : (kd == 1) = false := by simpa using k1
 have k2' : (kd == 2) = false := by simpa using k2
 have k4' : (kd == 4) = false := by simpa using k4
 by_cases k5 : kd = 5
 ·subst k5
  have Hcf := qh (fun (wx : World) (H6 : Hb w A n c B q d k (ndRow 5 a f no D r e) wx) => containsF_N (RNd w S) (fun x => !holdsN ps l k (memAt l k) x) D r e ks 113 #[.pointer (some ⟨w.heap.size + 1 + 1 + 1 + 1, 0, none⟩)] wx S (RSeq.keep (kids_seq HKD.out) (fun p hp => H6.bel.cell (HCX.out.lt _ hp)) fun _ _ h => h) (fun x hx => ql (HCX.out.lt x hx) H6.bel.size) (by unfold maxLen; omega)
   ⟨fun args W => by kernel_rfl, fun x hx cx W hb hr => not_any A B n c q d k w.heap.size (w.heap.size + 1) (w.heap.size + 1 + 1) (w.heap.size + 1 + 1 + 1 + 1) cx (holdsN ps l k (memAt l k) x) W (shape_nd hr) ((H6.move hb).t.cell 0) ((H6.move hb).l.cell 0) ((H6.move hb).k.cell 0) ((H6.move hb).e.cell 0) (fun w' hb' => Heach.out x hx cx w' ((H6.bel.trans (hb.mono H6.bel.size)).trans (hb'.mono (qlt H6.bel.size hb.size))) hr)⟩ (fun x y h => shape_nd h))
  have HRA : Hid ((!ks.any fun x => !holdsN ps l k (memAt l k) x) = allN ps l k (memAt l k) ks) := qh (by rw [any_not, allN_eq])
  generalize (ks.any fun x => !holdsN ps l k (memAt l k) x) = al at Hcf HRA
  generalize allN ps l k (memAt l k) ks = AL at HRA HC
  obtain ⟨b, o, m, E, u, v, rfl, hbS, hm, huv, hv, hon, g0, g1⟩ := HCX.out.s.at_ hkq
  have hme : memAt l k = m := memAt_at hm
  obtain ⟨hp0, hp1, hp2⟩ := HCX.out.ok m (List.mem_of_getElem? hm)
  have hff := HF5.out rfl
  rw [hme] at hff
  rw [hme] at HC
  have HIO : Hid (ifOff ps m f no = match ixOf f (pkOf ps m.pl).fs with | some j => onOf m.on j == no | none => false) := qh rfl
  obtain ⟨pl, on⟩ := m
  dsimp only at g0 g1 hon hp0 hp1 hp2 hff HC HIO
  have hpl := HCX.out.t.len
  obtain ⟨j, rfl⟩ : ∃ j : Nat, pl = j := ⟨pl.toNat, by omega⟩
  have hjn : j < n := by omega
  obtain ⟨b2, o2, p, F, fn, fc, kq, pa, pf, pno, G, gq, gd, rfl, hbS2, hp, hP, hcell⟩ := HCX.out.t.at_ hjn
  rw [pkOf_at hp] at hp2 hff HIO
  have h3 := hcell 3 (by omega)
  unfold pkRow ndRow at h3
  simp only [qgz, qgs] at h3
  obtain ⟨fi, hfi⟩ : ∃ fi, ixOf f p.fs = some fi := by
   cases h : ixOf f p.fs with
   | none => exact absurd hff (ixOf_none.1 h)
   | some i => exact ⟨i, rfl⟩
  have hlt := ixOf_lt hfi
  obtain ⟨b3, o3, rfl, hbS3, hbc⟩ := hon.at_ (k := fi) (by have := hon.len; omega)
  have hfu : (fi : Int) < u := by have := hon.len; omega
  have hfu0 : (0 : Int) ≤ (fi : Int) := by omega
  have HIO2 : Hid (ifOff ps ⟨(j : Int), on⟩ f no = (on.getD fi false == no)) := qh (by rw [HIO.out, hfi]; rfl)
  generalize on.getD fi false = ov at hbc HIO2
  have hix := fun wx (hb : Below w.heap.size w wx) => indexS_any F fn fc p.fs f wx S (hP.fs.row.below (w' := wx) hb HCX.out.lt) (qlt hP.cap hP.max)
  rw [hfi] at hix
  unfold ixI at hix
  have Hix := qh hix
  have hbl : b < w.heap.size := HCX.out.lt _ hbS
  have hbl2 : b2 < w.heap.size := HCX.out.lt _ hbS2
  have hbl3 : b3 < w.heap.size := HCX.out.lt _ hbS3
  clear hix hP hcell hp hfi hlt hp2 hff hon hm HIO HF5 Heach hp0 hp1 k1 k2 k4
  unfold ndRow at H5 Hcf ⊢
  -- what the region reads, in the boxes' world
  have q0 := (H5.out.bel.cell (p := ⟨b, o + k * 2, none⟩) hbl).trans g0
  have q1 := (H5.out.bel.cell (p := ⟨b, o + k * 2 + 1, none⟩) hbl).trans g1
  have q3 := (H5.out.bel.cell (p := ⟨b2, o2 + j * 14 + 3, none⟩) hbl2).trans h3
  have qb := (H5.out.bel.cell (p := ⟨b3, o3 + fi, none⟩) hbl3).trans hbc
  have t0 := H5.out.t.cell 0
  have l0 := H5.out.l.cell 0
  have kc0 := H5.out.k.cell 0
  have n7 := H5.out.n.cell 7
  have n8 := H5.out.n.cell 8
  have n9 := H5.out.n.cell 9
  have e0 := H5.out.e.cell 0
  simp only [qgz, qgs] at t0 l0 kc0 n7 n8 n9 e0
  have hsz5 := H5.out.bel.size
  have elt := H5.out.e.lt
  have hjn1 : (j : Int) < n := by omega
  have hkq1 : (k : Int) < q := by omega
  clear g0 g1 h3 hbc
  go_enter Tryz.func87, Tryz.ntmps87
  go_wp2
  generalize World.alloc (World.alloc (World.alloc (World.alloc (World.alloc w _) _) _) _) _ = w5 at *
  have elt0 : w.heap.size < w5.heap.size := by omega
  have elt1 : w.heap.size + 1 < w5.heap.size := by omega
  have elt2 : w.heap.size + 1 + 1 < w5.heap.size := by omega
  have elt3 : w.heap.size + 1 + 1 + 1 < w5.heap.size := by omega
  go_region_held3 (fun w' => w'.cell? ⟨w.heap.size, 0, none⟩ = some (.slice (some ⟨b2, o2, none⟩) n c) ∧ w'.cell? ⟨w.heap.size + 1, 0, none⟩ = some (.slice (some ⟨b, o, none⟩) q d) ∧ w'.cell? ⟨w.heap.size + 1 + 1, 0, none⟩ = some (.int .i64 (k : Int)) ∧ w'.cell? ⟨b, o + k * 2, none⟩ = some (.int .i64 (j : Int)) ∧ w'.cell? ⟨b2, o2 + j * 14 + 3, none⟩ = some (.slice F fn fc) ∧ w'.cell? ⟨w.heap.size + 1 + 1 + 1, 7, none⟩ = some (.string ⟨f.toArray⟩))
   (first | go_keep | exact ⟨t0, l0, kc0, q0, q3, n7⟩)
   (first | (go_at_call 80; refine (Hix.out _ (below_drewN H5.out.bel 1)).mono ?_; rintro e wn ⟨rfl, hwn⟩; subst hwn) | fail)
  have H6 := qh (H5.out.move (below_drewN (Below.refl _ _) 1))
  have r0 : (w5.drewN 1).cell? ⟨b, o + k * 2, none⟩ = some (.int .i64 (j : Int)) := q0
  have r1 : (w5.drewN 1).cell? ⟨b, o + k * 2 + 1, none⟩ = some (.slice (some ⟨b3, o3, none⟩) u v) := q1
  have r3 : (w5.drewN 1).cell? ⟨b3, o3 + fi, none⟩ = some (.bool ov) := qb
  clear q0 q1 q3 qb t0 l0 kc0 n7 n8 n9 e0 hsz5 elt elt0 elt1 elt2 elt3
  generalize w5.drewN 1 = w6 at *
  have l0 := H6.out.l.cell 0
  have kc0 := H6.out.k.cell 0
  have n8 := H6.out.n.cell 8
  simp only [qgz, qgs] at l0 kc0 n8
  cases hov : (ov == no)
  ·have HIF : Hid (ifOff ps ⟨(j : Int), on⟩ f no = false) := qh (by rw [HIO2.out, hov])
   have HR : Hid (R = !al) := qh (by rw [HC.out, if_neg (by decide), if_neg (by decide), if_neg (by decide), if_neg (fun h => by rw [HIF.out] at h; exact absurd h.2 (by decide)), HRA.out])
   go_wp2
   go_quiet (fail)
   rename_i nq
   have H7 := qh (H6.out.move (below_drewN (Below.refl _ _) nq))
   clear r0 r1 r3 l0 kc0 n8
   generalize w6.drewN nq = w7 at *
   have n9 := H7.out.n.cell 9
   simp only [qgz, qgs] at n9
   have Hcf7 := qh (Hcf.out _ H7.out)
   go_wp2_with (first | (go_at_call 115; refine Hcf7.out.mono ?_; rintro e w8 ⟨rfl, hb8⟩; refine Hid.out ?_))
   refine qh ?_
   have H8 := qh (H7.out.move hb8)
   clear hb8
   go_wp2
   go_ret
   exact ⟨ret_bool HR.out.symm, H8.out.bel⟩
  ·have HIF : Hid (ifOff ps ⟨(j : Int), on⟩ f no = true) := qh (by rw [HIO2.out, hov])
   have HR : Hid (R = true) := qh (by rw [HC.out, if_neg (by decide), if_neg (by decide), if_neg (by decide), if_pos ⟨by trivial, HIF.out⟩])
   go_wp2
   go_quiet (fail)
   go_wp2
   go_ret
   exact ⟨ret_bool HR.out.symm, below_drewN H6.out.bel _⟩
 ·have k5' : (kd == 5) = false := by simpa using k5
  have Hcf := qh (fun (wx : World) (H6 : Hb w A n c B q d k (ndRow kd a f no D r e) wx) => containsF_N (RNd w S) (fun x => !holdsN ps l k (memAt l k) x) D r e ks 113 #[.pointer (some ⟨w.heap.size + 1 + 1 + 1 + 1, 0, none⟩)] wx S (RSeq.keep (kids_seq HKD.out) (fun p hp => H6.bel.cell (HCX.out.lt _ hp)) fun _ _ h => h) (fun x hx => ql (HCX.out.lt x hx) H6.bel.size) (by unfold maxLen; omega)
   ⟨fun args W => by kernel_rfl, fun x hx cx W hb hr => not_any A B n c q d k w.heap.size (w.heap.size + 1) (w.heap.size + 1 + 1) (w.heap.size + 1 + 1 + 1 + 1) cx (holdsN ps l k (memAt l k) x) W (shape_nd hr) ((H6.move hb).t.cell 0) ((H6.move hb).l.cell 0) ((H6.move hb).k.cell 0) ((H6.move hb).e.cell 0) (fun w' hb' => Heach.out x hx cx w' ((H6.bel.trans (hb.mono H6.bel.size)).trans (hb'.mono (qlt H6.bel.size hb.size))) hr)⟩ (fun x y h => shape_nd h))
  have HRA : Hid ((!ks.any fun x => !holdsN ps l k (memAt l k) x) = allN ps l k (memAt l k) ks) := qh (by rw [any_not, allN_eq])
  generalize (ks.any fun x => !holdsN ps l k (memAt l k) x) = al at Hcf HRA
  generalize allN ps l k (memAt l k) ks = AL at HRA HC
  have HR : Hid (R = !al) := qh (by rw [HC.out, if_neg k1, if_neg k2, if_neg k4, if_neg (fun h => k5 h.1), HRA.out])
  have Hcf5 := qh (Hcf.out _ H5.out)
  unfold ndRow at Hcf5 H5 ⊢
  clear HC Heach HF5 Hcf k1 k2 k4 k5
  go_enter Tryz.func87, Tryz.ntmps87
  go_wp2_with (first | (go_at_call 115; refine Hcf5.out.mono ?_; rintro e w6 ⟨rfl, hb6⟩; refine Hid.out ?_))
  refine qh ?_
  have H6 := qh (H5.out.move hb6)
  clear hb6
  go_wp2
  go_ret
  exact ⟨ret_bool HR.out.symm, H6.out.bel⟩
end
section
open Go.RowKit Qm
theorem ckSet_zero {ps : List Pk} {l : List Mem} (h : ckSet ps l = 0) : ckTree ps = 0 ∧ ckMs ps none l = 0 := by
 unfold ckSet at h
 by_cases h0 : ckTree ps = 0
 ·rw [if_neg (by simpa using h0)] at h; exact ⟨h0, h⟩
 ·rw [if_pos h0] at h; exact absurd h h0
theorem Cx.of {ps : List Pk} {l : List Mem} {S : Nat → Prop} {A B : Option Addr} {n c q d : Nat} {w : World} (h : ckSet ps l = 0) (hT : RTree w S A n ps) (hnc : n ≤ c) (hc : c ≤ maxLen) (hL : RSet w S B q l) (hqd : q ≤ d) (hd : d ≤ maxLen) (hS : ∀ k, S k → k < w.heap.size) : Cx ps l S A n c B q d w :=
 ⟨hT, hL, hnc, hc, by rw [← hT.len]; exact ckTree_len (ckSet_zero h).1, hqd, hd, ckMs_mem (ckSet_zero h).2, hS⟩
theorem own_flags {ps : List Pk} {l : List Mem} (h : ckSet ps l = 0) {k : Nat} (hk : k < l.length) : ∀ f ∈ flagsN (pkOf ps (memAt l k).pl).nd, f ∈ (pkOf ps (memAt l k).pl).fs := by
 obtain ⟨h1, h2⟩ := ckSet_zero h
 have hm : memAt l k ∈ l := by
  rw [memAt_at (qge hk)]; exact List.getElem_mem hk
 obtain ⟨a, b, _⟩ := ckMs_mem h2 _ hm
 have hp : pkOf ps (memAt l k).pl ∈ ps := by
  unfold pkOf
  have hlt : (memAt l k).pl.toNat < ps.length := by omega
  rw [qgd, qge hlt]
  exact List.getElem_mem hlt
 exact (pkOk (ckTree_mem h1 _ hp)).sub
end
section
open Go.RowKit
theorem ints_cell {w : World} {S : Nat → Prop} {b o n : Nat} {xs : List Int} (h : RInts w S (some ⟨b, o, none⟩) n xs) : ∀ j, j < xs.length → w.cell? ⟨b, o + j, none⟩ = some (.int .i64 (xs.getD j 0)) := by
 intro j hj
 obtain ⟨b', o', e, _, hc⟩ := h.at_ (k := j) (by have := h.len; omega)
 injection e with e; injection e with e1 e2
 subst e1 e2
 exact hc
theorem containsI_any (A : Option Addr) (n c : Nat) (xs : List Int) (x : Int) (w : World) (S : Nat → Prop) (h : RInts w S A n xs) (hn : n ≤ maxLen) :
  Calls Tryz.prog 43 #[.slice A n c, .int .i64 x] w fun e w' => e = .returned (.bool (xs.contains x)) ∧ w' = w := by
 have hl := h.len
 unfold maxLen at hn
 by_cases h0 : n = 0
 ·subst h0
  obtain rfl := List.eq_nil_of_length_eq_zero hl
  exact (Tryz.slices_Contains_int_empty A c x w).mono fun e w' ⟨he, hw⟩ => ⟨by simpa using he, hw⟩
 ·obtain ⟨b, o, rfl, _⟩ := Row.some_lit h (by omega)
  refine (Tryz.slices_Contains_int b o n c xs x w (by omega) (by omega) (ints_cell h)).mono fun e w' ⟨he, hw⟩ => ⟨?_, hw⟩
  rw [he, List.take_of_length_le (by omega)]
end
section
open Go.RowKit Qm
theorem all_take_succ {α : Type} {f : α → Bool} {l : List α} {j : Nat} {x : α} (h : l[j]? = some x) : (l.take (j + 1)).all f = ((l.take j).all f && f x) := by
 obtain ⟨hj, rfl⟩ := List.getElem?_eq_some_iff.1 h
 rw [List.take_succ_eq_append_getElem hj, List.all_append]; simp
theorem all_take_false {α : Type} {f : α → Bool} {l : List α} {j : Nat} {x : α} (h : l[j]? = some x) (hf : f x = false) : l.all f = false := by
 rw [Bool.eq_false_iff]
 intro ha
 have := List.all_eq_true.1 ha x (List.mem_of_getElem? h)
 rw [hf] at this; cases this
theorem allOk_false {ps : List Pk} {ms : List Int} {l : List Mem} {i : Nat} (hi : i < l.length) (h : oneOk ps ms l i = false) : allOk ps ms l l.length = false := by
 rw [Bool.eq_false_iff]
 intro ha
 have := allOk_at ha i hi
 rw [h] at this; cases this
theorem loneB_step {ps : List Pk} {p : Pk} {l : List Mem} {j : Nat} {o : Mem} (h : l[j]? = some o) : loneB ps p (l.drop j) = if (pkOf ps o.pl).nm = p.nm ∧ (pkOf ps o.pl).slot = p.slot then false else loneB ps p (l.drop (j + 1)) := by
 obtain ⟨hj, rfl⟩ := List.getElem?_eq_some_iff.1 h
 rw [List.drop_eq_getElem_cons hj]; rfl
theorem validR_any (ps : List Pk) (v : Ws) (l : List Mem) (S : Nat → Prop) (A B : Option Addr) (n c q d : Nat) (A1 A2 A3 A4 : Option Addr) (n1 c1 n2 c2 n3 c3 n4 c4 : Nat) (w : World) (C : Cx ps l S A n c B q d w) (hck : ckSet ps l = 0) (hV : WsAt w S A1 n1 c1 A2 n2 c2 A3 n3 c3 A4 n4 c4 v) :
  Calls Tryz.prog 57 #[.agg #[.slice A n c], .agg #[.slice A1 n1 c1, .slice A2 n2 c2, .slice A3 n3 c3, .slice A4 n4 c4], .slice B q d] w fun e w' => e = .returned (.bool (validP ps v.ts v.ms l)) ∧ Below w.heap.size w w' := by
 have X0 := qh (Wb.new w A n c [.slice A1 n1 c1, .slice A2 n2 c2, .slice A3 n3 c3, .slice A4 n4 c4])
 have HC := qh C; have HV := qh hV; have HCK := qh hck; clear hV hck
 have Hpl := qh C.t.len
 have Hll := qh C.s.len
 have Hts := qh HV.out.ts.len
 have H1 := HV.out.h1; have H3 := HV.out.h3
 have hqd := C.qd; have hdm := C.dm; have hn8 := C.n8; have hcm := C.cm
 unfold maxLen at H1 H3 hdm hcm
 clear C
 have HR : Hid (validP ps v.ts v.ms l = (v.ts.all (fun a => l.any (fun m => isA ps m a)) && allOk ps v.ms l l.length)) := qh rfl
 generalize validP ps v.ts v.ms l = R at HR ⊢
 go_enter Tryz.func57, Tryz.ntmps57
 go_wp2
 go_loopg [18] n1 (fun g iv wr => ∃ j : Nat, Hid (j + g = n1) ∧ iv = .int .i64 j ∧ Hid ((v.ts.take j).all (fun a => l.any (fun m => isA ps m a)) = true) ∧ Hid (Wb w A n c [.slice A1 n1 c1, .slice A2 n2 c2, .slice A3 n3 c3, .slice A4 n4 c4] wr))
 case atStart => exact ⟨0, qh (Nat.zero_add _), rfl, qh rfl, X0⟩
 case round =>
  obtain ⟨j, Hj, rfl, Hcl, XR⟩ := hrel
  clear X0
  by_cases hj : j < n1
  ·obtain ⟨b, o, x, a, rfl, hbS, ha, hxa, _, hcell⟩ := (HV.out.ts.keep (w' := wr) (fun p hp => XR.out.bel.cell (HC.out.lt _ hp)) fun _ _ h => h).at_ hj (by decide)
   obtain ⟨rfl, ha1, ha2⟩ := hxa
   have g0 := hcell 0 (by omega); have g1 := hcell 1 (by omega); have g2 := hcell 2 (by omega); have g3 := hcell 3 (by omega); have g4 := hcell 4 (by omega); have g5 := hcell 5 (by omega)
   unfold atRow at g0 g1 g2 g3 g4 g5
   simp only [qgz, qgs, Nat.add_zero] at g0 g1 g2 g3 g4 g5
   have X3 := qh (XR.out.alloc (.cells (atRow a).toArray 75))
   have W3 := qh (Whole.new wr wr.heap.size 75 (atRow a) rfl)
   have hcf := containsF_M (RMem w S) (fun m => isA ps m a) B q d l 85 #[.pointer (some ⟨w.heap.size, 0, none⟩), .pointer (some ⟨wr.heap.size, 0, none⟩)] _ S (RSeq.keep HC.out.s (fun p hp => X3.out.bel.cell (HC.out.lt _ hp)) fun _ _ h => h) (fun x hx => ql (HC.out.lt x hx) X3.out.bel.size) (by unfold maxLen; omega)
    ⟨fun args W => by kernel_rfl, fun m hm cx W hb hr => target_any HC.out a ha1 ha2 w.heap.size wr.heap.size hm cx hr W (X3.out.bel.trans (hb.mono X3.out.bel.size)) ((X3.out.t.below hb X3.out.t.lt).cell 0) (fun i _ => (W3.out.below hb W3.out.lt).cell i)⟩ (fun x y h => shape_mem h)
   have Hst := qh (all_take_succ (f := fun a => l.any (fun m => isA ps m a)) ha)
   have Hfa := qh (all_take_false (f := fun a => l.any (fun m => isA ps m a)) ha)
   generalize hq2 : l.any (fun m => isA ps m a) = r at hcf Hst Hfa
   have Hcf := qh hcf
   have Hq2 := qh hq2
   unfold atRow at Hcf X3
   clear hcf hcell ha hq2
   go_wp2_with (first | (go_at_call 84; refine Hcf.out.mono ?_; rintro e w4 ⟨rfl, hb4⟩; refine Hid.out ?_))
   refine qh ?_
   have X4 := qh (X3.out.move hb4)
   clear hb4 g0 g1 g2 g3 g4 g5 X3 W3
   cases r
   ·have HE : Hid (R = false) := qh (by rw [HR.out, Hfa.out rfl]; rfl)
    go_wp2
    go_ret
    exact ⟨ret_bool HE.out.symm, X4.out.bel⟩
   ·have HE : Hid ((v.ts.take (j + 1)).all (fun a => l.any (fun m => isA ps m a)) = true) := qh (by rw [Hst.out, Hcl.out]; rfl)
    go_wp2
    go_roundg (gk - 1)
    case measure => have := Hj.out; omega
    case rel => exact ⟨j + 1, qh (by have := Hj.out; omega), by go_num, HE, X4⟩
  ·obtain rfl : n1 = j := by have := Hj.out; omega
   have HRA : Hid (R = allOk ps v.ms l l.length) := qh (by
    have h := Hcl.out
    rw [List.take_of_length_le (by have := Hts.out; omega)] at h
    rw [HR.out, h]; rfl)
   clear HR Hcl
   go_wp2
   obtain ⟨wq, hwq⟩ : ∃ x, x = wr := ⟨_, rfl⟩
   rw [← hwq] at XR ⊢
   clear hwq
   go_loopg [29] q (fun g iv wr => ∃ i : Nat, Hid (i + g = q) ∧ iv = .int .i64 i ∧ Hid (allOk ps v.ms l i = true) ∧ Hid (Wb w A n c [.slice A1 n1 c1, .slice A2 n2 c2, .slice A3 n3 c3, .slice A4 n4 c4] wr))
   case atStart => exact ⟨0, qh (Nat.zero_add _), rfl, qh rfl, XR⟩
   case round =>
    obtain ⟨i, Hi, rfl, Hcl, XQ⟩ := hrel
    clear XR
    by_cases hi : i < q
    ·have hrel := qh (fun (wx : World) (hb : Below w.heap.size w wx) => (HC.out.s.under hb HC.out.lt).at_ hi)
     obtain ⟨b, o, m, E, u, v0, rfl, hbS, hm, huv, hv, _, g0, g1⟩ := (HC.out.s.under XQ.out.bel HC.out.lt).at_ hi
     obtain ⟨hp0, hp1, _⟩ := HC.out.ok m (List.mem_of_getElem? hm)
     have Hown := qh (own_flags HCK.out (k := i) (by have := Hll.out; omega))
     have hil : i < l.length := by have := Hll.out; omega
     have Hho := qh (fun cx wx (hb : Below w.heap.size w wx) hr => holds_any ps l S A n c (some ⟨b, o, none⟩) q d (pkOf ps (memAt l i).pl).nd i cx wx (HC.out.under hb) hi hr Hown.out)
     have Hone : Hid (oneOk ps v.ms l i = (!v.ms.contains (memAt l i).pl && (holdsN ps l i (memAt l i) (pkOf ps (memAt l i).pl).nd && loneB ps (pkOf ps (memAt l i).pl) (l.take i)))) := qh rfl
     have Hnx : Hid (allOk ps v.ms l (i + 1) = oneOk ps v.ms l i) := qh (by rw [allOk, Hcl.out]; rfl)
     have Hno := qh (fun h => allOk_false (ps := ps) (ms := v.ms) hil h)
     generalize oneOk ps v.ms l i = on1 at Hone Hnx Hno
     rw [memAt_at hm] at Hho Hone
     have hpl := Hpl.out
     have Hms := qh (fun wx (hb : Below w.heap.size w wx) => containsI_any A3 n3 c3 v.ms m.pl wx S (Row.below HV.out.ms hb HC.out.lt) (by unfold maxLen; omega))
     obtain ⟨pl, on⟩ := m
     dsimp only at g0 hp0 hp1 Hho Hone Hms
     obtain ⟨j, rfl⟩ : ∃ j : Nat, pl = j := ⟨pl.toNat, by omega⟩
     have hjn : j < n := by omega
     obtain ⟨b2, o2, p, F, fn, fc, kd, pa, f, no, E2, r, d', rfl, hbS2, hp, hP, hcell⟩ := (HC.out.t.under XQ.out.bel HC.out.lt).at_ hjn
     rw [pkOf_at hp] at Hho Hone
     have hho := fun wx (hb : Below w.heap.size w wx) => Hho.out (ndRow kd pa f no E2 r d') wx hb ((hP.nd.keep (w' := w) (fun p hp => (XQ.out.bel.cell (HC.out.lt _ hp)).symm)).under hb HC.out.lt)
     have h0 := hcell 0 (by omega); have h1 := hcell 1 (by omega); have h2 := hcell 2 (by omega); have h3 := hcell 3 (by omega); have h4 := hcell 4 (by omega); have h5 := hcell 5 (by omega); have h6 := hcell 6 (by omega); have h7 := hcell 7 (by omega); have h8 := hcell 8 (by omega); have h9 := hcell 9 (by omega); have h10 := hcell 10 (by omega); have h11 := hcell 11 (by omega); have h12 := hcell 12 (by omega); have h13 := hcell 13 (by omega)
     unfold pkRow ndRow at h0 h1 h2 h3 h4 h5 h6 h7 h8 h9 h10 h11 h12 h13
     simp only [qgz, qgs, Nat.add_zero] at h0 h1 h2 h3 h4 h5 h6 h7 h8 h9 h10 h11 h12 h13
     have hbl : b < wr.heap.size := ql (HC.out.lt _ hbS) XQ.out.bel.size
     have hbl2 : b2 < wr.heap.size := ql (HC.out.lt _ hbS2) XQ.out.bel.size
     have hbl3 : b2 < wr.heap.size + 1 := by omega
     generalize holdsN ps l i ⟨(j : Int), on⟩ p.nd = rv at Hone hho
     generalize v.ms.contains (j : Int) = mc at Hms Hone
     have hbx : Below wr.heap.size wr ((wr.alloc (.cells #[.int .i64 (j : Int), .slice E u v0] 85)).alloc (.cells (pkRow p F fn fc (ndRow kd pa f no E2 r d')).toArray 101)) := ((Below.refl _ wr).alloc (qr _) _).alloc (by simp) _
     have X3 := qh (XQ.out.move hbx)
     have P3 := qh (Whole.new (wr.alloc (.cells #[.int .i64 (j : Int), .slice E u v0] 85)) (wr.heap.size + 1) 101 (pkRow p F fn fc (ndRow kd pa f no E2 r d')) (by simp))
     have t0 := XQ.out.t.cell 0
     have v2 := XQ.out.v.cell 2
     simp only [qgz, qgs] at t0 v2
     have vlt := XQ.out.v.lt
     have tlt := XQ.out.t.lt
     have vlt1 : w.heap.size + 1 < wr.heap.size + 1 := by omega
     have tlt1 : w.heap.size < wr.heap.size + 1 := by omega
     have hjn1 : (j : Int) < n := by omega
     have hjn0 : (0 : Int) ≤ (j : Int) := by omega
     have hiq : (i : Int) ≤ d := by omega
     have hi0 : (0 : Int) ≤ (i : Int) := by omega
     have Hp : Hid (ps[j]? = some p) := qh hp
     have Hh := qh hho
     clear hho hcell hP hp hm hp0 hp1 hbx
     unfold pkRow ndRow at P3 X3
     unfold ndRow at Hh
     go_wp2_with (first | (go_at_call 43; refine (Hms.out _ X3.out.bel).mono ?_; rintro e w4 ⟨rfl, hw4⟩; have hw5 := hw4.symm; subst hw5; refine Hid.out ?_))
     refine qh ?_
     generalize World.alloc (World.alloc wr _) _ = w4 at X3 P3 ⊢
     clear t0 v2 vlt tlt vlt1 tlt1 h0 h1 h2 h3 h4 h5 h6 h7 h8 h9 h10 h11 h12 h13 hbl hbl2 hbl3 g0 g1
     cases mc
     ·have t0 := X3.out.t.cell 0
      have p0 := P3.out.cell 0; have p1 := P3.out.cell 1; have p2 := P3.out.cell 2; have p3 := P3.out.cell 3; have p4 := P3.out.cell 4; have p5 := P3.out.cell 5; have p6 := P3.out.cell 6; have p7 := P3.out.cell 7; have p8 := P3.out.cell 8; have p9 := P3.out.cell 9; have p10 := P3.out.cell 10; have p11 := P3.out.cell 11; have p12 := P3.out.cell 12; have p13 := P3.out.cell 13
      simp only [qgz, qgs] at t0 p0 p1 p2 p3 p4 p5 p6 p7 p8 p9 p10 p11 p12 p13
      go_wp2_with (first | (go_at_call 87; refine (Hh.out _ X3.out.bel).mono ?_; rintro e w6 ⟨rfl, hb6⟩; refine Hid.out ?_))
      refine qh ?_
      have X6 := qh (X3.out.move hb6)
      have P6 := qh (P3.out.below hb6 P3.out.lt)
      clear hb6 t0 p0 p1 p2 p3 p4 p5 p6 p7 p8 p9 p10 p11 p12 p13 X3 P3
      cases rv
      ·have HE : Hid (R = false) := qh (by rw [HRA.out, Hno.out (by rw [Hone.out]; rfl)])
       go_wp2
       go_ret
       exact ⟨ret_bool HE.out.symm, X6.out.bel⟩
      ·have HO : Hid (on1 = loneB ps p (l.take i)) := qh (by rw [Hone.out]; simp)
       clear Hone
       go_wp2
       clear XQ
       obtain ⟨wp, rfl⟩ : ∃ x, x = wr := ⟨_, rfl⟩
       obtain ⟨gq, rfl⟩ : ∃ x, x = gk := ⟨_, rfl⟩
       go_loopg [58] i (fun g iv wr => ∃ y : Nat, Hid (y + g = i) ∧ iv = .int .i64 y ∧ Hid (loneB ps p (l.take i) = loneB ps p ((l.take i).drop y)) ∧ Hid (Wb w (some ⟨b2, o2, none⟩) n c [.slice A1 n1 c1, .slice A2 n2 c2, .slice A3 n3 c3, .slice A4 n4 c4] wr) ∧ Hid (Whole wr (wp.heap.size + 1) 101 [.string ⟨p.nm.toArray⟩, .int .i64 p.ver, .int .i64 p.slot, .slice F fn fc, .int .i64 kd, .string ⟨pa.nm.toArray⟩, .int .i64 pa.op, .int .i64 pa.ver, .int .i64 pa.slot, .string ⟨pa.fl.toArray⟩, .bool pa.on, .string ⟨f.toArray⟩, .bool no, .slice E2 r d']))
       case atStart => exact ⟨0, qh (Nat.zero_add _), rfl, qh rfl, X6, P6⟩
       case round =>
        obtain ⟨y, Hy, rfl, Hly, XL, PL⟩ := hrel
        clear X6 P6
        by_cases hy : y < i
        ·obtain ⟨b', o', m2, E3, u2, v3, eA, hbS', hm2, _, _, _, k0, k1⟩ := (HC.out.s.under XL.out.bel HC.out.lt).at_ (j := y) (by omega)
         injection eA with eA; injection eA with e1 e2; subst e1 e2
         obtain ⟨hq0, hq1, _⟩ := HC.out.ok m2 (List.mem_of_getElem? hm2)
         have Hst := qh (loneB_step (ps := ps) (p := p) (l := l.take i) (j := y) (by rw [List.getElem?_take_of_lt hy]; exact hm2))
         have hpl := Hpl.out
         obtain ⟨pl2, on2⟩ := m2
         dsimp only at k0 hq0 hq1 Hst
         obtain ⟨z, rfl⟩ : ∃ z : Nat, pl2 = z := ⟨pl2.toNat, by omega⟩
         have hzn : z < n := by omega
         obtain ⟨b4, o4, p2, F2, fn2, fc2, kd2, pa2, f2, no2, E4, r2, d2, eA, hbS4, hp2, hP2, hcell2⟩ := (HC.out.t.under XL.out.bel HC.out.lt).at_ hzn
         injection eA with eA; injection eA with e1 e2; subst e1 e2
         rw [pkOf_at hp2] at Hst
         have e0 := hcell2 0 (by omega); have e1 := hcell2 1 (by omega); have e2 := hcell2 2 (by omega); have e3 := hcell2 3 (by omega); have e4 := hcell2 4 (by omega); have e5 := hcell2 5 (by omega); have e6 := hcell2 6 (by omega); have e7 := hcell2 7 (by omega); have e8 := hcell2 8 (by omega); have e9 := hcell2 9 (by omega); have e10 := hcell2 10 (by omega); have e11 := hcell2 11 (by omega); have e12 := hcell2 12 (by omega); have e13 := hcell2 13 (by omega)
         unfold pkRow ndRow at e0 e1 e2 e3 e4 e5 e6 e7 e8 e9 e10 e11 e12 e13
         simp only [qgz, qgs, Nat.add_zero] at e0 e1 e2 e3 e4 e5 e6 e7 e8 e9 e10 e11 e12 e13
         have hbl : b < wr.heap.size := ql (HC.out.lt _ hbS') XL.out.bel.size
         have hbl2 : b2 < wr.heap.size := ql (HC.out.lt _ hbS4) XL.out.bel.size
         have hbl3 : b2 < wr.heap.size + 1 := by omega
         have hbx : Below wr.heap.size wr ((wr.alloc (.cells #[.int .i64 (z : Int), .slice E3 u2 v3] 85)).alloc (.cells #[.string ⟨p2.nm.toArray⟩, .int .i64 p2.ver, .int .i64 p2.slot, .slice F2 fn2 fc2, .int .i64 kd2, .string ⟨pa2.nm.toArray⟩, .int .i64 pa2.op, .int .i64 pa2.ver, .int .i64 pa2.slot, .string ⟨pa2.fl.toArray⟩, .bool pa2.on, .string ⟨f2.toArray⟩, .bool no2, .slice E4 r2 d2] 101)) := ((Below.refl _ wr).alloc (qr _) _).alloc (by simp) _
         have X7 := qh (XL.out.move hbx)
         have P7 := qh (PL.out.below hbx PL.out.lt)
         have t0 := XL.out.t.cell 0
         have p0 := PL.out.cell 0
         have p2' := PL.out.cell 2
         simp only [qgz, qgs] at t0 p0 p2'
         have tlt := XL.out.t.lt
         have tlt1 : w.heap.size < wr.heap.size + 1 := by omega
         have plt := PL.out.lt
         have plt1 : wp.heap.size + 1 < wr.heap.size + 1 := by omega
         have hz1 : (z : Int) < n := by omega
         have hz0 : (0 : Int) ≤ (z : Int) := by omega
         have hyi : (y : Int) < i := by omega
         clear hcell2 hP2 hp2 hm2 hq0 hq1 hbx
         by_cases hnm : p2.nm = p.nm
         ·have hnm' : (p2.nm == p.nm) = true := by simpa using hnm
          by_cases hsl : p2.slot = p.slot
          ·have hsl' : (p2.slot == p.slot) = true := by simpa using hsl
           have HE : Hid (R = false) := qh (by rw [HRA.out, Hno.out (by rw [HO.out, Hly.out, Hst.out, if_pos ⟨hnm, hsl⟩])])
           clear hnm hsl
           go_wp2
           go_ret
           exact ⟨ret_bool HE.out.symm, X7.out.bel⟩
          ·have hsl' : (p2.slot == p.slot) = false := by simpa using hsl
           have HE : Hid (loneB ps p (l.take i) = loneB ps p ((l.take i).drop (y + 1))) := qh (by rw [Hly.out, Hst.out, if_neg (fun h => hsl h.2)])
           clear hnm hsl
           go_wp2
           go_roundg (gk - 1)
           case measure => have := Hy.out; omega
           case rel => exact ⟨y + 1, qh (by have := Hy.out; omega), by go_num, HE, X7, P7⟩
         ·have hnm' : (p2.nm == p.nm) = false := by simpa using hnm
          have HE : Hid (loneB ps p (l.take i) = loneB ps p ((l.take i).drop (y + 1))) := qh (by rw [Hly.out, Hst.out, if_neg (fun h => hnm h.1)])
          clear hnm
          go_wp2
          go_roundg (gk - 1)
          case measure => have := Hy.out; omega
          case rel => exact ⟨y + 1, qh (by have := Hy.out; omega), by go_num, HE, X7, P7⟩
        ·obtain rfl : i = y := by have := Hy.out; omega
         have HE : Hid (allOk ps v.ms l (i + 1) = true) := qh (by
          rw [Hnx.out, HO.out, Hly.out, List.drop_of_length_le (by rw [List.length_take]; omega)]; rfl)
         go_wp2
         go_roundg (gq - 1)
         case measure => have := Hi.out; omega
         case rel => exact ⟨i + 1, qh (by have := Hi.out; omega), by go_num, HE, XL⟩
     ·have HE : Hid (R = false) := qh (by rw [HRA.out, Hno.out (by rw [Hone.out]; rfl)])
      go_wp2
      go_ret
      exact ⟨ret_bool HE.out.symm, X3.out.bel⟩
    ·obtain rfl : q = i := by have := Hi.out; omega
     go_wp2
     go_ret
     exact ⟨ret_bool (by rw [HRA.out, Hll.out, Hcl.out]), XQ.out.bel⟩
end
end Go.Proofs.YtedbhlgjcnnknaaGreatDoor
