/- Parts of the proof: walks and plain laws, side by side. -/
import Derived.Test.YtpipgffbhpnmkaaGreatDoorM5
import Derived.Deep.LoopGhost
import Derived.Test.YtpipgffbhpnmkaaGreatDoorProg
import Derived.Test.YtpipgffbhpnmkaaGreatDoorM14
import Derived.Test.YtpipgffbhpnmkaaGreatDoorM22
import Derived.Test.YtpipgffbhpnmkaaGreatDoorM16
set_option linter.unusedVariables false
set_option linter.unusedSimpArgs false
set_option linter.unusedSectionVars false
/- Lists held against each other, element by element. -/
namespace Go.Proofs.YtpipgffbhpnmkaaGreatDoor
open Go.RowKit Qm
def eqL {α : Type} (sm : α → α → Bool) : List α → List α → Bool
  | [], [] => true
  | x :: r, y :: s => sm x y && eqL sm r s
  | _, _ => false
theorem eqL_iff {α : Type} {sm : α → α → Bool} (h : ∀ x y, sm x y = true ↔ x = y) : ∀ {xs ys : List α}, eqL sm xs ys = true ↔ xs = ys
  | [], [] => by simp [eqL]
  | [], _ :: _ => by simp [eqL]
  | _ :: _, [] => by simp [eqL]
  | x :: r, y :: s => by simp only [eqL, Bool.and_eq_true, h, eqL_iff h, List.cons.injEq]
theorem eqL_len {α : Type} {sm : α → α → Bool} : ∀ {xs ys : List α}, xs.length ≠ ys.length → eqL sm xs ys = false
  | [], [], h => absurd rfl h
  | [], _ :: _, _ => rfl
  | _ :: _, [], _ => rfl
  | x :: r, y :: s, h => by
    simp only [eqL]
    rw [eqL_len (by simpa using h), Bool.and_false]
theorem eqL_step {α : Type} {sm : α → α → Bool} {xs ys : List α} {j : Nat} {x y : α} (hx : xs[j]? = some x) (hy : ys[j]? = some y) : eqL sm (xs.drop j) (ys.drop j) = (sm x y && eqL sm (xs.drop (j + 1)) (ys.drop (j + 1))) := by
  obtain ⟨h1, rfl⟩ := List.getElem?_eq_some_iff.1 hx
  obtain ⟨h2, rfl⟩ := List.getElem?_eq_some_iff.1 hy
  rw [List.drop_eq_getElem_cons h1, List.drop_eq_getElem_cons h2]
  rfl
/-- A function value that answers, of two elements, whether they are alike. -/
def AsksEq {α : Type} (P : Program) (w : World) (F : FuncId) (R : List Value → α → Prop) (sm : α → α → Bool) : Prop :=
  (∀ (args : Array Value) (W : World), (callFunc F args).run P W = .ok (.enter F args) W) ∧
    ∀ (x y : α) (cx cy : List Value) (W : World), Below w.heap.size w W → R cx x → R cy y → Calls P F #[.agg cx.toArray, .agg cy.toArray] W fun e w' => e = .returned (.bool (sm x y)) ∧ Below W.heap.size W w'
end Go.Proofs.YtpipgffbhpnmkaaGreatDoor

/- slices.EqualFunc of slices whose elements have 4 cells. (Printed by wip/bin/mkeqf.py.) -/
namespace Go.Proofs.YtpipgffbhpnmkaaGreatDoor
open Go.RowKit Qm

def Shape_A (x : List Value) : Prop := ∃ (x0 : Bool) (x1 : Int) (x2a : Option Addr) (x2n x2c : Nat) (x3 : Int), x = [.bool x0, .int .i64 x1, .slice x2a x2n x2c, .int .i64 x3]
set_option maxRecDepth 100000 in
set_option maxHeartbeats 3200000 in
theorem equalF_A {α : Type} (R : List Value → α → Prop) (sm : α → α → Bool) (A B : Option Addr) (n c m d : Nat) (xs ys : List α) (F : FuncId) (w : World) (S : Nat → Prop) (hK : RSeq 4 R w S A n xs) (hL : RSeq 4 R w S B m ys) (hS : ∀ k, S k → k < w.heap.size) (hn : n ≤ maxLen) (hm : m ≤ maxLen) (hF : AsksEq Tryz.prog w F R sm) (hsh : ∀ x y, R x y → Shape_A x) :
    Calls Tryz.prog 57 #[.slice A n c, .slice B m d, .func (.func F) #[] #[]] w fun e w' => e = .returned (.bool (eqL sm xs ys)) ∧ Below w.heap.size w w' := by
  unfold maxLen at hn hm
  have HK := Lib.hid hK; have HL := Lib.hid hL; have HS := Lib.hid hS; have HF := Lib.hid hF; clear hK hL hS hF
  by_cases hnm : n = m
  · subst hnm
    go_enter Tryz.func57, Tryz.ntmps57
    go_wp2
    go_loopg [17] n (fun g iv wr => ∃ (j : Nat), Hid (j + g = n) ∧ iv = .int .i64 j ∧ Hid (eqL sm xs ys = eqL sm (xs.drop j) (ys.drop j)) ∧ Below w.heap.size w wr)
    case atStart => exact ⟨0, Lib.hid (Nat.zero_add _), rfl, Lib.hid rfl, Below.refl _ _⟩
    case round =>
      obtain ⟨j, Hj, rfl, Hcl, hb⟩ := hrel
      have HBr := Lib.hid hb; clear hb
      by_cases hj : j < n
      · obtain ⟨b, o, x, y, rfl, hb, hy, hxy, hxl, hcell⟩ := (HK.out.keep (w' := wr) (fun p hp => HBr.out.cell (HS.out _ hp)) fun _ _ h => h).at_ hj (by decide)
        obtain ⟨b', o', x', y', rfl, hb', hy', hxy', hxl', hcell'⟩ := (HL.out.keep (w' := wr) (fun p hp => HBr.out.cell (HS.out _ hp)) fun _ _ h => h).at_ hj (by decide)
        have Hdr : Hid (eqL sm (xs.drop j) (ys.drop j) = (sm y y' && eqL sm (xs.drop (j + 1)) (ys.drop (j + 1)))) := Lib.hid (eqL_step hy hy')
        have hlt : b' < wr.heap.size := Nat.lt_of_lt_of_le (HS.out _ hb') HBr.out.size
        obtain ⟨x0, x1, x2a, x2n, x2c, x3, rfl⟩ := hsh _ _ hxy
        obtain ⟨y0, y1, y2a, y2n, y2c, y3, rfl⟩ := hsh _ _ hxy'
        have g0 := hcell 0 (by omega); have g1 := hcell 1 (by omega); have g2 := hcell 2 (by omega); have g3 := hcell 3 (by omega)
        have k0 := hcell' 0 (by omega); have k1 := hcell' 1 (by omega); have k2 := hcell' 2 (by omega); have k3 := hcell' 3 (by omega)
        simp only [List.getElem?_cons_zero, List.getElem?_cons_succ, Nat.add_zero] at g0 g1 g2 g3 k0 k1 k2 k3
        clear hcell hcell' hy hy'
        have hW1 : Below wr.heap.size wr ((wr.alloc (.cells #[.bool x0, .int .i64 x1, .slice x2a x2n x2c, .int .i64 x3] 48)).alloc (.cells #[.bool y0, .int .i64 y1, .slice y2a y2n y2c, .int .i64 y3] 48)) := ((Below.refl _ wr).alloc (Nat.le_refl _) _).alloc (by simp) _
        have hcall := HF.out.2 _ _ _ _ _ (HBr.out.trans (hW1.mono HBr.out.size)) hxy hxy'
        have henter := HF.out.1
        have HB2 := Lib.hid (HBr.out.trans (hW1.mono HBr.out.size))
        clear hW1 hxy hxy' hxl hxl'
        generalize sm y y' = q at hcall Hdr
        have Hcall := Lib.hid hcall; clear hcall
        cases q
        · go_wp2_with fail
          refine Hcall.out.mono ?_
          rintro e w' ⟨rfl, hb'⟩
          have HB3 := Lib.hid (HB2.out.trans (hb'.mono HB2.out.size)); clear hb'
          go_wp2_with fail
          go_ret
          exact ⟨ret_bool (by rw [Hcl.out, Hdr.out]; rfl), HB3.out⟩
        · go_wp2_with fail
          refine Hcall.out.mono ?_
          rintro e w' ⟨rfl, hb'⟩
          have HB3 := Lib.hid (HB2.out.trans (hb'.mono HB2.out.size)); clear hb'
          go_wp2_with fail
          go_roundg (gk - 1)
          case measure => have := Hj.out; omega
          case rel => exact ⟨j + 1, Lib.hid (by have := Hj.out; omega), by go_num, Lib.hid (by rw [Hcl.out, Hdr.out, Bool.true_and]), HB3.out⟩
      · go_wp2_with fail
        go_ret
        refine ⟨ret_bool ?_, HBr.out⟩
        rw [Hcl.out, List.drop_of_length_le (by have := HK.out.len; omega), List.drop_of_length_le (by have := HL.out.len; omega)]; rfl
  · have e1 : ((n : Int) != (m : Int)) = true := by simp; omega
    have e2 : ((n : Int) == (m : Int)) = false := by simp; omega
    have HE : Hid (eqL sm xs ys = false) := Lib.hid (eqL_len (by have := HK.out.len; have := HL.out.len; omega))
    go_enter Tryz.func57, Tryz.ntmps57
    go_wp2
    go_ret
    exact ⟨ret_bool HE.out.symm, Below.refl _ _⟩
end Go.Proofs.YtpipgffbhpnmkaaGreatDoor

/- slices.IndexFunc, slices.ContainsFunc of slices whose elements have 4 cells. (Printed by wip/bin/mkcf.py.) -/
namespace Go.Proofs.YtpipgffbhpnmkaaGreatDoor
open Go.RowKit Qm

end Go.Proofs.YtpipgffbhpnmkaaGreatDoor

/- The document's own SameMember, SameActs, walked. -/
namespace Go.Proofs.YtpipgffbhpnmkaaGreatDoor
open Go.RowKit Qm

set_option maxRecDepth 100000 in
set_option maxHeartbeats 3200000 in
theorem rsameM_any (m o : Mem) (S : Nat → Prop) (A B : Option Addr) (n c k d : Nat) (w : World) (hA : RBools w S A n m.on) (hB : RBools w S B k o.on) (hn : n ≤ maxLen) (hk : k ≤ maxLen) (hS : ∀ k, S k → k < w.heap.size) :
    Calls Tryz.prog 11 #[.agg #[.int .i64 m.pl, .slice A n c], .agg #[.int .i64 o.pl, .slice B k d]] w fun e w' => e = .returned (.bool (decide (m = o))) ∧ Below w.heap.size w w' := by
  have hb2 : Below w.heap.size w ((w.alloc (.cells #[.int .i64 m.pl, .slice A n c] 33)).alloc (.cells #[.int .i64 o.pl, .slice B k d] 33)) := ((Below.refl _ w).alloc (Nat.le_refl _) _).alloc (by simp) _
  have HB := Lib.hid hb2
  have Heq := Lib.hid (fun wx (hb : Below w.heap.size w wx) => equalB_any A B n k c d m.on o.on wx S (Row.below hA hb hS) (Row.below hB hb hS) hn hk)
  obtain ⟨pl, on⟩ := m
  obtain ⟨pl2, on2⟩ := o
  have HD : Hid (decide ((⟨pl, on⟩ : Mem) = ⟨pl2, on2⟩) = (decide (pl = pl2) && (on == on2))) := Lib.hid (by
    rw [Bool.eq_iff_iff, Bool.and_eq_true, decide_eq_true_eq, decide_eq_true_eq, beq_iff_eq, Mem.mk.injEq])
  generalize decide ((⟨pl, on⟩ : Mem) = ⟨pl2, on2⟩) = r at HD ⊢
  dsimp only at Heq ⊢ HB
  generalize (on == on2) = q at Heq HD
  clear hA hB hS hb2
  by_cases hp : pl = pl2
  · have hp1 : (pl == pl2) = true := by simpa using hp
    have HR : Hid (r = q) := Lib.hid (by rw [HD.out, decide_eq_true hp]; rfl)
    clear hp HD
    go_enter Tryz.func11, Tryz.ntmps11
    go_wp2_with (first | (go_at_call 40; refine (Heq.out _ HB.out).mono ?_; rintro e w2 ⟨rfl, nq, rfl⟩; refine Hid.out ?_))
    refine Lib.hid ?_
    go_wp2
    go_ret
    exact ⟨ret_bool HR.out.symm, below_drewN HB.out nq⟩
  · have hp1 : (pl == pl2) = false := by simpa using hp
    have HR : Hid (r = false) := Lib.hid (by rw [HD.out, decide_eq_false hp]; rfl)
    clear hp HD
    go_enter Tryz.func11, Tryz.ntmps11
    go_wp2
    go_ret
    exact ⟨ret_bool HR.out.symm, HB.out⟩
def actB (a b : Ac) : Bool := (a.out == b.out) && ((a.cyc == b.cyc) && decide (a.m = b.m))
theorem actB_iff (a b : Ac) : actB a b = true ↔ a = b := by
  obtain ⟨o, m, c⟩ := a
  obtain ⟨o2, m2, c2⟩ := b
  unfold actB
  simp only [Bool.and_eq_true, beq_iff_eq, decide_eq_true_eq, Ac.mk.injEq]
  exact ⟨fun h => ⟨h.1, h.2.2, h.2.1⟩, fun h => ⟨h.1, h.2.2, h.2.1⟩⟩
set_option maxRecDepth 100000 in
set_option maxHeartbeats 3200000 in
theorem sameAc_any (S : Nat → Prop) (w0 : World) (a b : Ac) (cx cy : List Value) (hx : RAct w0 S cx a) (hy : RAct w0 S cy b) (hS : ∀ k, S k → k < w0.heap.size) (w : World) (hb : Below w0.heap.size w0 w) :
    Calls Tryz.prog 58 #[.agg cx.toArray, .agg cy.toArray] w fun e w' => e = .returned (.bool (actB a b)) ∧ Below w.heap.size w w' := by
  obtain ⟨A, n, c, rfl, hn, hc, hA⟩ := hx
  obtain ⟨B, k, d, rfl, hk, hd, hB⟩ := hy
  obtain ⟨o, m, z⟩ := a
  obtain ⟨o2, m2, z2⟩ := b
  have hb2 : Below w.heap.size w ((w.alloc (.cells #[.bool o, .int .i64 m.pl, .slice A n c, .int .i64 z] 48)).alloc (.cells #[.bool o2, .int .i64 m2.pl, .slice B k d, .int .i64 z2] 48)) := ((Below.refl _ w).alloc (Nat.le_refl _) _).alloc (by simp) _
  have HB := Lib.hid hb2
  have hb3 := hb.trans (hb2.mono hb.size)
  have Hs := Lib.hid (rsameM_any m m2 S A B n c k d _ (Row.below hA hb3 hS) (Row.below hB hb3 hS) (Nat.le_trans hn hc) (Nat.le_trans hk hd) (fun k hk => Nat.lt_of_lt_of_le (hS k hk) hb3.size))
  have M0 := Lib.hid ((Whole.new w w.heap.size 48 [.bool o, .int .i64 m.pl, .slice A n c, .int .i64 z] rfl).alloc (.cells #[.bool o2, .int .i64 m2.pl, .slice B k d, .int .i64 z2] 48))
  have M1 := Lib.hid (Whole.new (w.alloc (.cells #[.bool o, .int .i64 m.pl, .slice A n c, .int .i64 z] 48)) (w.heap.size + 1) 48 [.bool o2, .int .i64 m2.pl, .slice B k d, .int .i64 z2] (by simp))
  have HR : Hid (actB ⟨o, m, z⟩ ⟨o2, m2, z2⟩ = ((o == o2) && ((z == z2) && decide (m = m2)))) := Lib.hid rfl
  generalize actB ⟨o, m, z⟩ ⟨o2, m2, z2⟩ = R at HR ⊢
  generalize decide (m = m2) = q at HR Hs
  have x0 := M0.out.cell 0; have x1 := M0.out.cell 1; have x2 := M0.out.cell 2; have x3 := M0.out.cell 3
  have y0 := M1.out.cell 0; have y1 := M1.out.cell 1; have y2 := M1.out.cell 2; have y3 := M1.out.cell 3
  simp only [List.getElem?_cons_zero, List.getElem?_cons_succ] at x0 x1 x2 x3 y0 y1 y2 y3
  clear hA hB hb hb2 hb3 hS
  generalize hoq : (o == o2) = ob at HR
  generalize hzq : (z == z2) = zb at HR
  cases ob
  · have HE : Hid (R = false) := Lib.hid HR.out
    go_enter Tryz.func58, Tryz.ntmps58
    go_wp2
    go_ret
    exact ⟨ret_bool HE.out.symm, HB.out⟩
  · cases zb
    · have HE : Hid (R = false) := Lib.hid HR.out
      go_enter Tryz.func58, Tryz.ntmps58
      go_wp2
      go_ret
      exact ⟨ret_bool HE.out.symm, HB.out⟩
    · have HE : Hid (R = q) := Lib.hid HR.out
      go_enter Tryz.func58, Tryz.ntmps58
      go_wp2_with (first | (go_at_call 11; refine Hs.out.mono ?_; rintro e w2 ⟨rfl, hb2⟩; refine Hid.out ?_))
      refine Lib.hid ?_
      have HB2 := Lib.hid (HB.out.trans (hb2.mono HB.out.size))
      clear hb2
      go_wp2
      go_ret
      exact ⟨ret_bool HE.out.symm, HB2.out⟩
theorem shape_act {w : World} {S : Nat → Prop} {x : List Value} {a : Ac} (h : RAct w S x a) : Shape_A x := by
  obtain ⟨A, n, c, rfl, _⟩ := h
  exact ⟨_, _, _, _, _, _, rfl⟩
set_option maxRecDepth 100000 in
set_option maxHeartbeats 3200000 in
theorem rsameActs_any (S : Nat → Prop) (A B : Option Addr) (n c m d : Nat) (xs ys : List Ac) (w : World) (hK : RSeq 4 (RAct w S) w S A n xs) (hL : RSeq 4 (RAct w S) w S B m ys) (hS : ∀ k, S k → k < w.heap.size) (hn : n ≤ maxLen) (hm : m ≤ maxLen) :
    Calls Tryz.prog 27 #[.slice A n c, .slice B m d] w fun e w' => e = .returned (.bool (eqL actB xs ys)) ∧ Below w.heap.size w w' := by
  have hq := equalF_A (RAct w S) actB A B n c m d xs ys 58 w S hK hL hS hn hm
    ⟨fun args W => by kernel_rfl, fun x y cx cy W hb h1 h2 => sameAc_any S w x y cx cy h1 h2 hS W hb⟩ (fun x y h => shape_act h)
  have Hq := Lib.hid hq
  clear hK hL hS hq
  go_enter Tryz.func27, Tryz.ntmps27
  go_wp2_with (first | (go_at_call 57; refine Hq.out.mono ?_; rintro e w2 ⟨rfl, hb2⟩; refine Hid.out ?_))
  refine Lib.hid ?_
  have HB2 := Lib.hid hb2
  clear hb2
  go_wp2
  go_ret
  exact ⟨rfl, HB2.out⟩
end Go.Proofs.YtpipgffbhpnmkaaGreatDoor

/- A block that is known whole, read as elements of K cells. -/
namespace Go.Proofs.YtpipgffbhpnmkaaGreatDoor
open Go.RowKit Qm

theorem flat_lenG {K : Nat} : ∀ {cs : List (List Value)}, (∀ x ∈ cs, x.length = K) → cs.flatten.length = cs.length * K
  | [], _ => by simp
  | c :: r, h => by
    have := flat_lenG (K := K) (cs := r) fun x hx => h x (List.mem_cons_of_mem _ hx)
    have h0 := h c (List.mem_cons_self ..)
    rw [List.flatten_cons, List.length_append, this, h0, List.length_cons, Nat.succ_mul]; omega
/-- A block that is known whole, read as elements. -/
theorem RSeq.whole {α : Type} {K : Nat} {R : List Value → α → Prop} {w : World} {S : Nat → Prop} {b n : Nat} {t : TypeId} (cs : List (List Value)) (ys : List α) (h : Whole w b t cs.flatten) (hl : ys.length = n) (hn : cs.length = n) (hK : ∀ x ∈ cs, x.length = K)
    (hR : ∀ (j : Nat) (x : List Value) (y : α), cs[j]? = some x → ys[j]? = some y → R x y) (hb : S b) : RSeq K R w S (some ⟨b, 0, none⟩) n ys :=
  ⟨cs, hl, hn, h.row hb (by rw [flat_lenG hK, hn]), hK, hR⟩
end Go.Proofs.YtpipgffbhpnmkaaGreatDoor

/- quartermasterlaw.small, walked: a tree of four. -/
namespace Go.Proofs.YtpipgffbhpnmkaaGreatDoor
open Go.RowKit Qm

def smallB : Qm.W := [97, 32, 49, 32, 49, 32, 32, 40, 32, 98, 32, 41, 10, 97, 32, 50, 32, 49, 32, 120, 32, 40, 32, 120, 63, 32, 40, 32, 98, 32, 41, 32, 41, 10, 98, 32, 49, 32, 49, 32, 32, 40, 32, 33, 99, 32, 41, 10, 99, 32, 49, 32, 49, 32, 32, 40, 32, 41, 10]
def leafW (k : Int) (c : UInt8) : Nd := .mk k ⟨[c], 0, 0, 0, [], false⟩ [] false []
def pkS (c : UInt8) (v : Int) (fs : List Qm.W) (ks : List Nd) : Pk := ⟨[c], v, 1, fs, .mk 3 At.zero [] false ks⟩
def smallT : List Pk := [pkS 97 1 [] [leafW 1 98], pkS 97 2 [[120]] [.mk 5 At.zero [120] false [leafW 1 98]], pkS 98 1 [] [leafW 2 99], pkS 99 1 [] []]
theorem parse_S : parseTree smallB = (smallT, 0, 0) := by kernel_rfl
def SmallPost (w : World) (e : Ending) (w' : World) : Prop :=
  ∃ A c, e = .returned (.tuple #[.agg #[.slice A 4 c], .bool true]) ∧ RTree w' (fun i => w.heap.size ≤ i ∧ i < w'.heap.size) A 4 smallT ∧ 4 ≤ c ∧ c ≤ maxLen ∧ Below w.heap.size w w'
set_option maxRecDepth 100000 in
set_option maxHeartbeats 3200000 in
theorem small_any (w : World) (hL : LaidV w) (hM : MaxW w) :
    Calls Tryz.prog 39 #[] w (SmallPost w) := by
  have hal : Below w.heap.size w (w.alloc (.cells #[.slice none 0 0] 24)) := (Below.refl _ w).alloc (Nat.le_refl _) _
  have hpa := (tparse_any smallB (w.alloc (.cells #[.slice none 0 0] 24)) (by decide) (hL.below hal) (hM.below hal)).mono fun e w' h => h.lit parse_S
  rw [show smallT.length = 4 from rfl] at hpa
  unfold smallB at hpa
  have Hpa := Lib.hid hpa
  have HA := Lib.hid hal
  have HZ := Lib.hid (Whole.new w w.heap.size 24 [.slice none 0 0] rfl)
  clear hpa hal hL hM
  go_enter Tryz.func39, Tryz.ntmps39
  go_wp2_with (first | (go_at_call 66; refine Hpa.out.mono ?_; rintro e w2 ⟨A, c, rfl, hT, hc1, hc2, hb2⟩; refine Hid.out ?_))
  refine Lib.hid ?_
  have hbx : Below w2.heap.size w2 (w2.alloc (.cells #[.slice A 4 c] 24)) := (Below.refl _ _).alloc (Nat.le_refl _) _
  have HW3 := Lib.hid (Whole.new w2 _ 24 [.slice A 4 c] rfl)
  have HZ3 := Lib.hid ((HZ.out.below hb2 HZ.out.lt).below hbx (HZ.out.below hb2 HZ.out.lt).lt)
  have HT3 := Lib.hid ((hT.under hbx fun k hk => hk.2).more (S' := fun i => w.heap.size < i ∧ i < w2.heap.size) fun i hi => ⟨Nat.lt_of_lt_of_le HZ.out.lt hi.1, hi.2⟩)
  have HB3 := Lib.hid (HA.out.trans ((hb2.trans (hbx.mono hb2.size)).mono HA.out.size))
  have hlt3 : w.heap.size < w2.heap.size := Nat.lt_of_lt_of_le HZ.out.lt hb2.size
  clear hb2 hbx hT HZ
  go_wp2
  generalize World.alloc w2 _ = w3 at *
  have t0 := HW3.out.cell 0
  have z0 := HZ3.out.cell 0
  have zf := HZ3.out.free 0
  simp only [List.getElem?_cons_zero] at t0 z0
  have zlt := HZ3.out.lt
  have tlt := HW3.out.lt
  have s0 : (w3.setCell ⟨w.heap.size, 0, none⟩ (.slice A 4 c)).drew.cell? ⟨w2.heap.size, 0, none⟩ = some (.slice A 4 c) := (HW3.out.far (p := ⟨w.heap.size, 0, none⟩) (by show w2.heap.size ≠ w.heap.size; omega) (.slice A 4 c)).cell 0
  go_region_held3 (fun w' => w'.cell? ⟨w2.heap.size, 0, none⟩ = some (.slice A 4 c))
    (first | go_keep | exact s0) (fail)
  have hW := (HZ3.out.set_ 0 (.slice A 4 c)).drew
  simp only [List.set_cons_zero] at hW
  have hf : Far (fun i => i = w.heap.size) w3 (w3.setCell ⟨w.heap.size, 0, none⟩ (.slice A 4 c)).drew := (Far.set_ (D := fun i => i = w.heap.size) rfl 0 (.slice A 4 c)).drew
  have hT : RTree (w3.setCell ⟨w.heap.size, 0, none⟩ (.slice A 4 c)).drew (fun i => w.heap.size ≤ i ∧ i < (w3.setCell ⟨w.heap.size, 0, none⟩ (.slice A 4 c)).drew.heap.size) A 4 smallT :=
    (HT3.out.keep fun q hq => hf.cell (by have := hq.2; omega) (by have := hq.1; omega)).more fun i hi => ⟨by omega, by have := hf.size; omega⟩
  have hB : Below w.heap.size w (w3.setCell ⟨w.heap.size, 0, none⟩ (.slice A 4 c)).drew := Below.drew (HB3.out.setCell (p := ⟨w.heap.size, 0, none⟩) (Nat.le_refl _) _)
  clear s0 t0 z0 zf zlt tlt
  generalize World.drew _ = wf at hW hT hB ⊢
  go_wp2
  have e0 := hW.cell 0
  simp only [List.getElem?_cons_zero] at e0
  refine bodyPost_ret (v := .tuple #[.agg #[_], .bool true]) (by simp [results, Tryz.results39, go_sem, e0]; exact rfl) rfl ?_
  exact ⟨A, c, rfl, hT, hc1, hc2, hB⟩
end Go.Proofs.YtpipgffbhpnmkaaGreatDoor

/- quartermasterlaw.ordered, walked: it returns true. -/
namespace Go.Proofs.YtpipgffbhpnmkaaGreatDoor
open Go.RowKit Qm

def o3 : List Mem := [⟨3, []⟩]
def o02 : List Mem := [⟨0, []⟩, ⟨2, []⟩]
def oR : List Ac := [⟨true, ⟨3, []⟩, 0⟩, ⟨false, ⟨2, []⟩, 0⟩, ⟨false, ⟨0, []⟩, 0⟩]
theorem plan_E : planE smallT o3 o02 = 0 := by decide +kernel
theorem plan_L : planR smallT o3 o02 = oR := by kernel_rfl
theorem same_R : eqL actB oR oR = true := (eqL_iff actB_iff).2 rfl
/-- The acts that a plan hands back, as a slice of them. -/
theorem Gs.seq {B : Nat} {v : Value} {cs : List (List Value)} {acts : List Ac} {w : World} (h : Gs B v cs acts w) : ∃ (A : Option Addr) (c : Nat), v = .slice A acts.length c ∧ acts.length ≤ c ∧ c ≤ maxLen ∧ RSeq 4 (RAct w (fun k => B ≤ k ∧ k < w.heap.size)) w (fun k => B ≤ k ∧ k < w.heap.size) A acts.length acts := by
  obtain ⟨A, c, rfl, h1, h2, hr⟩ := own_formK h.own
  exact ⟨A, c, rfl, h1, h2, cs, rfl, h.len, Row.more hr (fun k hk => h.own.lt k hk), h.four, fun j x a g1 g2 => (h.row j x a g1 g2).more fun k hk => ⟨hk.1, hk.2.1⟩⟩
theorem set_o3 {wx : World} {b2 : Nat} {t2 : TypeId} (h2 : Whole wx b2 t2 [.int .i64 3, .slice none 0 0]) : RSet wx (fun i => i < wx.heap.size) (some ⟨b2, 0, none⟩) 1 o3 :=
  RSeq.whole (α := Mem) (K := 2) (R := RMem wx (fun i => i < wx.heap.size)) (n := 1) [[.int .i64 3, .slice none 0 0]] o3 h2 rfl rfl (fun x hx => by simp at hx; subst hx; rfl) (fun j u y g1 g2 => by
      match j with
      | 0 => simp [o3] at g1 g2; subst g1 g2; exact ⟨_, _, _, rfl, by decide, by decide, Row.nil_⟩
      | j + 1 => simp at g1) h2.lt
theorem set_o02 {wx : World} {b2 : Nat} {t2 : TypeId} (h2 : Whole wx b2 t2 [.int .i64 0, .slice none 0 0, .int .i64 2, .slice none 0 0]) : RSet wx (fun i => i < wx.heap.size) (some ⟨b2, 0, none⟩) 2 o02 :=
  RSeq.whole (α := Mem) (K := 2) (R := RMem wx (fun i => i < wx.heap.size)) (n := 2) [[.int .i64 0, .slice none 0 0], [.int .i64 2, .slice none 0 0]] o02 h2 rfl rfl (fun x hx => by simp at hx; rcases hx with rfl | rfl <;> rfl) (fun j u y g1 g2 => by
      match j with
      | 0 => simp [o02] at g1 g2; subst g1 g2; exact ⟨_, _, _, rfl, by decide, by decide, Row.nil_⟩
      | 1 => simp [o02] at g1 g2; subst g1 g2; exact ⟨_, _, _, rfl, by decide, by decide, Row.nil_⟩
      | j + 2 => simp at g1) h2.lt
theorem acts_oR {wx : World} {b2 : Nat} {t2 : TypeId} (h2 : Whole wx b2 t2 [.bool true, .int .i64 3, .slice none 0 0, .int .i64 0, .bool false, .int .i64 2, .slice none 0 0, .int .i64 0, .bool false, .int .i64 0, .slice none 0 0, .int .i64 0]) : RSeq 4 (RAct wx (fun i => i < wx.heap.size)) wx (fun i => i < wx.heap.size) (some ⟨b2, 0, none⟩) 3 oR :=
  RSeq.whole (α := Ac) (K := 4) (R := RAct wx (fun i => i < wx.heap.size)) (n := 3) [[.bool true, .int .i64 3, .slice none 0 0, .int .i64 0], [.bool false, .int .i64 2, .slice none 0 0, .int .i64 0], [.bool false, .int .i64 0, .slice none 0 0, .int .i64 0]] oR h2 rfl rfl (fun x hx => by simp at hx; rcases hx with rfl | rfl | rfl <;> rfl) (fun j u y g1 g2 => by
      match j with
      | 0 => simp [oR] at g1 g2; subst g1 g2; exact ⟨_, _, _, rfl, by decide, by decide, Row.nil_⟩
      | 1 => simp [oR] at g1 g2; subst g1 g2; exact ⟨_, _, _, rfl, by decide, by decide, Row.nil_⟩
      | 2 => simp [oR] at g1 g2; subst g1 g2; exact ⟨_, _, _, rfl, by decide, by decide, Row.nil_⟩
      | j + 3 => simp at g1) h2.lt
set_option maxRecDepth 100000 in
set_option maxHeartbeats 3200000 in
theorem ordered_any (w : World) (hL : LaidV w) (hM : MaxW w) :
    Calls Tryz.prog 9 #[] w fun e w' => e = .returned (.bool true) ∧ Below w.heap.size w w' := by
  have Hsm := Lib.hid (small_any w hL hM)
  unfold SmallPost at Hsm
  clear hL hM
  go_enter Tryz.func9, Tryz.ntmps9
  go_upto_region 2 with (first | (go_at_call 39; refine Hsm.out.mono ?_; rintro e w1 ⟨A, c, rfl, hT, hc1, hc2, hb1⟩; refine Hid.out ?_))
  refine Lib.hid ?_
  go_upto_region 2 with fail
  have h1 := Whole.new w1 w1.heap.size 24 [.slice A 4 c] rfl
  have h2 := Whole.new (w1.alloc (.cells #[.slice A 4 c] 24)) (w1.heap.size + 1) 33 [.int .i64 3, .slice none 0 0] (by simp)
  have h3 := Whole.new ((w1.alloc (.cells #[.slice A 4 c] 24)).alloc (.cells #[.int .i64 3, .slice none 0 0] 33)) (w1.heap.size + 1 + 1) 33 [.int .i64 0, .slice none 0 0, .int .i64 2, .slice none 0 0] (by simp)
  have hbl : Below w1.heap.size w1 (((w1.alloc (.cells #[.slice A 4 c] 24)).alloc (.cells #[.int .i64 3, .slice none 0 0] 33)).alloc (.cells #[.int .i64 0, .slice none 0 0, .int .i64 2, .slice none 0 0] 33)) := (((Below.refl _ _).alloc (Nat.le_refl _) _).alloc (by simp) _).alloc (by simp; omega) _
  have hT4 := (hT.under hbl fun k hk => hk.2).more fun k hk => (Nat.lt_of_lt_of_le hk.2 hbl.size)
  have hpl := oplan_any smallT o3 o02 (fun k => k < (((w1.alloc (.cells #[.slice A 4 c] 24)).alloc (.cells #[.int .i64 3, .slice none 0 0] 33)).alloc (.cells #[.int .i64 0, .slice none 0 0, .int .i64 2, .slice none 0 0] 33)).heap.size) A (some ⟨w1.heap.size + 1, 0, none⟩) (some ⟨w1.heap.size + 1 + 1, 0, none⟩) 4 c 1 1 2 2 _ hT4 hc1 hc2 (set_o3 (h2.alloc _)) (Nat.le_refl _) (by decide) (set_o02 h3) (Nat.le_refl _) (by decide) (fun k hk => hk)
  unfold PlanPost at hpl
  rw [plan_E, plan_L] at hpl
  have HPL := Lib.hid hpl
  have HB4 := Lib.hid (hb1.trans (hbl.mono hb1.size))
  have t0 := h1.cell 0
  simp only [List.getElem?_cons_zero] at t0
  have tlt := h1.lt
  clear hpl hT4 hbl h2 h3 hT hb1
  go_upto_region 3 with (first | (go_at_call 8; refine HPL.out.mono ?_; rintro e w5 ⟨v5, cs5, B5, rfl, hB5, hG5, hb5⟩; refine Hid.out ?_))
  refine Lib.hid ?_
  obtain ⟨A5, c5, rfl, hn5, hc5, hs5⟩ := hG5.seq
  have HB5 := Lib.hid (HB4.out.trans (hb5.mono HB4.out.size))
  have HS5 := Lib.hid hs5
  clear hG5 hb5 hs5 hB5 HPL t0 tlt HB4
  rw [show oR.length = 3 from rfl] at HS5 hn5 ⊢
  have hal : Below w5.heap.size w5 (w5.alloc (.cells #[.bool true, .int .i64 3, .slice none 0 0, .int .i64 0, .bool false, .int .i64 2, .slice none 0 0, .int .i64 0, .bool false, .int .i64 0, .slice none 0 0, .int .i64 0] 48)) := (Below.refl _ w5).alloc (Nat.le_refl _) _
  have h6 := Whole.new w5 w5.heap.size 48 [.bool true, .int .i64 3, .slice none 0 0, .int .i64 0, .bool false, .int .i64 2, .slice none 0 0, .int .i64 0, .bool false, .int .i64 0, .slice none 0 0, .int .i64 0] rfl
  have hsa := rsameActs_any (fun k => k < (w5.alloc (.cells #[.bool true, .int .i64 3, .slice none 0 0, .int .i64 0, .bool false, .int .i64 2, .slice none 0 0, .int .i64 0, .bool false, .int .i64 0, .slice none 0 0, .int .i64 0] 48)).heap.size) A5 (some ⟨w5.heap.size, 0, none⟩) 3 c5 3 3 oR oR _
    (RSeq.more (S := fun k => B5 ≤ k ∧ k < w5.heap.size) (fun k hk => Nat.lt_of_lt_of_le hk.2 hal.size) (RSeq.keep HS5.out (fun p hp => hal.cell hp.2) fun x y h => h) fun x y h => (h.keep fun p hp => hal.cell hp.2).more fun k hk => Nat.lt_of_lt_of_le hk.2 hal.size)
    (acts_oR h6) (fun k hk => hk) (by decide) (by decide)
  rw [same_R] at hsa
  have Hsa := Lib.hid hsa
  have HB6 := Lib.hid (HB5.out.trans (hal.mono HB5.out.size))
  clear hsa hal h6 HS5 HB5
  go_wp2_with (first | (go_at_call 27; refine Hsa.out.mono ?_; rintro e w7 ⟨rfl, hb7⟩; refine Hid.out ?_))
  refine Lib.hid ?_
  have HB7 := Lib.hid (HB6.out.trans (hb7.mono HB6.out.size))
  clear hb7
  go_wp2
  go_ret
  exact ⟨rfl, HB7.out⟩
end Go.Proofs.YtpipgffbhpnmkaaGreatDoor

/- What a plan is where nothing is there, nothing is wanted, or all is there already. No program in sight. -/
namespace Go.Proofs.YtpipgffbhpnmkaaGreatDoor
open Qm

end Go.Proofs.YtpipgffbhpnmkaaGreatDoor

/- OrderNone, walked: it returns true. -/
namespace Go.Proofs.YtpipgffbhpnmkaaGreatDoor
open Go.RowKit Qm

/-- In the round: the acts' world below, the member's box. -/
structure On (w6 : World) (mb : Nat) (mv : List Value) (wx : World) : Prop where
  b : Below w6.heap.size w6 wx
  m : Whole wx mb 33 mv
theorem On.move {w6 : World} {mb : Nat} {mv : List Value} {wx wy : World} (h : On w6 mb mv wx) (hb : Below wx.heap.size wx wy) : On w6 mb mv wy := ⟨h.b.trans (hb.mono h.b.size), h.m.below hb h.m.lt⟩
end Go.Proofs.YtpipgffbhpnmkaaGreatDoor

/- What comes first in a plan. No program in sight. -/
namespace Go.Proofs.YtpipgffbhpnmkaaGreatDoor
open Qm

/-- What OrderFirst looks at: two that lean on each other, the later first; and rings. -/
structure FirstOk (ps : List Pk) (there l : List Mem) (ks : List Nat) (f : Nat → Nat) : Prop where
  eq : planN ps there l = ks.map (fun k => (k, f k))
  nd : ks.Nodup
  mem : ∀ k, k ∈ ks ↔ k < l.length ∧ oldB there l k = false
  ahead : ∀ (i j a b : Nat), ks[i]? = some a → ks[j]? = some b → i < j → leanB ps l a b = true → f b = f a ∧ f a ≠ 0
  two : ∀ a ∈ ks, f a ≠ 0 → ∃ b ∈ ks, b ≠ a ∧ f b = f a
/-- What the first loop has gathered of the acts: where each package is put in, its cycle, each cycle's size. -/
structure Seen (az : List Ac) (k : Nat) (at_ cy sz : Int → Option Int) : Prop where
  a1 : ∀ x y, at_ x = some y → ∃ (j : Nat) (a : Ac), j < k ∧ az[j]? = some a ∧ a.out = false ∧ a.m.pl = x ∧ y = j
  a2 : ∀ (j : Nat) (a : Ac), j < k → az[j]? = some a → a.out = false → at_ a.m.pl = some (j : Int) ∧ cy a.m.pl = some a.cyc
  c1 : ∀ x, at_ x = none → cy x = none
  z1 : ∀ c, sz c = none ∨ 0 < c
  z3 : ∀ c n, sz c = some n → 1 ≤ n
  z2 : ∀ c, 0 < c → (sz c).getD 0 = (((az.take k).filter fun a => !a.out && a.cyc == c).length : Int)
theorem Seen.zero {az : List Ac} : Seen az 0 (fun _ => none) (fun _ => none) (fun _ => none) :=
  ⟨fun _ _ h => (by cases h), fun _ _ h => (by omega), fun _ _ => rfl, fun _ => .inl rfl, fun _ _ h => (by cases h), fun c _ => (by simp)⟩
theorem Seen.skip {az : List Ac} {k : Nat} {at_ cy sz : Int → Option Int} {a : Ac} (h : Seen az k at_ cy sz) (ha : az[k]? = some a) (ho : a.out = true) : Seen az (k + 1) at_ cy sz := by
  refine ⟨fun x y hxy => ?_, fun j b hj hb hbo => ?_, h.c1, h.z1, h.z3, fun c hc => ?_⟩
  · obtain ⟨j, b, hj, r⟩ := h.a1 x y hxy
    exact ⟨j, b, by omega, r⟩
  · by_cases e : j = k
    · subst e; rw [ha] at hb; injection hb with hb; subst hb; rw [ho] at hbo; cases hbo
    · exact h.a2 j b (by omega) hb hbo
  · obtain ⟨hk, rfl⟩ := List.getElem?_eq_some_iff.1 ha
    rw [h.z2 c hc, List.take_succ_eq_append_getElem hk, List.filter_append]
    simp [ho]
/-- An act that puts in: its package is new to the maps. -/
theorem Seen.put {az : List Ac} {k : Nat} {at_ cy sz sz' : Int → Option Int} {a : Ac} (h : Seen az k at_ cy sz) (ha : az[k]? = some a) (ho : a.out = false) (hnew : at_ a.m.pl = none)
    (hs : sz' = if 0 < a.cyc then fun c => if c = a.cyc then some ((sz a.cyc).getD 0 + 1) else sz c else sz) : Seen az (k + 1) (fun x => if x = a.m.pl then some (k : Int) else at_ x) (fun x => if x = a.m.pl then some a.cyc else cy x) sz' := by
  refine ⟨fun x y hxy => ?_, fun j b hj hb hbo => ?_, fun x hx => ?_, fun c => ?_, fun c n hn => ?_, fun c hc => ?_⟩
  · (try dsimp only at hxy)
    by_cases e : x = a.m.pl
    · rw [if_pos e] at hxy
      injection hxy with hxy
      exact ⟨k, a, by omega, ha, ho, e.symm, hxy.symm⟩
    · rw [if_neg e] at hxy
      obtain ⟨j, b, hj, r⟩ := h.a1 x y hxy
      exact ⟨j, b, by omega, r⟩
  · (try dsimp only)
    by_cases e : j = k
    · subst e; rw [ha] at hb; injection hb with hb; subst hb; rw [if_pos rfl, if_pos rfl]; exact ⟨rfl, rfl⟩
    · have h2 := h.a2 j b (by omega) hb hbo
      have hne : b.m.pl ≠ a.m.pl := fun e2 => by rw [e2, hnew] at h2; cases h2.1
      rw [if_neg hne, if_neg hne]; exact h2
  · (try dsimp only at hx ⊢)
    by_cases e : x = a.m.pl
    · rw [if_pos e] at hx; cases hx
    · rw [if_neg e] at hx ⊢; exact h.c1 x hx
  · rw [hs]
    by_cases hp : 0 < a.cyc
    · rw [if_pos hp]
      (try dsimp only)
      by_cases e : c = a.cyc
      · right; omega
      · rw [if_neg e]; exact h.z1 c
    · rw [if_neg hp]; exact h.z1 c
  · rw [hs] at hn
    by_cases hp : 0 < a.cyc
    · rw [if_pos hp] at hn
      (try dsimp only at hn)
      by_cases e : c = a.cyc
      · rw [if_pos e] at hn
        injection hn with hn
        have := h.z2 a.cyc hp
        omega
      · rw [if_neg e] at hn; exact h.z3 c n hn
    · rw [if_neg hp] at hn; exact h.z3 c n hn
  · obtain ⟨hk, rfl⟩ := List.getElem?_eq_some_iff.1 ha
    rw [List.take_succ_eq_append_getElem hk, List.filter_append, List.length_append, hs]
    have hz := h.z2 c hc
    by_cases e : c = az[k].cyc
    · subst e
      rw [if_pos hc]
      simp [ho, hz]
    · have hne : (az[k].cyc == c) = false := by rw [beq_eq_false_iff_ne]; exact fun e2 => e e2.symm
      have hf : [az[k]].filter (fun a => !a.out && a.cyc == c) = [] := by simp [ho, hne]
      rw [hf]
      by_cases hp : 0 < az[k].cyc
      · rw [if_pos hp]; (try dsimp only); rw [if_neg e, hz]; simp
      · rw [if_neg hp, hz]; simp
theorem pl_inj {l : List Mem} (h : (l.map Mem.pl).Pairwise (· < ·)) {i k : Nat} (hi : i < l.length) (hk : k < l.length) (he : (memAt l i).pl = (memAt l k).pl) : i = k := by
  have hm : ∀ j, j < l.length → memAt l j = l.getD j ⟨0, []⟩ := fun _ _ => rfl
  rw [hm i hi, hm k hk, List.getD_eq_getElem?_getD, List.getD_eq_getElem?_getD, List.getElem?_eq_getElem hi, List.getElem?_eq_getElem hk] at he
  simp only [Option.getD_some] at he
  have hp := List.pairwise_iff_getElem.1 h
  rcases Nat.lt_trichotomy i k with hlt | heq | hgt
  · have := hp i k (by simpa using hi) (by simpa using hk) hlt; simp at this; omega
  · exact heq
  · have := hp k i (by simpa using hk) (by simpa using hi) hgt; simp at this; omega
/-- An act of a plan that puts in: which, and where. -/
theorem FirstOk.act {ps : List Pk} {there l : List Mem} {ks : List Nat} {f : Nat → Nat} (h : FirstOk ps there l ks f) {j : Nat} {a : Ac} (ha : (planL ps there l)[j]? = some a) (ho : a.out = false) :
    ∃ k, (goneL ps there l).length ≤ j ∧ ks[j - (goneL ps there l).length]? = some k ∧ a = ⟨false, memAt l k, (f k : Int)⟩ := by
  unfold planL at ha
  rw [h.eq] at ha
  by_cases hj : j < (goneL ps there l).length
  · rw [List.getElem?_append_left (by simpa using hj), List.getElem?_map] at ha
    cases hg : (goneL ps there l)[j]? with
    | none => rw [hg] at ha; cases ha
    | some m => rw [hg] at ha; injection ha with ha; subst ha; cases ho
  · rw [List.getElem?_append_right (by simpa using hj), List.length_map, List.getElem?_map, List.getElem?_map] at ha
    cases hk : ks[j - (goneL ps there l).length]? with
    | none => rw [hk] at ha; cases ha
    | some k => rw [hk] at ha; injection ha with ha; exact ⟨k, by omega, rfl, ha.symm⟩
theorem two_le {α : Type} {p : α → Bool} {xs : List α} {i j : Nat} {a b : α} (hi : xs[i]? = some a) (hj : xs[j]? = some b) (hij : i ≠ j) (ha : p a = true) (hb : p b = true) : 2 ≤ (xs.filter p).length := by
  have key : ∀ {xs : List α} {i j : Nat} {a b : α}, xs[i]? = some a → xs[j]? = some b → i < j → p a = true → p b = true → 2 ≤ (xs.filter p).length := by
    intro xs i j a b hi hj hij ha hb
    have h1 : xs = xs.take j ++ xs.drop j := (List.take_append_drop j xs).symm
    rw [h1, List.filter_append, List.length_append]
    have m1 : a ∈ (xs.take j).filter p := List.mem_filter.2 ⟨List.mem_of_getElem? (i := i) (by rw [List.getElem?_take_of_lt hij]; exact hi), ha⟩
    have m2 : b ∈ (xs.drop j).filter p := List.mem_filter.2 ⟨List.mem_of_getElem? (i := 0) (by rw [List.getElem?_drop]; exact hj), hb⟩
    have := List.length_pos_of_mem m1
    have := List.length_pos_of_mem m2
    omega
  rcases Nat.lt_or_gt_of_ne hij with h | h
  · exact key hi hj h ha hb
  · exact key hj hi h hb ha
/-- Every ring that is numbered has two that are put in. -/
theorem Seen.rings {ps : List Pk} {there l : List Mem} {ks : List Nat} {f : Nat → Nat} (h : FirstOk ps there l ks f) {at_ cy sz : Int → Option Int} (S : Seen (planL ps there l) (planL ps there l).length at_ cy sz) {c n : Int} (hc : sz c = some n) : 2 ≤ n := by
  have hpos : 0 < c := (S.z1 c).resolve_left (by rw [hc]; simp)
  have h1 := S.z3 c n hc
  have h2 := S.z2 c hpos
  rw [hc, List.take_length, Option.getD_some] at h2
  obtain ⟨a, ha⟩ : ∃ a, a ∈ (planL ps there l).filter fun a => !a.out && a.cyc == c := List.exists_mem_of_length_pos (by omega)
  obtain ⟨ha, hq⟩ := List.mem_filter.1 ha
  simp only [Bool.and_eq_true, Bool.not_eq_true', beq_iff_eq] at hq
  obtain ⟨j, hj⟩ := List.getElem?_of_mem ha
  obtain ⟨k, hg, hk, rfl⟩ := h.act hj hq.1
  obtain ⟨b, hb, hne, hf⟩ := h.two k (List.mem_of_getElem? hk) (by have := hq.2; dsimp only at this; omega)
  obtain ⟨j2, hj2⟩ := List.getElem?_of_mem hb
  have hj2' : (planL ps there l)[(goneL ps there l).length + j2]? = some ⟨false, memAt l b, (f b : Int)⟩ := by
    unfold planL
    rw [h.eq, List.getElem?_append_right (by simp), List.length_map, Nat.add_sub_cancel_left, List.getElem?_map, List.getElem?_map, hj2]; rfl
  have := two_le (p := fun a : Ac => !a.out && a.cyc == c) hj hj2' (fun e => by
    have : j - (goneL ps there l).length = j2 := by omega
    rw [this, hj2] at hk; injection hk with hk; exact hne hk) (by have := hq.2; dsimp only at this; simp [this]) (by have := hq.2; dsimp only at this; simp [hf, this])
  omega
/-- What is put in is new to the maps. -/
theorem Seen.fresh {ps : List Pk} {there l : List Mem} {ks : List Nat} {f : Nat → Nat} (h : FirstOk ps there l ks f) (hp : (l.map Mem.pl).Pairwise (· < ·)) {k : Nat} {at_ cy sz : Int → Option Int} (S : Seen (planL ps there l) k at_ cy sz) {a : Ac} (ha : (planL ps there l)[k]? = some a) (ho : a.out = false) : at_ a.m.pl = none := by
  cases hat : at_ a.m.pl with
  | none => rfl
  | some y =>
    obtain ⟨j, b, hj, hb, hbo, hpl, _⟩ := S.a1 _ _ hat
    obtain ⟨i1, hg1, hi1, rfl⟩ := h.act ha ho
    obtain ⟨i2, hg2, hi2, rfl⟩ := h.act hb hbo
    have h1 := ((h.mem i1).1 (List.mem_of_getElem? hi1)).1
    have h2 := ((h.mem i2).1 (List.mem_of_getElem? hi2)).1
    obtain rfl := pl_inj hp h2 h1 hpl
    have := (List.getElem?_inj (List.getElem?_eq_some_iff.1 hi1).1 h.nd).1 (hi1.trans hi2.symm)
    omega
theorem planGo_small {r : Nat → Nat → Bool} {n : Nat} {old : Nat → Bool} : ∀ (g : Nat) (s : PSt), (∀ a, s.num a ≤ s.cyc) → ∀ p ∈ planGo r n old g s, p.2 ≤ s.cyc + g
  | 0, s, _, p, hp => by rw [planGo] at hp; cases hp
  | g + 1, s, h, p, hp => by
    rw [planGo] at hp
    cases hk : pickO r n s.done with
    | none => rw [hk] at hp; cases hp
    | some i =>
      rw [hk] at hp
      have h1 : (stepP r n old s i).cyc ≤ s.cyc + 1 ∧ ∀ a, (stepP r n old s i).num a ≤ (stepP r n old s i).cyc := by
        unfold stepP
        split
        · refine ⟨Nat.le_refl _, fun a => ?_⟩
          show (if ringB r i a = true then s.cyc + 1 else s.num a) ≤ s.cyc + 1
          split
          · exact Nat.le_refl _
          · exact Nat.le_succ_of_le (h a)
        · exact ⟨Nat.le_succ _, h⟩
      rcases List.mem_cons.1 hp with rfl | hp
      · have := h1.2 i
        show (stepP r n old s i).num i ≤ s.cyc + (g + 1)
        omega
      · have := planGo_small g _ h1.2 p hp
        omega
theorem FirstOk.small {ps : List Pk} {there l : List Mem} {ks : List Nat} {f : Nat → Nat} (h : FirstOk ps there l ks f) {k : Nat} (hk : k ∈ ks) : f k ≤ l.length + 1 := by
  have h1 : (k, f k) ∈ planN ps there l := by rw [h.eq]; exact List.mem_map.2 ⟨k, hk, rfl⟩
  have := planGo_small _ _ (fun a => Nat.le_refl 0) _ h1
  simpa using this
end Go.Proofs.YtpipgffbhpnmkaaGreatDoor
