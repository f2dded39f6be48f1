/- Parts of the proof: walks and plain laws, side by side. -/
import Derived.Test.YtpipgffbhpnmkaaGreatDoorM13
import Derived.Deep.LoopGhost
import Derived.Test.YtpipgffbhpnmkaaGreatDoorM9
import Derived.Test.YtpipgffbhpnmkaaGreatDoorM21
import Derived.Test.YtpipgffbhpnmkaaGreatDoorM28
import Derived.Test.YtpipgffbhpnmkaaGreatDoorM24
import Derived.Test.YtpipgffbhpnmkaaGreatDoorM25
import Derived.Test.YtpipgffbhpnmkaaGreatDoorRows
import Derived.Test.YtpipgffbhpnmkaaGreatDoorM3
import Derived.ProofKit
import Derived.LaidMore
import Derived.OpenShut
import Derived.Stop.Joined
import Derived.Stop.LaidErr
import Derived.Lib.LaidTab
import Derived.Test.YtpipgffbhpnmkaaGreatDoorM1
import Derived.ChangeOld
import Derived.Lib.SmallJoins
import Derived.Deep.Matrix
import Derived.Deep.Grids
import Derived.Test.YtpipgffbhpnmkaaGreatDoorM2
set_option linter.unusedVariables false
set_option linter.unusedSimpArgs false
set_option linter.unusedSectionVars false
namespace Go.Proofs.YtpipgffbhpnmkaaGreatDoor
/- slices.EqualFunc over lists of ints, as OrderSays asks it, walked. -/
section
open Go.RowKit
set_option maxRecDepth 100000 in
set_option maxHeartbeats 400000 in
theorem osays1_any (A A' : Option Addr) (n n' c c' : Nat) (xs ys : List Int) (w : World) (S : Nat → Prop) (hx : RInts w S A n xs) (hy : RInts w S A' n' ys) (hn : n ≤ maxLen) (hn' : n' ≤ maxLen) :
  Calls Tryz.prog 25 #[.slice A n c, .slice A' n' c'] w fun e w' => e = .returned (.bool (xs == ys)) ∧ ∃ nq, w' = w.drewN nq := by
 have Hcall := qh (equal_int A A' n n' c c' xs ys w S hx hy hn hn')
 generalize hv : (xs == ys) = v at Hcall
 have Hv := qh hv
 clear hv hx hy
 go_enter Tryz.func25, Tryz.ntmps25
 go_wp2_with fail
 refine Hcall.out.mono ?_
 rintro e w' ⟨rfl, q, rfl⟩
 go_wp2_with fail
 go_ret
 exact ⟨rfl, _, rfl⟩
set_option maxRecDepth 100000 in
set_option maxHeartbeats 1000000 in
theorem equalII_any (A A' : Option Addr) (n n' c c' : Nat) (xs ys : List (List Int)) (w : World) (S : Nat → Prop) (hx : RClauses w S A n xs) (hy : RClauses w S A' n' ys) (hn : n ≤ maxLen) (hn' : n' ≤ maxLen) :
  Calls Tryz.prog 23 #[.slice A n c, .slice A' n' c', .func (.func 25) #[] #[]] w fun e w' => e = .returned (.bool (xs == ys)) ∧ ∃ nq, w' = w.drewN nq := by
 unfold maxLen at hn hn'
 have hl := qh hx.len
 have hl' := qh hy.len
 have Hx := qh hx; have Hy := qh hy
 clear hx hy
 by_cases hne : n = n'
 ·subst hne
  have h0 : ((n : Int) != (n : Int)) = false := by simp
  go_enter Tryz.func23, Tryz.ntmps23
  go_wp2_with fail
  go_loopg [17] n (fun g i wr => ∃ (k d : Nat), Hid (k + g = n) ∧ i = .int .i64 k ∧ Hid (xs.take k = ys.take k) ∧ wr = w.drewN d)
  case atStart => exact ⟨0, 0, Nat.zero_add _, rfl, rfl, rfl⟩
  case round =>
   obtain ⟨k, d, Hk, rfl, Ht, rfl⟩ := hrel
   by_cases hlt : k < n
   ·obtain ⟨b, o, A1, n1, c1, rfl, hb, hc, hr1, hn1, hc1⟩ := Hx.out.at_ hlt
    obtain ⟨b', o', A2, n2, c2, rfl, hb', hc', hr2, hn2, hc2⟩ := Hy.out.at_ hlt
    generalize hu : xs.getD k [] = u at hr1
    generalize hv : ys.getD k [] = v at hr2
    have Hu := qh hu; have Hv := qh hv
    have Hcall := qh (osays1_any A1 A2 n1 n2 c1 c2 u v (w.drewN d) S (hr1.keep (fun _ _ => rfl)) (hr2.keep (fun _ _ => rfl)) (by omega) (by omega))
    have henter : ∀ (args : Array Value) (W : World), (callFunc 25 args).run Tryz.prog W = .ok (.enter 25 args) W := fun args W => by kernel_rfl
    clear hu hv hr1 hr2
    by_cases huv : u = v
    ·have hq : (u == v) = true := by simpa using huv
     rw [hq] at Hcall
     have Huv := qh huv; clear huv hq
     go_wp2_with fail
     refine Hcall.out.mono ?_
     rintro e w' ⟨rfl, q, rfl⟩
     go_wp2_with fail
     go_roundg (gk - 1)
     case measure => have := Hk.out; omega
     case rel => exact ⟨k + 1, d + q, by have := Hk.out; show _ = _; omega, by go_num, take_eq_succ [] (by rw [hl.out]; exact hlt) (by rw [hl'.out]; exact hlt) Ht.out (by rw [Hu.out, Hv.out, Huv.out]), by first | rfl | exact World.drewN_drewN _ _ _⟩
    ·have hq : (u == v) = false := by simpa using huv
     rw [hq] at Hcall
     have Huv := qh huv; clear huv hq
     go_wp2_with fail
     refine Hcall.out.mono ?_
     rintro e w' ⟨rfl, q, rfl⟩
     go_wp2_with fail
     go_ret
     exact ⟨ret_bool (by symm; rw [beq_eq_false_iff_ne]; exact ne_of_getD [] (by rw [Hu.out, Hv.out]; exact Huv.out)), d + q, by first | rfl | exact World.drewN_drewN _ _ _⟩
   ·have h1 : k = n := by have := Hk.out; omega
    subst h1
    go_wp2_with fail
    go_ret
    exact ⟨ret_bool (by symm; rw [beq_iff_eq]; exact eq_of_take_all hl.out hl'.out Ht.out), _, rfl⟩
 ·have h0 : ((n : Int) != (n' : Int)) = true := by rw [bne_iff_ne]; omega
  go_enter Tryz.func23, Tryz.ntmps23
  go_wp2_with fail
  go_ret
  exact ⟨ret_bool (by symm; rw [beq_eq_false_iff_ne]; intro e; exact hne (by rw [← hl.out, ← hl'.out, e])), 0, rfl⟩
end
/- A block that is known whole, read as elements of K cells. -/
section
open Go.RowKit Qm

theorem flat_lenG {K : Nat} : ∀ {cs : List (List Value)}, (∀ x ∈ cs, x.length = K) → cs.flatten.length = cs.length * K
 | [], _ => by simp
 | c :: r, h => by
  have := flat_lenG (K := K) (cs := r) fun x hx => h x (List.mem_cons_of_mem _ hx)
  have h0 := h c (List.mem_cons_self ..)
  rw [List.flatten_cons, List.length_append, this, h0, List.length_cons, Nat.succ_mul]; omega
theorem RSeq.whole {α : Type} {K : Nat} {R : List Value → α → Prop} {w : World} {S : Nat → Prop} {b n : Nat} {t : TypeId} (cs : List (List Value)) (ys : List α) (h : Whole w b t cs.flatten) (hl : ys.length = n) (hn : cs.length = n) (hK : ∀ x ∈ cs, x.length = K)
  (hR : ∀ (j : Nat) (x : List Value) (y : α), cs[j]? = some x → ys[j]? = some y → R x y) (hb : S b) : RSeq K R w S (some ⟨b, 0, none⟩) n ys :=
 ⟨cs, hl, hn, h.row hb (by rw [flat_lenG hK, hn]), hK, hR⟩
end
/- quartermasterlaw.small, walked: a tree of four. -/
section
open Go.RowKit Qm

def smallB : Qm.W := [97, 32, 49, 32, 49, 32, 32, 40, 32, 98, 32, 41, 10, 97, 32, 50, 32, 49, 32, 120, 32, 40, 32, 120, 63, 32, 40, 32, 98, 32, 41, 32, 41, 10, 98, 32, 49, 32, 49, 32, 32, 40, 32, 33, 99, 32, 41, 10, 99, 32, 49, 32, 49, 32, 32, 40, 32, 41, 10]
def leafW (k : Int) (c : UInt8) : Nd := .mk k ⟨[c], 0, 0, 0, [], false⟩ [] false []
def pkS (c : UInt8) (v : Int) (fs : List Qm.W) (ks : List Nd) : Pk := ⟨[c], v, 1, fs, .mk 3 At.zero [] false ks⟩
def smallT : List Pk := [pkS 97 1 [] [leafW 1 98], pkS 97 2 [[120]] [.mk 5 At.zero [120] false [leafW 1 98]], pkS 98 1 [] [leafW 2 99], pkS 99 1 [] []]
theorem parse_S : parseTree smallB = (smallT, 0, 0) := by kernel_rfl
def SmallPost (w : World) (e : Ending) (w' : World) : Prop :=
 ∃ A c, e = .returned (.tuple #[.agg #[.slice A 4 c], .bool true]) ∧ RTree w' (fun i => w.heap.size ≤ i ∧ i < w'.heap.size) A 4 smallT ∧ 4 ≤ c ∧ c ≤ maxLen ∧ Below w.heap.size w w'
set_option maxRecDepth 100000 in
set_option maxHeartbeats 3200000 in
theorem small_any (w : World) (hL : LaidV w) (hM : MaxW w) :
  Calls Tryz.prog 39 #[] w (SmallPost w) := by
 have hal : Below w.heap.size w (w.alloc (.cells #[.slice none 0 0] 24)) := (Below.refl _ w).alloc (qr _) _
 have hpa := (tparse_any smallB (w.alloc (.cells #[.slice none 0 0] 24)) (by decide) (hL.below hal) (hM.below hal)).mono fun e w' h => h.lit parse_S
 rw [show smallT.length = 4 from rfl] at hpa
 unfold smallB at hpa
 have Hpa := qh hpa
 have HA := qh hal
 have HZ := qh (Whole.new w w.heap.size 24 [.slice none 0 0] rfl)
 clear hpa hal hL hM
 go_enter Tryz.func39, Tryz.ntmps39
 go_wp2_with (first | (go_at_call 66; refine Hpa.out.mono ?_; rintro e w2 ⟨A, c, rfl, hT, hc1, hc2, hb2⟩; refine Hid.out ?_))
 refine qh ?_
 have hbx : Below w2.heap.size w2 (w2.alloc (.cells #[.slice A 4 c] 24)) := (Below.refl _ _).alloc (qr _) _
 have HW3 := qh (Whole.new w2 _ 24 [.slice A 4 c] rfl)
 have HZ3 := qh ((HZ.out.below hb2 HZ.out.lt).below hbx (HZ.out.below hb2 HZ.out.lt).lt)
 have HT3 := qh ((hT.under hbx fun k hk => hk.2).more (S' := fun i => w.heap.size < i ∧ i < w2.heap.size) fun i hi => ⟨ql HZ.out.lt hi.1, hi.2⟩)
 have HB3 := qh (HA.out.trans ((hb2.trans (hbx.mono hb2.size)).mono HA.out.size))
 have hlt3 : w.heap.size < w2.heap.size := ql HZ.out.lt hb2.size
 clear hb2 hbx hT HZ
 go_wp2
 generalize World.alloc w2 _ = w3 at *
 have t0 := HW3.out.cell 0
 have z0 := HZ3.out.cell 0
 have zf := HZ3.out.free 0
 simp only [List.getElem?_cons_zero] at t0 z0
 have zlt := HZ3.out.lt
 have tlt := HW3.out.lt
 have s0 : (w3.setCell ⟨w.heap.size, 0, none⟩ (.slice A 4 c)).drew.cell? ⟨w2.heap.size, 0, none⟩ = some (.slice A 4 c) := (HW3.out.far (p := ⟨w.heap.size, 0, none⟩) (by show w2.heap.size ≠ w.heap.size; omega) (.slice A 4 c)).cell 0
 go_region_held3 (fun w' => w'.cell? ⟨w2.heap.size, 0, none⟩ = some (.slice A 4 c))
  (first | go_keep | exact s0) (fail)
 have hW := (HZ3.out.set_ 0 (.slice A 4 c)).drew
 simp only [List.set_cons_zero] at hW
 have hf : Far (fun i => i = w.heap.size) w3 (w3.setCell ⟨w.heap.size, 0, none⟩ (.slice A 4 c)).drew := (Far.set_ (D := fun i => i = w.heap.size) rfl 0 (.slice A 4 c)).drew
 have hT : RTree (w3.setCell ⟨w.heap.size, 0, none⟩ (.slice A 4 c)).drew (fun i => w.heap.size ≤ i ∧ i < (w3.setCell ⟨w.heap.size, 0, none⟩ (.slice A 4 c)).drew.heap.size) A 4 smallT :=
  (HT3.out.keep fun q hq => hf.cell (by have := hq.2; omega) (by have := hq.1; omega)).more fun i hi => ⟨by omega, by have := hf.size; omega⟩
 have hB : Below w.heap.size w (w3.setCell ⟨w.heap.size, 0, none⟩ (.slice A 4 c)).drew := Below.drew (HB3.out.setCell (p := ⟨w.heap.size, 0, none⟩) (qr _) _)
 clear s0 t0 z0 zf zlt tlt
 generalize World.drew _ = wf at hW hT hB ⊢
 go_wp2
 have e0 := hW.cell 0
 simp only [List.getElem?_cons_zero] at e0
 refine bodyPost_ret (v := .tuple #[.agg #[_], .bool true]) (by simp [results, Tryz.results39, go_sem, e0]; exact rfl) rfl ?_
 exact ⟨A, c, rfl, hT, hc1, hc2, hB⟩
end
/- quartermasterlaw.ordered, walked: it returns true. -/
section
open Go.RowKit Qm

def o3 : List Mem := [⟨3, []⟩]
def o02 : List Mem := [⟨0, []⟩, ⟨2, []⟩]
def oR : List Ac := [⟨true, ⟨3, []⟩, 0⟩, ⟨false, ⟨2, []⟩, 0⟩, ⟨false, ⟨0, []⟩, 0⟩]
theorem plan_E : planE smallT o3 o02 = 0 := by decide +kernel
theorem plan_L : planR smallT o3 o02 = oR := by kernel_rfl
theorem same_R : eqL actB oR oR = true := (eqL_iff actB_iff).2 rfl
theorem Gs.seq {B : Nat} {v : Value} {cs : List (List Value)} {acts : List Ac} {w : World} (h : Gs B v cs acts w) : ∃ (A : Option Addr) (c : Nat), v = .slice A acts.length c ∧ acts.length ≤ c ∧ c ≤ maxLen ∧ RSeq 4 (RAct w (fun k => B ≤ k ∧ k < w.heap.size)) w (fun k => B ≤ k ∧ k < w.heap.size) A acts.length acts := by
 obtain ⟨A, c, rfl, h1, h2, hr⟩ := own_formK h.own
 exact ⟨A, c, rfl, h1, h2, cs, rfl, h.len, Row.more hr (fun k hk => h.own.lt k hk), h.four, fun j x a g1 g2 => (h.row j x a g1 g2).more fun k hk => ⟨hk.1, hk.2.1⟩⟩
theorem set_o3 {wx : World} {b2 : Nat} {t2 : TypeId} (h2 : Whole wx b2 t2 [.int .i64 3, .slice none 0 0]) : RSet wx (fun i => i < wx.heap.size) (some ⟨b2, 0, none⟩) 1 o3 :=
 RSeq.whole (α := Mem) (K := 2) (R := RMem wx (fun i => i < wx.heap.size)) (n := 1) [[.int .i64 3, .slice none 0 0]] o3 h2 rfl rfl (fun x hx => by simp at hx; subst hx; rfl) (fun j u y g1 g2 => by
   match j with
   | 0 => simp [o3] at g1 g2; subst g1 g2; exact ⟨_, _, _, rfl, by decide, by decide, Row.nil_⟩
   | j + 1 => simp at g1) h2.lt
theorem set_o02 {wx : World} {b2 : Nat} {t2 : TypeId} (h2 : Whole wx b2 t2 [.int .i64 0, .slice none 0 0, .int .i64 2, .slice none 0 0]) : RSet wx (fun i => i < wx.heap.size) (some ⟨b2, 0, none⟩) 2 o02 :=
 RSeq.whole (α := Mem) (K := 2) (R := RMem wx (fun i => i < wx.heap.size)) (n := 2) [[.int .i64 0, .slice none 0 0], [.int .i64 2, .slice none 0 0]] o02 h2 rfl rfl (fun x hx => by simp at hx; rcases hx with rfl | rfl <;> rfl) (fun j u y g1 g2 => by
   match j with
   | 0 => simp [o02] at g1 g2; subst g1 g2; exact ⟨_, _, _, rfl, by decide, by decide, Row.nil_⟩
   | 1 => simp [o02] at g1 g2; subst g1 g2; exact ⟨_, _, _, rfl, by decide, by decide, Row.nil_⟩
   | j + 2 => simp at g1) h2.lt
theorem acts_oR {wx : World} {b2 : Nat} {t2 : TypeId} (h2 : Whole wx b2 t2 [.bool true, .int .i64 3, .slice none 0 0, .int .i64 0, .bool false, .int .i64 2, .slice none 0 0, .int .i64 0, .bool false, .int .i64 0, .slice none 0 0, .int .i64 0]) : RSeq 4 (RAct wx (fun i => i < wx.heap.size)) wx (fun i => i < wx.heap.size) (some ⟨b2, 0, none⟩) 3 oR :=
 RSeq.whole (α := Ac) (K := 4) (R := RAct wx (fun i => i < wx.heap.size)) (n := 3) [[.bool true, .int .i64 3, .slice none 0 0, .int .i64 0], [.bool false, .int .i64 2, .slice none 0 0, .int .i64 0], [.bool false, .int .i64 0, .slice none 0 0, .int .i64 0]] oR h2 rfl rfl (fun x hx => by simp at hx; rcases hx with rfl | rfl | rfl <;> rfl) (fun j u y g1 g2 => by
   match j with
   | 0 => simp [oR] at g1 g2; subst g1 g2; exact ⟨_, _, _, rfl, by decide, by decide, Row.nil_⟩
   | 1 => simp [oR] at g1 g2; subst g1 g2; exact ⟨_, _, _, rfl, by decide, by decide, Row.nil_⟩
   | 2 => simp [oR] at g1 g2; subst g1 g2; exact ⟨_, _, _, rfl, by decide, by decide, Row.nil_⟩
   | j + 3 => simp at g1) h2.lt
set_option maxRecDepth 100000 in
set_option maxHeartbeats 3200000 in
theorem ordered_any (w : World) (hL : LaidV w) (hM : MaxW w) :
  Calls Tryz.prog 9 #[] w fun e w' => e = .returned (.bool true) ∧ Below w.heap.size w w' := by
 have Hsm := qh (small_any w hL hM)
 unfold SmallPost at Hsm
 clear hL hM
 go_enter Tryz.func9, Tryz.ntmps9
 go_upto_region 2 with (first | (go_at_call 39; refine Hsm.out.mono ?_; rintro e w1 ⟨A, c, rfl, hT, hc1, hc2, hb1⟩; refine Hid.out ?_))
 refine qh ?_
 go_upto_region 2 with fail
 have h1 := Whole.new w1 w1.heap.size 24 [.slice A 4 c] rfl
 have h2 := Whole.new (w1.alloc (.cells #[.slice A 4 c] 24)) (w1.heap.size + 1) 33 [.int .i64 3, .slice none 0 0] (by simp)
 have h3 := Whole.new ((w1.alloc (.cells #[.slice A 4 c] 24)).alloc (.cells #[.int .i64 3, .slice none 0 0] 33)) (w1.heap.size + 1 + 1) 33 [.int .i64 0, .slice none 0 0, .int .i64 2, .slice none 0 0] (by simp)
 have hbl : Below w1.heap.size w1 (((w1.alloc (.cells #[.slice A 4 c] 24)).alloc (.cells #[.int .i64 3, .slice none 0 0] 33)).alloc (.cells #[.int .i64 0, .slice none 0 0, .int .i64 2, .slice none 0 0] 33)) := (((Below.refl _ _).alloc (qr _) _).alloc (by simp) _).alloc (by simp; omega) _
 have hT4 := (hT.under hbl fun k hk => hk.2).more fun k hk => (ql hk.2 hbl.size)
 have hpl := oplan_any smallT o3 o02 (fun k => k < (((w1.alloc (.cells #[.slice A 4 c] 24)).alloc (.cells #[.int .i64 3, .slice none 0 0] 33)).alloc (.cells #[.int .i64 0, .slice none 0 0, .int .i64 2, .slice none 0 0] 33)).heap.size) A (some ⟨w1.heap.size + 1, 0, none⟩) (some ⟨w1.heap.size + 1 + 1, 0, none⟩) 4 c 1 1 2 2 _ hT4 hc1 hc2 (set_o3 (h2.alloc _)) (qr _) (by decide) (set_o02 h3) (qr _) (by decide) (fun k hk => hk)
 unfold PlanPost at hpl
 rw [plan_E, plan_L] at hpl
 have HPL := qh hpl
 have HB4 := qh (hb1.trans (hbl.mono hb1.size))
 have t0 := h1.cell 0
 simp only [List.getElem?_cons_zero] at t0
 have tlt := h1.lt
 clear hpl hT4 hbl h2 h3 hT hb1
 go_upto_region 3 with (first | (go_at_call 8; refine HPL.out.mono ?_; rintro e w5 ⟨v5, cs5, B5, rfl, hB5, hG5, hb5⟩; refine Hid.out ?_))
 refine qh ?_
 obtain ⟨A5, c5, rfl, hn5, hc5, hs5⟩ := hG5.seq
 have HB5 := qh (HB4.out.trans (hb5.mono HB4.out.size))
 have HS5 := qh hs5
 clear hG5 hb5 hs5 hB5 HPL t0 tlt HB4
 rw [show oR.length = 3 from rfl] at HS5 hn5 ⊢
 have hal : Below w5.heap.size w5 (w5.alloc (.cells #[.bool true, .int .i64 3, .slice none 0 0, .int .i64 0, .bool false, .int .i64 2, .slice none 0 0, .int .i64 0, .bool false, .int .i64 0, .slice none 0 0, .int .i64 0] 48)) := (Below.refl _ w5).alloc (qr _) _
 have h6 := Whole.new w5 w5.heap.size 48 [.bool true, .int .i64 3, .slice none 0 0, .int .i64 0, .bool false, .int .i64 2, .slice none 0 0, .int .i64 0, .bool false, .int .i64 0, .slice none 0 0, .int .i64 0] rfl
 have hsa := rsameActs_any (fun k => k < (w5.alloc (.cells #[.bool true, .int .i64 3, .slice none 0 0, .int .i64 0, .bool false, .int .i64 2, .slice none 0 0, .int .i64 0, .bool false, .int .i64 0, .slice none 0 0, .int .i64 0] 48)).heap.size) A5 (some ⟨w5.heap.size, 0, none⟩) 3 c5 3 3 oR oR _
  (RSeq.more (S := fun k => B5 ≤ k ∧ k < w5.heap.size) (fun k hk => ql hk.2 hal.size) (RSeq.keep HS5.out (fun p hp => hal.cell hp.2) fun x y h => h) fun x y h => (h.keep fun p hp => hal.cell hp.2).more fun k hk => ql hk.2 hal.size)
  (acts_oR h6) (fun k hk => hk) (by decide) (by decide)
 rw [same_R] at hsa
 have Hsa := qh hsa
 have HB6 := qh (HB5.out.trans (hal.mono HB5.out.size))
 clear hsa hal h6 HS5 HB5
 go_wp2_with (first | (go_at_call 27; refine Hsa.out.mono ?_; rintro e w7 ⟨rfl, hb7⟩; refine Hid.out ?_))
 refine qh ?_
 have HB7 := qh (HB6.out.trans (hb7.mono HB6.out.size))
 clear hb7
 go_wp2
 go_ret
 exact ⟨rfl, HB7.out⟩
end
/- OrderSays, walked: it returns true. -/
section
open Go.RowKit Qm

set_option maxRecDepth 100000 in
set_option maxHeartbeats 6400000 in
theorem orderSays_any (ps : List Pk) (l1 l : List Mem) (S : Nat → Prop) (A B1 B : Option Addr) (n c q1 d1 q d : Nat) (w : World) (hT : RTree w S A n ps) (hnc : n ≤ c) (hc : c ≤ maxLen) (hL1 : RSet w S B1 q1 l1) (hqd1 : q1 ≤ d1) (hd1 : d1 ≤ maxLen) (hL : RSet w S B q l) (hqd : q ≤ d) (hd : d ≤ maxLen) (hS : ∀ k, S k → k < w.heap.size) (hLV : LaidV w) (hMW : MaxW w) :
  Calls Tryz.prog 7 #[.agg #[.slice A n c], .slice B1 q1 d1, .slice B q d] w fun e w' => e = .returned (.bool true) ∧ Below w.heap.size w w' := by
 have X0 := qh (Tx.new w A n c)
 have HT := qh hT; have HS := qh hS; have HL := qh hL; have HL1 := qh hL1; have HLV := qh hLV; have HMW := qh hMW
 clear hT hS hL hL1 hLV hMW
 have Hlt := qh (fun (wx : World) (hb : Below w.heap.size w wx) k hk => ql (HS.out k hk) hb.size)
 have HLE := qh (oleans_any ps l S A B n c q d _ (HT.out.under X0.out.below HS.out) hnc hc (HL.out.under X0.out.below HS.out) hqd hd (Hlt.out _ X0.out.below))
 have HPL := qh (fun wx (hb : Below w.heap.size w wx) => oplan_any ps l1 l S A B1 B n c q1 d1 q d wx (HT.out.under hb HS.out) hnc hc (HL1.out.under hb HS.out) hqd1 hd1 (HL.out.under hb HS.out) hqd hd (Hlt.out _ hb))
 have HTR := qh (fun wx (hb : Below w.heap.size w wx) => rcheckTree_any ps S A n c wx (HT.out.under hb HS.out) hnc hc (Hlt.out _ hb))
 have HCS := qh (fun (h8 : n ≤ 8) wx (hb : Below w.heap.size w wx) => rcset_any ps l S A B n c q d wx (HT.out.under hb HS.out) h8 hnc hc (HL.out.under hb HS.out) (Nat.le_trans hqd hd) (Hlt.out _ hb))
 have HCT := qh (fun (h8 : n ≤ 8) wx (hb : Below w.heap.size w wx) => rcset_any ps l1 S A B1 n c q1 d1 wx (HT.out.under hb HS.out) h8 hnc hc (HL1.out.under hb HS.out) (Nat.le_trans hqd1 hd1) (Hlt.out _ hb))
 have HOR := qh (fun wx (hb : Below w.heap.size w wx) => ordered_any wx (HLV.out.below hb) (HMW.out.below hb))
 have Hpl := qh HT.out.len
 obtain ⟨zS, hzS⟩ : ∃ z, ckSet ps l = z := ⟨_, rfl⟩
 obtain ⟨zP, hzP⟩ : ∃ z, planE ps l1 l = z := ⟨_, rfl⟩
 obtain ⟨zT, hzT⟩ : ∃ z, ckTree ps = z := ⟨_, rfl⟩
 have HZS := qh hzS; have HZP := qh hzP; have HZT := qh hzT
 clear hzS hzP hzT
 obtain ⟨onL, honL⟩ : ∃ x, leansR ps l = x := ⟨_, rfl⟩
 have HONL := qh honL
 obtain ⟨aL, haL⟩ : ∃ x, planR ps l1 l = x := ⟨_, rfl⟩
 have HAL := qh haL
 clear honL haL
 have hcm := hc
 unfold maxLen at hcm
 go_enter Tryz.func7, Tryz.ntmps7
 go_upto_region 2 with (first | (go_at_call 14; refine HLE.out.mono ?_; rintro e w2 ⟨A2, c2, rfl, hr2, hn2, hc2, hb2⟩; rw [HZS.out]; rw [HONL.out] at hr2 hn2 ⊢; refine Hid.out ?_))
 refine qh ?_
 have X2 := qh (X0.out.move hb2)
 have HR2 := qh (hr2.more (S' := fun k => k < w2.heap.size) fun k hk => hk.2)
 have HPL2 := qh (HPL.out _ X2.out.below)
 have t0 := X2.out.whole.cell 0
 have tlt := X2.out.whole.lt
 simp only [List.getElem?_cons_zero] at t0
 clear hr2 hb2 X0 HLE
 go_upto_region 3 with (first | (go_at_call 8; refine HPL2.out.mono ?_; rintro e w3 ⟨v3, cs3, B3, rfl, hB3, hg3, hb3⟩; rw [HZP.out]; rw [HAL.out] at hg3; refine Hid.out ?_))
 refine qh ?_
 obtain ⟨A3, c3, rfl, hn3, hc3, hs3⟩ := hg3.seq
 have X3 := qh (X2.out.move hb3)
 have HR3 := qh ((HR2.out.below hb3 fun k hk => hk).more (S' := fun k => k < w3.heap.size) fun k hk => ql hk hb3.size)
 have HG3 := qh (RSeq.more (S' := fun k => k < w3.heap.size) (fun k hk => hk.2) hs3 fun x y h => h.more fun k hk => hk.2)
 have HTR3 := qh (HTR.out _ X3.out.below)
 clear hg3 hs3 hb3 hB3 HR2 X2 HPL2 t0 tlt
 have t0 := X3.out.whole.cell 0
 have tlt := X3.out.whole.lt
 simp only [List.getElem?_cons_zero] at t0
 go_upto_region 4 with (first | (go_at_call 21; refine HTR3.out.mono ?_; rintro e w4 ⟨rfl, hb4⟩; rw [HZT.out]; refine Hid.out ?_))
 refine qh ?_
 have X4 := qh (X3.out.move hb4)
 have HR4 := qh ((HR3.out.below hb4 fun k hk => hk).more (S' := fun k => k < w4.heap.size) fun k hk => ql hk hb4.size)
 have HG4 := qh (RSeq.more (S' := fun k => k < w4.heap.size) (fun k hk => ql hk hb4.size) (RSeq.keep HG3.out (fun p hp => hb4.cell hp) fun x y h => h) fun x y h => (h.keep fun p hp => hb4.cell hp).more fun k hk => ql hk hb4.size)
 clear hb4 HR3 HG3 X3 HTR3 t0 tlt
 have HO4 := qh (HOR.out _ X4.out.below)
 by_cases hz1 : zT = 0
 ·have hz1s := hz1.symm
  subst hz1s
  have h8 : n ≤ 8 := by rw [← Hpl.out]; exact ckTree_len HZT.out
  have HCS4 := qh (HCS.out h8 _ X4.out.below)
  have hck : ∀ l, ckSet ps l = ckMs ps none l := fun l => by unfold ckSet; rw [if_neg (by rw [HZT.out]; decide)]
  have HCK := qh hck
  have t0 := X4.out.whole.cell 0
  have tlt := X4.out.whole.lt
  simp only [List.getElem?_cons_zero] at t0
  clear HO4 hck
  go_upto_region 7 with (first | (go_at_call 22; refine HCS4.out.mono ?_; rintro e w5 ⟨rfl, hb5⟩; rw [← HCK.out, HZS.out]; refine Hid.out ?_))
  refine qh ?_
  have X5 := qh (X4.out.move hb5)
  have HR5 := qh ((HR4.out.below hb5 fun k hk => hk).more (S' := fun k => k < w5.heap.size) fun k hk => ql hk hb5.size)
  have HG5 := qh (RSeq.more (S' := fun k => k < w5.heap.size) (fun k hk => ql hk hb5.size) (RSeq.keep HG4.out (fun p hp => hb5.cell hp) fun x y h => h) fun x y h => (h.keep fun p hp => hb5.cell hp).more fun k hk => ql hk hb5.size)
  clear hb5 HR4 HG4 X4 HCS4 t0 tlt
  by_cases hz2 : zS = 0
  ·have hz2s := hz2.symm
   subst hz2s
   have HCT5 := qh (HCT.out h8 _ X5.out.below)
   have t0 := X5.out.whole.cell 0
   have tlt := X5.out.whole.lt
   simp only [List.getElem?_cons_zero] at t0
   have HZP2 : Hid (zP = ckSet ps l1) := qh (by rw [← HZP.out]; unfold planE; rw [if_neg (by rw [HZS.out]; decide)])
   go_upto_region 9 with (first | (go_at_call 22; refine HCT5.out.mono ?_; rintro e w6 ⟨rfl, hb6⟩; rw [← HCK.out, ← HZP2.out]; refine Hid.out ?_))
   refine qh ?_
   have X6 := qh (X5.out.move hb6)
   have HR6 := qh ((HR5.out.below hb6 fun k hk => hk).more (S' := fun k => k < w6.heap.size) fun k hk => ql hk hb6.size)
   have HG6 := qh (RSeq.more (S' := fun k => k < w6.heap.size) (fun k hk => ql hk hb6.size) (RSeq.keep HG5.out (fun p hp => hb6.cell hp) fun x y h => h) fun x y h => (h.keep fun p hp => hb6.cell hp).more fun k hk => ql hk hb6.size)
   have HO6 := qh (HOR.out _ X6.out.below)
   have e3 : leansL ps l = onL := by rw [← HONL.out]; unfold leansR; rw [if_pos HZS.out]
   have HE3 := qh e3
   have HLQ : Hid (onL.length = q) := qh (by rw [← e3, leansL_len]; exact HL.out.len)
   have HLO := qh (fun wx (hb : Below w.heap.size w wx) => rleanson_any ps l S A B n c q d wx (HT.out.under hb HS.out) hnc hc (HL.out.under hb HS.out) hqd hd (Hlt.out _ hb) HZS.out)
   clear hb6 HR5 HG5 X5 HCT5 t0 tlt e3
   rw [HLQ.out] at HR6 hn2 ⊢
   by_cases hz3 : zP = 0
   ·have hz3s := hz3.symm
    subst hz3s
    have e4 : planL ps l1 l = aL := by rw [← HAL.out]; unfold planR; rw [if_pos HZP.out]
    have HE4 := qh e4
    have hc1 : ckSet ps l1 = 0 := HZP2.out.symm
    have HPD := qh (fun wx (hb : Below w.heap.size w wx) => rplanned_any ps l1 l S A B1 B n c q1 d1 q d wx (Cx.of hc1 (HT.out.under hb HS.out) hnc hc (HL1.out.under hb HS.out) hqd1 hd1 (Hlt.out _ hb)) (Cx.of HZS.out (HT.out.under hb HS.out) hnc hc (HL.out.under hb HS.out) hqd hd (Hlt.out _ hb)) hc1 HZS.out)
    clear e4 hc1
    go_wp2_with (first | (go_at_call 9; refine HO6.out.mono ?_; rintro e w7 ⟨rfl, hb7⟩; refine Hid.out ?_))
    refine qh ?_
    have X7 := qh (X6.out.move hb7)
    have HB67 := qh hb7
    have HLO7 := qh (HLO.out _ X7.out.below)
    have t0 := X7.out.whole.cell 0
    have tlt := X7.out.whole.lt
    simp only [List.getElem?_cons_zero] at t0
    clear hb7 HO6
    go_wp2_with (first | (go_at_call 24; refine HLO7.out.mono ?_; rintro e w8 ⟨A8, c8, rfl, hr8, hn8, hc8, hb8⟩; refine Hid.out ?_))
    refine qh ?_
    have X8 := qh (X7.out.move hb8)
    have hb68 := HB67.out.trans (hb8.mono HB67.out.size)
    have hr8s := hr8.more (S' := fun k => k < w8.heap.size) fun k hk => hk.2
    rw [HE3.out] at hr8s
    have heq := equalII_any A2 A8 q q c2 c8 onL onL w8 (fun k => k < w8.heap.size) ((HR6.out.below hb68 fun k hk => hk).more fun k hk => ql hk hb68.size) hr8s (Nat.le_trans hn2 hc2) (Nat.le_trans hn8 hc8)
    rw [show (onL == onL) = true from by simp] at heq
    have HEQ := qh heq
    have HB68 := qh hb68
    clear heq hr8s hr8 hb8 hb68 t0 tlt HLO7
    go_wp2_with (first | (go_at_call 23; refine HEQ.out.mono ?_; rintro e w9 ⟨rfl, nq, rfl⟩; refine Hid.out ?_))
    refine qh ?_
    have X9 := qh (X8.out.move (below_drewN (Below.refl _ _) nq))
    have HB69 := qh (below_drewN HB68.out nq)
    generalize w8.drewN nq = w9 at X9 HB69 ⊢
    have t0 := X9.out.whole.cell 0
    have tlt := X9.out.whole.lt
    simp only [List.getElem?_cons_zero] at t0
    have HPD9 := qh (HPD.out _ X9.out.below)
    go_wp2_with (first | (go_at_call 28; refine HPD9.out.mono ?_; rintro e w10 ⟨v10, cs10, rfl, hg10, hb10⟩; obtain ⟨A10, c10, rfl, hn10, hc10, hs10⟩ := hg10.seq; refine Hid.out ?_))
    refine qh ?_
    rw [HE4.out] at hs10 hn10 ⊢
    have X10 := qh (X9.out.move hb10)
    have hb610 := HB69.out.trans (hb10.mono HB69.out.size)
    have HG10 := RSeq.more (S' := fun k => k < w10.heap.size) (fun k hk => ql hk hb610.size) (RSeq.keep HG6.out (fun p hp => hb610.cell hp) fun x y h => h) fun x y h => (h.keep fun p hp => hb610.cell hp).more fun k hk => ql hk hb610.size
    have hsa := rsameActs_any (fun k => k < w10.heap.size) A3 A10 aL.length c3 aL.length c10 aL aL w10 HG10 hs10 (fun k hk => hk) (Nat.le_trans hn3 hc3) (Nat.le_trans hn10 hc10)
    rw [(eqL_iff actB_iff).2 rfl] at hsa
    have HSA := qh hsa
    clear hsa HG10 hs10 hg10 hb10 hb610 t0 tlt HPD9
    go_wp2_with (first | (go_at_call 27; refine HSA.out.mono ?_; rintro e w11 ⟨rfl, hb11⟩; refine Hid.out ?_))
    refine qh ?_
    have X11 := qh (X10.out.move hb11)
    clear hb11
    go_wp2
    go_ret
    exact ⟨rfl, X11.out.below⟩
   ·have hzb : (zP == 0) = false := by simpa using hz3
    have hzn : (zP != 0) = true := by unfold bne; rw [hzb]; rfl
    have hzz : (zP != zP) = false := by simp
    have e4 : aL = [] := by rw [← HAL.out]; unfold planR; rw [if_neg (by rw [HZP.out]; exact hz3)]
    have e4 := e4.symm
    subst e4
    clear hz3
    go_wp2_with (first | (go_at_call 9; refine HO6.out.mono ?_; rintro e w7 ⟨rfl, hb7⟩; refine Hid.out ?_))
    refine qh ?_
    have X7 := qh (X6.out.move hb7)
    have HB67 := qh hb7
    have HLO7 := qh (HLO.out _ X7.out.below)
    have t0 := X7.out.whole.cell 0
    have tlt := X7.out.whole.lt
    simp only [List.getElem?_cons_zero] at t0
    clear hb7 HO6
    go_wp2_with (first | (go_at_call 24; refine HLO7.out.mono ?_; rintro e w8 ⟨A8, c8, rfl, hr8, hn8, hc8, hb8⟩; refine Hid.out ?_))
    refine qh ?_
    have X8 := qh (X7.out.move hb8)
    have hb68 := HB67.out.trans (hb8.mono HB67.out.size)
    have hr8s := hr8.more (S' := fun k => k < w8.heap.size) fun k hk => hk.2
    rw [HE3.out] at hr8s
    have heq := equalII_any A2 A8 q q c2 c8 onL onL w8 (fun k => k < w8.heap.size) ((HR6.out.below hb68 fun k hk => hk).more fun k hk => ql hk hb68.size) hr8s (Nat.le_trans hn2 hc2) (Nat.le_trans hn8 hc8)
    rw [show (onL == onL) = true from by simp] at heq
    have HEQ := qh heq
    have HB68 := qh hb68
    clear heq hr8s hr8 hb8 hb68 t0 tlt HLO7
    go_wp2_with (first | (go_at_call 23; refine HEQ.out.mono ?_; rintro e w9 ⟨rfl, nq, rfl⟩; refine Hid.out ?_))
    refine qh ?_
    have X9 := qh (X8.out.move (below_drewN (Below.refl _ _) nq))
    have HB69 := qh (below_drewN HB68.out nq)
    generalize w8.drewN nq = w9 at X9 HB69 ⊢
    go_wp2
    go_ret
    exact ⟨rfl, X9.out.below⟩
  ·have hzb : (zS == 0) = false := by simpa using hz2
   have hzn : (zS != 0) = true := by unfold bne; rw [hzb]; rfl
   have e2 : zP = zS := by rw [← HZP.out]; unfold planE; rw [if_pos (by rw [HZS.out]; exact hz2), HZS.out]
   have e3 : onL = [] := by rw [← HONL.out]; unfold leansR; rw [if_neg (by rw [HZS.out]; exact hz2)]
   have e4 : aL = [] := by rw [← HAL.out]; unfold planR; rw [if_neg (by rw [HZP.out, e2]; exact hz2)]
   have e2 := e2.symm; have e3 := e3.symm; have e4 := e4.symm
   subst e2 e3 e4
   have hzz : (zS != zS) = false := by simp
   have HO5 := qh (HOR.out _ X5.out.below)
   clear hz2
   go_wp2_with (first | (go_at_call 9; refine HO5.out.mono ?_; rintro e w6 ⟨rfl, hb9⟩; refine Hid.out ?_))
   refine qh ?_
   have X6 := qh (X5.out.move hb9)
   clear hb9
   go_wp2
   go_ret
   exact ⟨rfl, X6.out.below⟩
 ·have hzb : (zT == 0) = false := by simpa using hz1
  have hzn : (zT != 0) = true := by unfold bne; rw [hzb]; rfl
  have e1 : zS = zT := by rw [← HZS.out, ← HZT.out]; unfold ckSet; rw [if_pos (by rw [HZT.out]; exact hz1)]
  have e2 : zP = zT := by rw [← HZP.out]; unfold planE; rw [if_pos (by rw [HZS.out, e1]; exact hz1), HZS.out, e1]
  have e3 : onL = [] := by rw [← HONL.out]; unfold leansR; rw [if_neg (by rw [HZS.out, e1]; exact hz1)]
  have e4 : aL = [] := by rw [← HAL.out]; unfold planR; rw [if_neg (by rw [HZP.out, e2]; exact hz1)]
  have e1 := e1.symm; have e2 := e2.symm; have e3 := e3.symm; have e4 := e4.symm
  subst e1 e2 e3 e4
  have hzz : (zT != zT) = false := by simp
  clear hz1
  go_wp2_with (first | (go_at_call 9; refine HO4.out.mono ?_; rintro e w5 ⟨rfl, hb9⟩; refine Hid.out ?_))
  refine qh ?_
  have X5 := qh (X4.out.move hb9)
  clear hb9
  go_wp2
  go_ret
  exact ⟨rfl, X5.out.below⟩
end
/- Arguments that can be read as data, opened: atoms, strings; what the listed variables hold. -/
section
open Go.ChangeShapes Go.WideShapes Go.ChangeAt Go.RowKit Qm

section
variable {H : Type} {enc : TypeId × Value → H} {w : World} {base : Nat} {sp : Nat → Bool} {held : Bool}
theorem field_cell {P : Program} {t : TypeId} {fs : Array Field} {fuel : Nat} {cs : List Value} {x : DataW H × List MemPlace} (ht : P.underlying t = some (.struct fs)) (h : DataW.trod enc P w base sp held fuel t cs = some x)
  (i : Nat) {f : Field} (hf : fs[i]? = some f) (hc : P.cellsOf f.type = 1) (hlt : f.offset < P.cellsOf t) : ∃ c n y, cs[f.offset]? = some c ∧ DataW.trod enc P w base sp held n f.type [c] = some y := by
 obtain ⟨xs, n, _, _, hl, hxl, hx⟩ := DataW.trod_struct ht h
 have h1 := hx i f hf
 have hlt' : f.offset < cs.length := by omega
 have hi : i < fs.size := (Array.getElem?_eq_some_iff.1 hf).1
 rw [hc, List.drop_eq_getElem_cons hlt'] at h1
 refine ⟨cs[f.offset], n, xs[i]'(by omega), List.getElem?_eq_getElem hlt', ?_⟩
 rw [List.getElem?_eq_getElem (by omega)] at h1
 have e : (cs[f.offset] :: List.drop (f.offset + 1) cs).take 1 = [cs[f.offset]] := rfl
 rw [e] at h1
 exact h1
def In64 (x : Int) : Prop := -9223372036854775808 ≤ x ∧ x ≤ 9223372036854775807
theorem i64_le {x : Int} (h : (Lit.int .i64 x).wf = true) : In64 x := by
 unfold In64
 simp [Lit.wf, IntKind.min, IntKind.max, IntKind.bits, IntKind.signed] at h; omega
theorem six_of {α : Type} {cs : List α} {a b c d e f : α} (hl : cs.length = 6) (h0 : cs[0]? = some a) (h1 : cs[1]? = some b) (h2 : cs[2]? = some c) (h3 : cs[3]? = some d) (h4 : cs[4]? = some e) (h5 : cs[5]? = some f) : cs = [a, b, c, d, e, f] := by
 match cs, hl with
 | [_, _, _, _, _, _], _ => simp at h0 h1 h2 h3 h4 h5; simp [h0, h1, h2, h3, h4, h5]
theorem str_one {P : Program} {t : TypeId} {n : Nat} {c : Value} {y : DataW H × List MemPlace} (ht : P.underlying t = some .string) (h : DataW.trod enc P w base sp held n t [c] = some y) : ∃ s : ByteArray, c = .string s ∧ s.size ≤ maxLen := by
 obtain ⟨s, e, _, hs⟩ := DataW.trod_string ht h
 simp at e
 exact ⟨s, e, hs⟩
theorem int_oneA {P : Program} {t : TypeId} {n : Nat} {c : Value} {y : DataW H × List MemPlace} (ht : P.underlying t = some (.int .i64)) (h : DataW.trod enc P w base sp held n t [c] = some y) : ∃ x : Int, c = .int .i64 x ∧ In64 x := by
 obtain ⟨x, e, _, hs⟩ := DataW.trod_int ht h
 simp at e
 exact ⟨x, e, i64_le hs⟩
theorem bool_one_ {P : Program} {t : TypeId} {n : Nat} {c : Value} {y : DataW H × List MemPlace} (ht : P.underlying t = some .bool) (h : DataW.trod enc P w base sp held n t [c] = some y) : ∃ x : Bool, c = .bool x := by
 obtain ⟨x, e, _⟩ := DataW.trod_bool ht h
 simp at e
 exact ⟨x, e⟩
theorem atom_cells {fuel : Nat} {cs : List Value} {x : DataW H × List MemPlace} (h : DataW.trod enc Tryz.prog w base sp held fuel 37 cs = some x) :
  ∃ (s f : ByteArray) (op ver slot : Int) (on : Bool), cs = [.string s, .int .i64 op, .int .i64 ver, .int .i64 slot, .string f, .bool on] ∧ s.size ≤ maxLen ∧ f.size ≤ maxLen ∧ In64 op ∧
   In64 ver ∧ In64 slot := by
 have hT := Tryz.underlying37
 have hl : cs.length = 6 := by
  obtain ⟨_, _, _, _, hl, _⟩ := DataW.trod_struct hT h
  rw [hl]; kernel_rfl
 obtain ⟨c0, n0, y0, e0, k0⟩ := field_cell hT h 0 rfl (by kernel_rfl) (of_decide_eq_true (by kernel_rfl))
 obtain ⟨c1, n1, y1, e1, k1⟩ := field_cell hT h 1 rfl (by kernel_rfl) (of_decide_eq_true (by kernel_rfl))
 obtain ⟨c2, n2, y2, e2, k2⟩ := field_cell hT h 2 rfl (by kernel_rfl) (of_decide_eq_true (by kernel_rfl))
 obtain ⟨c3, n3, y3, e3, k3⟩ := field_cell hT h 3 rfl (by kernel_rfl) (of_decide_eq_true (by kernel_rfl))
 obtain ⟨c4, n4, y4, e4, k4⟩ := field_cell hT h 4 rfl (by kernel_rfl) (of_decide_eq_true (by kernel_rfl))
 obtain ⟨c5, n5, y5, e5, k5⟩ := field_cell hT h 5 rfl (by kernel_rfl) (of_decide_eq_true (by kernel_rfl))
 obtain ⟨s, rfl, hs⟩ := str_one Tryz.underlying9 k0
 obtain ⟨op, rfl, ho⟩ := int_oneA Tryz.underlying3 k1
 obtain ⟨ver, rfl, hv⟩ := int_oneA Tryz.underlying3 k2
 obtain ⟨slot, rfl, hsl⟩ := int_oneA Tryz.underlying3 k3
 obtain ⟨f, rfl, hf⟩ := str_one Tryz.underlying9 k4
 obtain ⟨on, rfl⟩ := bool_one_ Tryz.underlying4 k5
 exact ⟨s, f, op, ver, slot, on, six_of hl e0 e1 e2 e3 e4 e5, hs, hf, ho, hv, hsl⟩
end

/-! what the listed variables hold -/
theorem laid_at {P : Program} {w : World} : ∀ {l : List (String × DataW Unit)} {k : Nat} {x : String × DataW Unit}, laidMet P l w → l[k]? = some x → ∃ r, laidMet P (x :: r) w
 | [], _, _, _, h => by simp at h
 | y :: r, 0, x, h, hk => by
  simp only [List.getElem?_cons_zero, Option.some.injEq] at hk
  subst hk
  exact ⟨r, h⟩
 | y :: r, k + 1, x, h, hk => laid_at h.tail (by simpa using hk)
theorem gPow : Tryz.prog.globalNamed "internal/strconv.uint64pow10" = some 5 := by kernel_rfl
theorem gRng : Tryz.prog.globalNamed "strconv.ErrRange" = some 4 := by kernel_rfl
theorem gSyn : Tryz.prog.globalNamed "strconv.ErrSyntax" = some 3 := by kernel_rfl
theorem tPow : (Tryz.prog.globals[5]?).map (·.type) = some 230 := by kernel_rfl
theorem tRng : (Tryz.prog.globals[4]?).map (·.type) = some 153 := by kernel_rfl
theorem tSyn : (Tryz.prog.globals[3]?).map (·.type) = some 153 := by kernel_rfl
theorem rowErr : ∀ u, Tryz.prog.typeName? 3 u = some "*errors.errorString" → u = 226 := fun _ h => typeName_ptr_named (nm := "errors.errorString") (by kernel_rfl) (by kernel_rfl) (by decide) _ h
theorem laidV_of {w : World} {l : List (String × DataW Unit)} (h : laidMet Tryz.prog l w) {i j k : Nat} (hi : l[i]? = some ("internal/strconv.uint64pow10", Rows.laid_internal_strconv_uint64pow10)) (hj : l[j]? = some ("strconv.ErrRange", Rows.laid_strconv_ErrRange)) (hk : l[k]? = some ("strconv.ErrSyntax", Rows.laid_strconv_ErrSyntax)) : LaidV w := by
 obtain ⟨_, h1⟩ := laid_at h hi
 obtain ⟨_, h2⟩ := laid_at h hj
 obtain ⟨_, h3⟩ := laid_at h hk
 obtain ⟨a2, s2, e2, _⟩ := laid_sentinel h2 gRng tRng Tryz.underlying153 rowErr Tryz.underlying226 Tryz.underlying228 rfl rfl Tryz.underlying9 (by kernel_rfl) (by kernel_rfl)
 obtain ⟨a3, s3, e3, _⟩ := laid_sentinel h3 gSyn tSyn Tryz.underlying153 rowErr Tryz.underlying226 Tryz.underlying228 rfl rfl Tryz.underlying9 (by kernel_rfl) (by kernel_rfl)
 exact ⟨⟨_, _, e3⟩, ⟨_, _, e2⟩, Lib.tabIs_of_head gPow tPow Tryz.underlying230 Tryz.underlying140 (by kernel_rfl) (by kernel_rfl) h1⟩
end
/- Arguments that can be read as data, opened into the words of these proofs. -/
section
open Go.ChangeShapes Go.WideShapes Go.ChangeAt Go.RowKit Go.Joins Go.Deep

theorem spot_add {w : World} {a : Addr} {n : Nat} {f : Nat → Value} (hn : 0 < n) (h : ∀ i, i < n → w.cell? (a.add i) = some (f i)) : ∃ b o, a = ⟨b, o, none⟩ ∧ b < w.heap.size ∧ ∀ j, j < n → w.cell? ⟨b, o + j, none⟩ = some (f j) := by
 obtain ⟨b, o, spot⟩ := a
 have h0 := h 0 hn
 have hs : spot = none := by simpa [Addr.add] using World.cell?_spot h0
 subst hs
 have ha : ∀ j, (⟨b, o, none⟩ : Addr).add j = ⟨b, o + j, none⟩ := by
  intro j; unfold Addr.add; by_cases hj : j = 0 <;> simp [hj]
 refine ⟨b, o, rfl, ?_, fun j hj => by rw [← ha]; exact h j hj⟩
 have := World.block_lt_of_cell? w _ h0
 rw [ha] at this; exact this

theorem row_of_cells {w : World} {a : Addr} {n : Nat} {vs : List Value} (hl : vs.length = n) (h : ∀ i (_ : i < n), w.cell? (a.add i) = vs[i]?) : Row w (fun k => k < w.heap.size) (some a) n vs := by
 refine ⟨hl, fun hn => ?_⟩
 obtain ⟨b, o, rfl, hb, hc⟩ := spot_add (f := fun i => (vs[i]?).getD undef) hn (fun i hi => by rw [h i hi, List.getElem?_eq_getElem (by omega)]; rfl)
 exact ⟨b, o, rfl, hb, fun j hj => by rw [hc j hj, List.getElem?_eq_getElem (by omega)]; rfl⟩

section
variable {H : Type} {enc : TypeId × Value → H} {P : Program} {w : World} {base : Nat} {held : Bool}
end
end
/- Arguments that can be read as needs, opened. -/
section
open Go.ChangeShapes Go.WideShapes Go.ChangeAt Go.RowKit Qm

theorem flatK {K : Nat} {cs : List (List Value)} (h : ∀ x ∈ cs, x.length = K) : ∀ {j : Nat} {x : List Value}, cs[j]? = some x → ∀ i, i < K → cs.flatten[j * K + i]? = x[i]? := by
 induction cs with
 | nil => intro j x hj; simp at hj
 | cons c r ih =>
  intro j x hj i hi
  have hc := h c (List.mem_cons_self ..)
  rw [List.flatten_cons]
  cases j with
  | zero =>
   simp only [List.getElem?_cons_zero, Option.some.injEq] at hj
   subst hj
   rw [List.getElem?_append_left (by omega)]; congr 1; omega
  | succ j =>
   rw [List.getElem?_cons_succ] at hj
   have he : (j + 1) * K = j * K + K := Nat.succ_mul j K
   rw [List.getElem?_append_right (by omega)]
   rw [← ih (fun y hy => h y (List.mem_cons_of_mem _ hy)) hj i hi]
   congr 1; omega
theorem flatK_len {K : Nat} {cs : List (List Value)} (h : ∀ x ∈ cs, x.length = K) : cs.flatten.length = cs.length * K := by
 induction cs with
 | nil => simp
 | cons c r ih =>
  have hc := h c (List.mem_cons_self ..)
  have := ih fun y hy => h y (List.mem_cons_of_mem _ hy)
  simp only [List.flatten_cons, List.length_append, List.length_cons, Nat.succ_mul]
  omega

section
variable {H : Type} {enc : TypeId × Value → H} {P : Program} {w : World} {base : Nat} {sp : Nat → Bool} {held : Bool}
theorem slice_items {t e : TypeId} {K fuel : Nat} {v : Value} {x : DataW H × List MemPlace} (ht : P.underlying t = some (.slice e)) (hK : P.cellsOf e = K) (hK0 : 0 < K) (h : DataW.trod enc P w base sp held fuel t [v] = some x) :
  ∃ (A : Option Addr) (n c : Nat) (cs : List (List Value)), v = .slice A n c ∧ n ≤ c ∧ c ≤ maxLen ∧ cs.length = n ∧ Row w (fun k => k < w.heap.size) A (n * K) cs.flatten ∧
   ∀ x ∈ cs, x.length = K ∧ ∃ m y, m < fuel ∧ DataW.trod enc P w base sp held m e x = some y := by
 rcases DataW.trod_slice ht h with ⟨hcs, _⟩ | ⟨a, len, cap, elems, rest, n, hfuel, hcs, _, hb, hl, hm, hlen, hel, _, _⟩
 ·simp at hcs
  exact ⟨none, 0, 0, [], hcs, qr _, Nat.zero_le _, rfl, by simpa using Row.nil_, fun x hx => by cases hx⟩
 ·simp at hcs
  subst hcs hK
  have key : ∀ i, i < len → ∃ cs', w.cells? base (a.add (i * P.cellsOf e)) (P.cellsOf e) = some cs' ∧ ∃ y, DataW.trod enc P w base sp held n e cs' = some y := fun i hi => by
   have h1 := hel i hi
   rw [List.getElem?_eq_getElem (by omega)] at h1
   obtain ⟨cs', h2, h3⟩ := Option.bind_eq_some_iff.1 h1
   exact ⟨cs', h2, _, h3⟩
  have hget : ∀ j, j < len → ((List.range len).map fun i => (w.cells? base (a.add (i * P.cellsOf e)) (P.cellsOf e)).getD [])[j]? = some ((w.cells? base (a.add (j * P.cellsOf e)) (P.cellsOf e)).getD []) := fun j hj => by
   rw [List.getElem?_map, List.getElem?_range hj]; rfl
  have hmem : ∀ x ∈ (List.range len).map fun i => (w.cells? base (a.add (i * P.cellsOf e)) (P.cellsOf e)).getD [], x.length = P.cellsOf e ∧ ∃ m y, m < fuel ∧ DataW.trod enc P w base sp held m e x = some y := by
   intro x hx
   obtain ⟨i, hi, rfl⟩ := List.mem_map.1 hx
   rw [List.mem_range] at hi
   obtain ⟨cs', h1, y, h2⟩ := key i hi
   rw [h1]
   exact ⟨(World.cells?_some h1).2.1, n, y, by omega, h2⟩
  refine ⟨some a, len, cap, (List.range len).map fun i => (w.cells? base (a.add (i * P.cellsOf e)) (P.cellsOf e)).getD [], rfl, hl, hm, by simp, ?_, hmem⟩
  refine row_of_cells (by rw [flatK_len fun x hx => (hmem x hx).1]; simp) fun p hp => ?_
  obtain ⟨i, r, hr, rfl⟩ : ∃ i r, r < P.cellsOf e ∧ p = i * P.cellsOf e + r := ⟨p / P.cellsOf e, p % P.cellsOf e, Nat.mod_lt _ hK0, by rw [Nat.mul_comm]; exact (Nat.div_add_mod p _).symm⟩
  have hi : i < len := by
   apply Classical.byContradiction
   intro hni
   have : len * P.cellsOf e ≤ i * P.cellsOf e := Nat.mul_le_mul_right _ (by omega)
   omega
  rw [flatK (fun x hx => (hmem x hx).1) (hget i hi) r hr]
  obtain ⟨cs', h1, _⟩ := key i hi
  rw [h1, ← Go.Deep.add_add]
  exact (World.cells?_some h1).2.2 r hr
end
section
variable {H : Type} {enc : TypeId × Value → H} {w : World} {base : Nat} {sp : Nat → Bool} {held : Bool}
theorem bs_list (s : ByteArray) : s = ⟨s.data.toList.toArray⟩ := by obtain ⟨⟨l⟩⟩ := s; rfl
set_option maxRecDepth 100000 in
theorem need_cells : ∀ (fuel : Nat) (cs : List Value) (x : DataW H × List MemPlace), DataW.trod enc Tryz.prog w base sp held fuel 40 cs = some x →
  ∃ y, RNd w (fun k => k < w.heap.size) cs y := by
 intro fuel
 induction fuel using Nat.strongRecOn with
 | _ fuel ih =>
  intro cs x h
  have hT := Tryz.underlying40
  obtain ⟨xs, n, hfu, _, hlen, hxl, hx⟩ := DataW.trod_struct hT h
  have hl : cs.length = 10 := by rw [hlen]; kernel_rfl
  obtain ⟨c0, n0, y0, e0, k0⟩ := field_cell hT h 0 rfl (by kernel_rfl) (of_decide_eq_true (by kernel_rfl))
  obtain ⟨c7, n7, y7, e7, k7⟩ := field_cell hT h 2 rfl (by kernel_rfl) (of_decide_eq_true (by kernel_rfl))
  obtain ⟨c8, n8, y8, e8, k8⟩ := field_cell hT h 3 rfl (by kernel_rfl) (of_decide_eq_true (by kernel_rfl))
  have h1 := hx 1 _ rfl
  have h4 := hx 4 _ rfl
  have hxs : xs.length = 5 := hxl
  rw [List.getElem?_eq_getElem (by omega)] at h1 h4
  obtain ⟨k, rfl, _⟩ := int_oneA Tryz.underlying3 k0
  obtain ⟨f, rfl, hf⟩ := str_one Tryz.underlying9 k7
  obtain ⟨no, rfl⟩ := bool_one_ Tryz.underlying4 k8
  obtain ⟨s, g, op, ver, slot, on, ea, hs, hg, _, _, _⟩ := atom_cells h1
  match cs, hl with
  | [d0, d1, d2, d3, d4, d5, d6, d7, d8, d9], _ =>
   have h4' : DataW.trod enc Tryz.prog w base sp held n 38 [d9] = some xs[4] := h4
   obtain ⟨A, m, c, rows, rfl, hnc, hc, hrl, hrow, hit⟩ := slice_items Tryz.underlying38 (K := 10) (by kernel_rfl) (by decide) h4'
   have e0' : d0 = .int .i64 k := by simpa using e0
   have e7' : d7 = .string f := by simpa using e7
   have e8' : d8 = .bool no := by simpa using e8
   have ea' : [d1, d2, d3, d4, d5, d6] = [.string s, .int .i64 op, .int .i64 ver, .int .i64 slot, .string g, .bool on] := ea
   simp only [List.cons.injEq, and_true] at ea'
   obtain ⟨rfl, rfl, rfl, rfl, rfl, rfl⟩ := ea'
   subst e0' e7' e8'
   have hkid : ∀ x ∈ rows, ∃ y, RNd w (fun k => k < w.heap.size) x y := fun x hx => by
    obtain ⟨_, m, y, hm, hy⟩ := hit x hx
    exact ih m (by omega) x y hy
   obtain ⟨ks, hkl, hks⟩ : ∃ ks : List Nd, ks.length = rows.length ∧ ∀ (j : Nat) (x : List Value) (y : Nd), rows[j]? = some x → ks[j]? = some y → RNd w (fun k => k < w.heap.size) x y := by
    clear hrow hit hrl
    induction rows with
    | nil => exact ⟨[], rfl, fun j x y h => by simp at h⟩
    | cons r rs ihr =>
     obtain ⟨y, hy⟩ := hkid r (List.mem_cons_self ..)
     obtain ⟨ks, h1, h2⟩ := ihr fun x hx => hkid x (List.mem_cons_of_mem _ hx)
     refine ⟨y :: ks, by simp [h1], fun j x' y' h3 h4 => ?_⟩
     cases j with
     | zero =>
      simp only [List.getElem?_cons_zero, Option.some.injEq] at h3 h4
      subst h3 h4; exact hy
     | succ j => rw [List.getElem?_cons_succ] at h3 h4; exact h2 j x' y' h3 h4
   refine ⟨.mk k ⟨s.data.toList, op, ver, slot, g.data.toList, on⟩ f.data.toList no ks, ?_⟩
   have hr := RNd.shut (w := w) (S := fun k => k < w.heap.size) (k := k) (a := ⟨s.data.toList, op, ver, slot, g.data.toList, on⟩) (f := f.data.toList) (no := no) (ks := ks) hnc hc (by rw [← Lib.size_eq]; exact hs) (by rw [← Lib.size_eq]; exact hg) (by rw [← Lib.size_eq]; exact hf) ⟨rows, by omega, hrl, hrow, hks⟩
   unfold ndRow at hr
   simp only [] at hr
   rw [← bs_list, ← bs_list, ← bs_list] at hr
   exact hr
end
end
end Go.Proofs.YtpipgffbhpnmkaaGreatDoor
