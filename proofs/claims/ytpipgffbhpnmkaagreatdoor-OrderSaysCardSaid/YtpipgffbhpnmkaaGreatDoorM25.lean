/- Parts of the proof: walks and plain laws, side by side. -/
import Derived.Test.YtpipgffbhpnmkaaGreatDoorM14
import Derived.Test.YtpipgffbhpnmkaaGreatDoorM11
import Derived.Deep.QuietTactic
import Derived.BigQuiet
import Derived.IntWalk
import Derived.Test.YtpipgffbhpnmkaaGreatDoorM15
import Derived.Test.YtpipgffbhpnmkaaGreatDoorM1
import Derived.Maps.RangeWalk
import Derived.Maps.OwnSet
import Derived.Test.YtpipgffbhpnmkaaGreatDoorProg
import Derived.Test.YtpipgffbhpnmkaaGreatDoorM3
import Derived.Deep.LoopGhost
import Derived.Deep.Cut
import Derived.Laws.EntriesVeiled
set_option linter.unusedVariables false
set_option linter.unusedSimpArgs false
set_option linter.unusedSectionVars false
namespace Go.Proofs.YtpipgffbhpnmkaaGreatDoor
/- quartermasterref.CheckSet, walked. -/
section
open Go.RowKit Qm

set_option maxRecDepth 100000 in
set_option maxHeartbeats 3200000 in
theorem rcset_any (ps : List Pk) (l : List Mem) (S : Nat → Prop) (A B : Option Addr) (n c k d : Nat) (w : World) (hT : RTree w S A n ps) (hn8 : n ≤ 8) (hnc : n ≤ c) (hc : c ≤ maxLen) (hL : RSet w S B k l) (hk : k ≤ maxLen) (hS : ∀ k, S k → k < w.heap.size) :
  Calls Tryz.prog 22 #[.agg #[.slice A n c], .slice B k d] w fun e w' => e = .returned (.int .i64 (ckMs ps none l)) ∧ Below w.heap.size w w' := by
 have Hpl := qh hT.len
 have Hll := qh hL.len
 have X2 := qh (Tx.new w A n c)
 have HT := qh hT; have HS := qh hS; have HL := qh hL; clear hT hS hL
 obtain ⟨R, hR⟩ : ∃ R, R = ckMs ps none l := ⟨_, rfl⟩
 rw [← hR]
 have HK1 := qh hR
 clear hR
 unfold maxLen at hc hk
 go_enter Tryz.func22, Tryz.ntmps22
 go_wp2
 go_loopg [5, 10] k (fun g lv iv wr => ∃ (j : Nat) (la : Int), Hid (j + g = k) ∧ iv = .int .i64 j ∧ lv = .int .i64 la ∧ Hid (∀ q, prevOf (l.map Mem.pl) j = some q → la = q) ∧ Hid (ckMs ps none l = ckMs ps (prevOf (l.map Mem.pl) j) (l.drop j)) ∧ Hid (Tx w A n c wr))
 case atStart => exact ⟨0, -1, qh (Nat.zero_add _), rfl, rfl, qh (fun q h => by rw [prevOf_zero] at h; cases h), qh rfl, X2⟩
 case round =>
  obtain ⟨j, la, Hj, rfl, rfl, Hla, Hcl, XR⟩ := hrel
  clear X2
  by_cases hj : j < k
  ·obtain ⟨b, o, m, E, q, r, rfl, hbS, hm, hqr, hr, hon, g0, g1⟩ := (HL.out.under XR.out.below HS.out).at_ hj
   have Hst := qh (ckMs_step (ps := ps) hm)
   have HMj : Hid (∀ i : Nat, j = i + 1 → ∃ m', l[i]? = some m') := qh fun i hi => ⟨_, List.getElem?_eq_getElem (by have := Hll.out; omega)⟩
   have Hol := qh hon.len
   have hbl : b < wr.heap.size := ql (HS.out _ hbS) XR.out.below.size
   have X3 := qh (XR.out.move ((Below.refl _ wr).alloc (qr _) (.cells #[.int .i64 m.pl, .slice E q r] 33)))
   have Hmj : Hid (prevOf (l.map Mem.pl) (j + 1) = some m.pl) := qh (prevOf_succ (by rw [List.getElem?_map, hm]; rfl))
   obtain ⟨pl, on⟩ := m
   dsimp only at g0 g1 Hst Hol X3 Hmj
   clear hm hon
   have t0 := XR.out.whole.cell 0
   simp only [List.getElem?_cons_zero] at t0
   have tlt := XR.out.whole.lt
   by_cases hneg : pl < 0
   ·have HE : Hid (ckMs ps (prevOf (l.map Mem.pl) j) (l.drop j) = 5) := qh (by rw [Hst.out, if_pos (.inl hneg)])
    have hneg' : decide (pl < 0) = true := decide_eq_true hneg
    go_wp2
    go_ret
    exact ⟨ret_int (by rw [HK1.out, Hcl.out, HE.out]), X3.out.below⟩
   have hneg' : decide (pl < 0) = false := decide_eq_false hneg
   by_cases hpn : (n : Int) ≤ pl
   ·
    have HE : Hid (ckMs ps (prevOf (l.map Mem.pl) j) (l.drop j) = 5) := qh (by rw [Hst.out, if_pos (.inr (by rw [Hpl.out]; exact hpn))])
    have hpn' : decide ((n : Int) ≤ pl) = true := decide_eq_true hpn
    go_wp2
    go_ret
    exact ⟨ret_int (by rw [HK1.out, Hcl.out, HE.out]), X3.out.below⟩
   obtain ⟨y, rfl⟩ : ∃ y : Nat, pl = y := ⟨pl.toNat, by omega⟩
   have hyn : y < n := by omega
   obtain ⟨b2, o2, p, D, fn, fc, kd, pa, f, no, F, fq, fd, rfl, hbS2, hp, hP, hcell⟩ := (HT.out.under XR.out.below HS.out).at_ hyn
   have h3 := hcell 3 (by omega)
   unfold pkRow ndRow at h3
   simp only [qgz, qgs] at h3
   have Hfl : Hid ((pkOf ps (y : Int)).fs.length = fn) := qh (by unfold pkOf; rw [Int.toNat_natCast, List.getD_eq_getElem?_getD, hp]; exact hP.fs.len)
   have hbl2 : b2 < wr.heap.size := ql (HS.out _ hbS2) XR.out.below.size
   clear hcell hp hP
   have HSt2 : Hid (ckMs ps (prevOf (l.map Mem.pl) j) (l.drop j) = if badPl (prevOf (l.map Mem.pl) j) (y : Int) = true then 6 else if q ≠ fn then 4 else ckMs ps (prevOf (l.map Mem.pl) (j + 1)) (l.drop (j + 1))) := qh (by
    rw [Hst.out, if_neg (by have := Hpl.out; omega), Hfl.out, Hol.out])
   clear Hst
   have hy0 : (0 : Int) ≤ (y : Int) := by omega
   have hy1 : (y : Int) < n := by omega
   rcases j with _ | i
   ·have HX : Hid (ckMs ps (prevOf (l.map Mem.pl) 0) (l.drop 0) = if q ≠ fn then 4 else ckMs ps (prevOf (l.map Mem.pl) (0 + 1)) (l.drop (0 + 1))) := qh (by rw [HSt2.out, if_neg (by rw [prevOf_zero]; simp [badPl])])
    simp only [Nat.zero_mul, Nat.add_zero] at g0 g1
    by_cases hq : q = fn
    ·have HE : Hid (ckMs ps (prevOf (l.map Mem.pl) 0) (l.drop 0) = ckMs ps (prevOf (l.map Mem.pl) (0 + 1)) (l.drop (0 + 1))) := qh (by rw [HX.out, if_neg (by simpa using hq)])
     subst hq
     go_wp2
     go_quiet (fail)
     go_wp2
     go_roundg (gk - 1)
     case measure => have := Hj.out; omega
     case rel => exact ⟨0 + 1, y, qh (by have := Hj.out; omega), by go_num, rfl, qh (fun q h => by rw [Hmj.out] at h; exact Option.some.inj h), qh (by rw [Hcl.out, HE.out]), qh (X3.out.drew _)⟩
    ·have HE : Hid (ckMs ps (prevOf (l.map Mem.pl) 0) (l.drop 0) = 4) := qh (by rw [HX.out, if_pos hq])
     have hq' : ((q : Int) != (fn : Int)) = true := by simp; omega
     go_wp2
     go_quiet (fail)
     go_wp2
     go_ret
     exact ⟨ret_int (by rw [HK1.out, Hcl.out, HE.out]), below_drewN X3.out.below _⟩
   ·obtain ⟨b', o', m', E', q', r', e, _, hm', _, _, _, k0, _⟩ := (HL.out.under XR.out.below HS.out).at_ (j := i) (by omega)
    injection e with e; injection e with e1 e2; subst e1 e2
    have Hpr : Hid (prevOf (l.map Mem.pl) (i + 1) = some m'.pl) := qh (prevOf_succ (by rw [List.getElem?_map, hm']; rfl))
    have HSt3 : Hid (ckMs ps (prevOf (l.map Mem.pl) (i + 1)) (l.drop (i + 1)) = if badPl (some m'.pl) (y : Int) = true then 6 else if q ≠ fn then 4 else ckMs ps (prevOf (l.map Mem.pl) (i + 1 + 1)) (l.drop (i + 1 + 1))) := qh (by rw [HSt2.out, Hpr.out])
    have hla : m'.pl = la := (Hla.out _ Hpr.out).symm
    rw [hla] at HSt3
    clear hm' HSt2 hla k0
    have hwr : IntKind.i64.wrap ((i : Int) + 1 - 1) = (i : Int) := by rw [IntKind.wrap_i64]; omega
    have hwr0 : IntKind.i64.wrap (i : Int) = (i : Int) := by rw [IntKind.wrap_i64]; omega
    have hin : i < k := by omega
    have hin2 : (i : Int) < k := by omega
    have hin3 : (0 : Int) < (i : Int) + 1 := by omega
    by_cases hb : (y : Int) ≤ la
    ·have HE : Hid (ckMs ps (prevOf (l.map Mem.pl) (i + 1)) (l.drop (i + 1)) = 6) := qh (by rw [HSt3.out, if_pos (by simpa [badPl] using hb)])
     have hb' : decide ((y : Int) ≤ la) = true := decide_eq_true hb
     go_wp2
     go_ret
     exact ⟨ret_int (by rw [HK1.out, Hcl.out, HE.out]), X3.out.below⟩
    ·have HX : Hid (ckMs ps (prevOf (l.map Mem.pl) (i + 1)) (l.drop (i + 1)) = if q ≠ fn then 4 else ckMs ps (prevOf (l.map Mem.pl) (i + 1 + 1)) (l.drop (i + 1 + 1))) := qh (by rw [HSt3.out, if_neg (by simpa [badPl] using hb)])
     have hb' : decide ((y : Int) ≤ la) = false := decide_eq_false hb
     by_cases hq : q = fn
     ·have HE : Hid (ckMs ps (prevOf (l.map Mem.pl) (i + 1)) (l.drop (i + 1)) = ckMs ps (prevOf (l.map Mem.pl) ((i + 1) + 1)) (l.drop ((i + 1) + 1))) := qh (by rw [HX.out, if_neg (by simpa using hq)])
      subst hq
      go_wp2
      go_quiet (fail)
      go_wp2
      go_roundg (gk - 1)
      case measure => have := Hj.out; omega
      case rel => exact ⟨(i + 1) + 1, y, qh (by have := Hj.out; omega), by go_num, rfl, qh (fun q h => by rw [Hmj.out] at h; exact Option.some.inj h), qh (by rw [Hcl.out, HE.out]), qh (X3.out.drew _)⟩
     ·have HE : Hid (ckMs ps (prevOf (l.map Mem.pl) (i + 1)) (l.drop (i + 1)) = 4) := qh (by rw [HX.out, if_pos hq])
      have hq' : ((q : Int) != (fn : Int)) = true := by simp; omega
      go_wp2
      go_quiet (fail)
      go_wp2
      go_ret
      exact ⟨ret_int (by rw [HK1.out, Hcl.out, HE.out]), below_drewN X3.out.below _⟩
  ·obtain rfl : k = j := by have := Hj.out; omega
   go_wp2
   go_ret
   exact ⟨ret_int (by rw [HK1.out, Hcl.out, ckMs_done (by have := Hll.out; omega)]), XR.out.below⟩
end
/- What a plan is where nothing is there, nothing is wanted, or all is there already. No program in sight. -/
section
open Qm

end
/- What comes first in a plan. No program in sight. -/
section
open Qm

structure FirstOk (ps : List Pk) (there l : List Mem) (ks : List Nat) (f : Nat → Nat) : Prop where
 eq : planN ps there l = ks.map (fun k => (k, f k))
 nd : ks.Nodup
 mem : ∀ k, k ∈ ks ↔ k < l.length ∧ oldB there l k = false
 ahead : ∀ (i j a b : Nat), ks[i]? = some a → ks[j]? = some b → i < j → leanB ps l a b = true → f b = f a ∧ f a ≠ 0
 two : ∀ a ∈ ks, f a ≠ 0 → ∃ b ∈ ks, b ≠ a ∧ f b = f a
structure Seen (az : List Ac) (k : Nat) (at_ cy sz : Int → Option Int) : Prop where
 a1 : ∀ x y, at_ x = some y → ∃ (j : Nat) (a : Ac), j < k ∧ az[j]? = some a ∧ a.out = false ∧ a.m.pl = x ∧ y = j
 a2 : ∀ (j : Nat) (a : Ac), j < k → az[j]? = some a → a.out = false → at_ a.m.pl = some (j : Int) ∧ cy a.m.pl = some a.cyc
 c1 : ∀ x, at_ x = none → cy x = none
 z1 : ∀ c, sz c = none ∨ 0 < c
 z3 : ∀ c n, sz c = some n → 1 ≤ n
 z2 : ∀ c, 0 < c → (sz c).getD 0 = (((az.take k).filter fun a => !a.out && a.cyc == c).length : Int)
end
/- What a plan makes of what is there; who leans on something. No program in sight. -/
section
open Qm

/-! ### what a plan makes -/
structure ActsOk (ps : List Pk) (there l : List Mem) (az : List Ac) : Prop where
 outs : ∀ (i : Nat) (a : Ac), az[i]? = some a → a.out = true → a.m ∈ there ∧ a.cyc = 0 ∧ (∀ o ∈ l, keyOfM ps o ≠ keyOfM ps a.m) ∧ ∀ (j : Nat) (b : Ac), j < i → az[j]? = some b → b.out = true ∧ b.m ≠ a.m
 ins : ∀ (i : Nat) (a : Ac), az[i]? = some a → a.out = false → a.m ∈ l ∧ a.m ∉ there ∧ ∀ (j : Nat) (b : Ac), j < i → az[j]? = some b → b.out = false → b.m ≠ a.m
 all : ∀ m ∈ l, m ∉ there → ∃ a ∈ az, a.out = false ∧ a.m = m
 go : ∀ m ∈ there, (∀ o ∈ l, keyOfM ps o ≠ keyOfM ps m) → ∃ a ∈ az, a.out = true ∧ a.m = m
structure Made (ps : List Pk) (there : List Mem) (az : List Ac) (i : Nat) (E : List Mem) : Prop where
 nd : (E.map (keyOfM ps)).Nodup
 mem : ∀ x, x ∈ E ↔ (∃ a ∈ az.take i, a.out = false ∧ a.m = x) ∨ (x ∈ there ∧ (∀ a ∈ az.take i, a.out = true → a.m ≠ x) ∧ ∀ a ∈ az.take i, a.out = false → keyOfM ps a.m ≠ keyOfM ps x)
end
/- A plan as the document makes it: what is new, one after the other. No program in sight. -/
section
open Qm

def freshO (n : Nat) (done : Nat → Bool) : List Nat := (List.range n).filter fun k => !done k
theorem mem_freshO {n : Nat} {done : Nat → Bool} {k : Nat} : k ∈ freshO n done ↔ k < n ∧ done k = false := by
 unfold freshO; rw [List.mem_filter, List.mem_range]; simp
theorem freshO_nodup {n : Nat} {done : Nat → Bool} : (freshO n done).Nodup := by unfold freshO; exact List.nodup_range.filter _
def notYet (r : Nat → Nat → Bool) (fr : List Nat) (i : Nat) : Bool := fr.any fun k => r i k && !r k i
theorem find_congr {α : Type} {p q : α → Bool} : ∀ {l : List α}, (∀ x ∈ l, p x = q x) → l.find? p = l.find? q
 | [], _ => rfl
 | x :: r, h => by
  rw [List.find?_cons, List.find?_cons, h x (List.mem_cons_self ..), find_congr fun y hy => h y (List.mem_cons_of_mem _ hy)]
theorem pick_fresh {r : Nat → Nat → Bool} {n : Nat} {done : Nat → Bool} : pickO r n done = (freshO n done).find? fun i => !notYet r (freshO n done) i := by
 unfold pickO
 have : (freshO n done).find? (fun i => !notYet r (freshO n done) i) = (List.range n).find? fun i => !done i && !notYet r (freshO n done) i := by
  conv => lhs; unfold freshO
  rw [List.find?_filter]
  refine find_congr fun i _ => ?_
  rw [Bool.decide_and]; simp [freshO]
 rw [this]
 refine find_congr fun i _ => ?_
 congr 1
 rw [Bool.eq_iff_iff, readyB_iff, Bool.not_eq_true']
 unfold notYet
 rw [List.any_eq_false]
 constructor
 ·intro h k hk
  obtain ⟨g1, g2⟩ := mem_freshO.1 hk
  cases h1 : r i k
  ·simp
  ·cases h2 : r k i
   ·rw [h k g1 h1 h2] at g2; cases g2
   ·simp
 ·intro h k hk h1 h2
  cases hd : done k
  ·have := h k (mem_freshO.2 ⟨hk, hd⟩)
   rw [h1, h2] at this; simp at this
  ·rfl
theorem freshO_erase {n : Nat} {done : Nat → Bool} {i at_ : Nat} (h : (freshO n done)[at_]? = some i) : freshO n (fun k => decide (k = i) || done k) = (freshO n done).eraseIdx at_ := by
 have e1 : freshO n (fun k => decide (k = i) || done k) = (freshO n done).filter fun k => decide (k ≠ i) := by
  unfold freshO
  rw [List.filter_filter]
  refine List.filter_congr fun k _ => ?_
  by_cases e : k = i <;> simp [e]
 rw [e1]
 have hn := freshO_nodup (n := n) (done := done)
 revert h hn
 generalize freshO n done = l
 induction l generalizing at_ with
 | nil => intro h _; cases h
 | cons x r ih =>
  intro h hn
  rw [List.nodup_cons] at hn
  cases at_ with
  | zero =>
   simp only [List.getElem?_cons_zero, Option.some.injEq] at h
   subst h
   rw [List.filter_cons, if_neg (by simp), List.eraseIdx_cons_zero]
   exact List.filter_eq_self.2 fun y hy => decide_eq_true fun e => hn.1 (by rw [← e]; exact hy)
  | succ a =>
   rw [List.getElem?_cons_succ] at h
   have hx : x ≠ i := fun e => hn.1 (by rw [e]; exact List.mem_of_getElem? h)
   rw [List.filter_cons, if_pos (by simpa using hx), List.eraseIdx_cons_succ, ih h hn.2]
def ringL (r : Nat → Nat → Bool) (n : Nat) (old : Nat → Bool) (i : Nat) : List Nat := (freshO n old).filter fun k => decide (k ≠ i) && (r i k && r k i)
theorem mem_ringL {r : Nat → Nat → Bool} {n : Nat} {old : Nat → Bool} {i k : Nat} : k ∈ ringL r n old i ↔ (k < n ∧ old k = false) ∧ k ≠ i ∧ r i k = true ∧ r k i = true := by
 unfold ringL; rw [List.mem_filter, mem_freshO]; simp
theorem ringL_nil {r : Nat → Nat → Bool} {n : Nat} {old : Nat → Bool} {i : Nat} : ringL r n old i = [] ↔ loopsB r n old i = false := by
 constructor
 ·intro e
  cases h : loopsB r n old i
  ·rfl
  ·obtain ⟨k, h1, h2, h3, h4, h5⟩ := loopsB_iff.1 h
   have := mem_ringL.2 ⟨⟨h1, h3⟩, h2, h4, h5⟩
   rw [e] at this; cases this
 ·intro h
  cases e : ringL r n old i with
  | nil => rfl
  | cons k l =>
   have : k ∈ ringL r n old i := by rw [e]; exact List.mem_cons_self ..
   obtain ⟨⟨g1, g2⟩, g3, g4, g5⟩ := mem_ringL.1 this
   rw [loopsB_iff.2 ⟨k, g1, g3, g2, g4, g5⟩] at h; cases h
def NumOk (n : Nat) (old : Nat → Bool) (s : PSt) (K : Int → Option Int) : Prop := ∀ k, k < n → old k = false → (K k).getD 0 = (s.num k : Int)
theorem NumOk.same {r : Nat → Nat → Bool} {n : Nat} {old : Nat → Bool} {s : PSt} {K : Int → Option Int} {i : Nat} (h : NumOk n old s K) (hno : ¬ (s.num i = 0 ∧ loopsB r n old i = true)) : NumOk n old (stepP r n old s i) K ∧ (stepP r n old s i).cyc = s.cyc := by
 unfold stepP; rw [if_neg hno]; exact ⟨h, rfl⟩
theorem NumOk.ring {r : Nat → Nat → Bool} {n : Nat} {old : Nat → Bool} {s : PSt} {K K' : Int → Option Int} {i : Nat} (h : NumOk n old s K) (hyes : s.num i = 0 ∧ loopsB r n old i = true)
  (hK : ∀ x : Nat, K' x = if x ∈ ringL r n old i ∨ x = i then some ((s.cyc : Int) + 1) else K x) : NumOk n old (stepP r n old s i) K' ∧ (stepP r n old s i).cyc = s.cyc + 1 := by
 unfold stepP; rw [if_pos hyes]
 refine ⟨fun k hk ho => ?_, rfl⟩
 show (K' k).getD 0 = ((if ringB r i k = true then s.cyc + 1 else s.num k : Nat) : Int)
 rw [hK]
 by_cases hr : ringB r i k = true
 ·rw [if_pos hr, if_pos]
  ·rfl
  ·rcases ringB_iff.1 hr with e | ⟨g1, g2⟩
   ·exact .inr e
   ·by_cases e : k = i
    ·exact .inr e
    ·exact .inl (mem_ringL.2 ⟨⟨hk, ho⟩, e, g1, g2⟩)
 ·rw [if_neg hr, if_neg]
  ·exact h k hk ho
  ·rintro (g | e)
   ·obtain ⟨_, _, g1, g2⟩ := mem_ringL.1 g
    exact hr (ringB_iff.2 (.inr ⟨g1, g2⟩))
   ·exact hr (ringB_iff.2 (.inl e))
theorem NumOk.zero {n : Nat} {old : Nat → Bool} : NumOk n old ⟨old, fun _ => 0, 0⟩ fun _ => none := fun _ _ _ => rfl
theorem planGo_end {r : Nat → Nat → Bool} {n : Nat} {old : Nat → Bool} {g : Nat} {s : PSt} (h : freshO n s.done = []) : planGo r n old g s = [] := by
 cases g with
 | zero => rfl
 | succ g =>
  rw [planGo, pick_fresh, h]; rfl
theorem planGo_next {r : Nat → Nat → Bool} {n : Nat} {old : Nat → Bool} {g : Nat} {s : PSt} {i : Nat} (h : pickO r n s.done = some i) : planGo r n old (g + 1) s = (i, (stepP r n old s i).num i) :: planGo r n old g (stepP r n old s i) := by
 rw [planGo, h]
theorem pick_has {r : Nat → Nat → Bool} {n : Nat} {done : Nat → Bool} (ht : ∀ a b c, r a b = true → r b c = true → r a c = true) (h : freshO n done ≠ []) : ∃ i, pickO r n done = some i := by
 cases hp : pickO r n done with
 | some i => exact ⟨i, rfl⟩
 | none =>
  have := pickO_none ht hp
  cases e : freshO n done with
  | nil => exact absurd e h
  | cons k l =>
   have hk : k ∈ freshO n done := by rw [e]; exact List.mem_cons_self ..
   obtain ⟨g1, g2⟩ := mem_freshO.1 hk
   rw [this k g1] at g2; cases g2

/-! ### whether one comes to another one: by what was met -/
structure Met (e : Nat → Nat → Bool) (b : Nat) (S S' : Nat → Bool) : Prop where
 up : ∀ k, S k = true → S' k = true
 shut : ∀ k, S' k = true → S k = false → ∀ j, e k j = true → j ≠ b ∧ S' j = true
theorem Met.refl {e : Nat → Nat → Bool} {b : Nat} {S : Nat → Bool} : Met e b S S := ⟨fun _ h => h, fun k h1 h2 => by rw [h1] at h2; cases h2⟩
theorem Met.trans {e : Nat → Nat → Bool} {b : Nat} {S S' S'' : Nat → Bool} (h : Met e b S S') (h2 : Met e b S' S'') : Met e b S S'' := by
 refine ⟨fun k hk => h2.up k (h.up k hk), fun k h3 h4 j hj => ?_⟩
 cases hk : S' k
 ·exact h2.shut k h3 hk j hj
 ·obtain ⟨g1, g2⟩ := h.shut k hk h4 j hj
  exact ⟨g1, h2.up j g2⟩
theorem Met.one {e : Nat → Nat → Bool} {b k : Nat} {S S' : Nat → Bool} (h : Met e b (fun x => x == k || S x) S') (hk : ∀ j, e k j = true → j ≠ b ∧ S' j = true) : Met e b S S' := by
 refine ⟨fun x hx => h.up x (by show (x == k || S x) = true; rw [hx]; simp), fun x h1 h2 j hj => ?_⟩
 by_cases ex : x = k
 ·subst ex; exact hk j hj
 ·exact h.shut x h1 (by show (x == k || S x) = false; rw [h2]; simpa using ex) j hj
theorem comes_no {e : Nat → Nat → Bool} {a b : Nat} {S : Nat → Bool} (h : Met e b (fun _ => false) S) (ha : ∀ j, e a j = true → j ≠ b ∧ S j = true) : ¬ Qm.Comes e a b := fun c =>
 c.shut (K := fun k => S k = true) ha fun i hi j hj => h.shut i hi rfl j hj
end
/-
 A map from ints to bools all of whose entries hold: a set of ints. What the operations on it give.
-/
section
open Go.RowKit

def IntSet (P : Program) (w : World) (b : Nat) (K : Int → Bool) (m : Nat) : Prop :=
 ∃ D : DataW Unit, w.ownsMap P 3 (plainElem P 4) b m D ∧ Maps.size D = m ∧ ∀ x : Int, (Lit.int .i64 x).wf = true → Maps.has D (.int .i64 x) = K x ∧ D.atKey (.int .i64 x) (.lit (.bool false)) = .lit (.bool (K x))

section
variable {P : Program} {w w' : World} {b m : Nat} {K : Int → Bool}
theorem wf_of {x : Int} (h1 : -9223372036854775808 ≤ x) (h2 : x ≤ 9223372036854775807) : (Lit.int .i64 x).wf = true := WalkArith.wf_i64 (by omega)
theorem IntSet.made (P : Program) (w : World) : IntSet P (w.alloc (.map #[] 0)) w.heap.size (fun _ => false) 0 :=
 ⟨.map [], World.ownsMap_made w P 3 _, rfl, fun x _ => ⟨rfl, rfl⟩⟩
theorem IntSet.kept {row : Option Nat} (h : IntSet P w b K m) (hg : w.grownBy w' row) (hne : some b ≠ row) : IntSet P w' b K m := by
 obtain ⟨D, h1, h2⟩ := h
 exact ⟨D, h1.kept hg hne, h2⟩
theorem IntSet.congr {K' : Int → Bool} {m' : Nat} (h : IntSet P w b K m) (hm : m = m') (hK : ∀ x, (Lit.int .i64 x).wf = true → K x = K' x) : IntSet P w b K' m' := by
 subst hm
 obtain ⟨D, h1, h2, h3⟩ := h
 exact ⟨D, h1, h2, fun x hx => by rw [← hK x hx]; exact h3 x hx⟩
theorem IntSet.look (h : IntSet P w b K m) (hk : P.underlying 3 = some (.int .i64)) (he : P.underlying 4 = some .bool) (hz : (zeroValue 4).run P w = .ok (.bool false) w) {t : TypeId} (ht : P.underlying t = some (.map 3 4)) {x : Int} (hx : (Lit.int .i64 x).wf = true) :
  (Instr.lookup t (.map (some b)) (.int .i64 x) false).run P w = .ok (.bool (K x)) w := by
 obtain ⟨D, h1, _, h3⟩ := h
 obtain ⟨v, ps, hrun, hv⟩ := h1.lookup (Maps.int_keyed hk) ht hz (plainElem_bool he false) (Maps.keyOf_int_mk hk hx)
 rw [(h3 x hx).2] at hv
 have : v = .bool (K x) := by
  unfold plainElem at hv
  rw [he] at hv
  cases v <;> simp at hv
  rw [hv.1]
 rw [hrun, this]
theorem IntSet.put (h : IntSet P w b K m) (hk : P.underlying 3 = some (.int .i64)) (he : P.underlying 4 = some .bool) {t : TypeId} (ht : P.underlying t = some (.map 3 4)) {x : Int} (hx : (Lit.int .i64 x).wf = true) (hm : m < maxLen) :
  ∃ w', (Instr.mapUpdate t (.map (some b)) (.int .i64 x) (.bool true)).run P w = .ok () w' ∧ IntSet P w' b (fun y => y == x || K y) (if K x then m else m + 1) ∧ w.grownBy w' (some b) ∧ w'.heap.size = w.heap.size := by
 obtain ⟨D, h1, h2, h3⟩ := h
 have Kd := Maps.int_keyed (P := P) hk
 have hkey := Maps.keyOf_int_mk (P := P) hk hx
 have hkl : WideAt.IsKeyLit (.int .i64 x) := Kd.key hkey
 obtain ⟨w', hrun, h4, h5⟩ := h1.store Kd ht hm hkey (plainElem_bool he true)
 have htd := h1.tidy Kd
 have hsz : Maps.size (D.put (.int .i64 x) (.lit (.bool true))) = if K x then m else m + 1 := by
  rw [Maps.size_put htd, (h3 x hx).1, h2]
 refine ⟨w', hrun, ⟨_, ?_, hsz, fun y hy => ?_⟩, h5.grown, ?_⟩
 ·have e : Maps.size (D.put (.int .i64 x) (.lit (.bool true))) ≤ if K x then m else m + 1 := by rw [hsz]; exact qr _
  obtain ⟨es, clock, hb, F, hs, hD⟩ := h4
  refine ⟨es, clock, hb, F, ?_, hD⟩
  rw [hD] at e
  simpa [Maps.size, length_sorted] using e
 ·by_cases hyx : y = x
  ·subst hyx
   rw [Maps.has_put_same htd.isMap hkl, Maps.atKey_put_same htd.isMap hkl]
   simp
  ·have hne : (Lit.int .i64 y) ≠ .int .i64 x := by intro e; injection e with _ e; exact hyx e
   rw [Maps.has_put_other hne, Maps.atKey_put_other hne]
   have : (y == x) = false := by simpa using hyx
   show _ = (y == x || K y) ∧ _ = DataW.lit (.bool (y == x || K y))
   rw [this, Bool.false_or]
   exact h3 y hy
 ·obtain ⟨es, clock, es', clock', _, rfl⟩ := h5
  simp [ChangeMaps.setBlock]
end
end
/- The document's own Comes, walked: does one come to another one. -/
section
open Go.RowKit Qm

structure Gr (e : Nat → Nat → Bool) (q : Nat) (ls : List (List Int)) : Prop where
 len : ls.length = q
 row : ∀ i, i < q → ∀ x, x ∈ ls.getD i [] ↔ ∃ j : Nat, x = (j : Int) ∧ e i j = true
 lt : ∀ i j, e i j = true → i < q ∧ j < q
 few : ∀ i, (ls.getD i []).length ≤ 100000
 q1 : q ≤ 100000
def setK (K : Nat → Bool) (q : Nat) (x : Int) : Bool := (List.range q).any fun k => x == (k : Int) && K k
theorem setK_at {K : Nat → Bool} {q k : Nat} (hk : k < q) : setK K q (k : Int) = K k := by
 unfold setK
 rw [Bool.eq_iff_iff, List.any_eq_true]
 constructor
 ·rintro ⟨j, hj, h⟩
  rw [Bool.and_eq_true, beq_iff_eq] at h
  obtain rfl : k = j := by omega
  exact h.2
 ·intro h
  exact ⟨k, List.mem_range.2 hk, by rw [h]; simp⟩
theorem setK_put {K : Nat → Bool} {q k : Nat} (hk : k < q) (y : Int) : (y == (k : Int) || setK K q y) = setK (fun x => x == k || K x) q y := by
 by_cases h : ∃ j : Nat, j < q ∧ y = (j : Int)
 ·obtain ⟨j, hj, rfl⟩ := h
  rw [setK_at hj, setK_at hj]
  congr 1
  by_cases e : j = k
  ·subst e; simp
  ·rw [beq_eq_false_iff_ne.2 e, beq_eq_false_iff_ne.2 (by omega)]
 ·have hno : ∀ L : Nat → Bool, setK L q y = false := fun L => by
   unfold setK
   rw [List.any_eq_false]
   intro j hj hh
   rw [Bool.and_eq_true, beq_iff_eq] at hh
   exact h ⟨j, List.mem_range.1 hj, hh.1⟩
  rw [hno, hno, Bool.or_false, beq_eq_false_iff_ne]
  rintro rfl
  exact h ⟨k, hk, rfl⟩
def cntS (K : Nat → Bool) (q : Nat) : Nat := ((List.range q).filter K).length
theorem cntS_le {K : Nat → Bool} {q : Nat} : cntS K q ≤ q := by
 unfold cntS; exact Nat.le_trans (List.length_filter_le _ _) (by simp)
theorem cntS_put {K : Nat → Bool} : ∀ {q k : Nat}, k < q → K k = false → cntS (fun x => x == k || K x) q = cntS K q + 1
 | q + 1, k, hk, h => by
  unfold cntS
  rw [List.range_succ, List.filter_append, List.filter_append, List.length_append, List.length_append]
  by_cases e : k = q
  ·subst e
   have h1 : (List.range k).filter (fun x => x == k || K x) = (List.range k).filter K := List.filter_congr fun x hx => by
    have := List.mem_range.1 hx
    rw [beq_eq_false_iff_ne.2 (by omega), Bool.false_or]
   rw [h1]
   simp [h]
  ·have ih := cntS_put (K := K) (q := q) (k := k) (by omega) h
   unfold cntS at ih
   rw [ih]
   have h1 : (q == k || K q) = K q := by rw [beq_eq_false_iff_ne.2 (by omega), Bool.false_or]
   simp only [List.filter_cons, h1, List.filter_nil]
   omega
theorem cntS_zero {q : Nat} : cntS (fun _ => false) q = 0 := by unfold cntS; rw [List.filter_eq_nil_iff.2 (fun _ _ => by simp)]; rfl
theorem cntS_mono {K K' : Nat → Bool} (h : ∀ k, K k = true → K' k = true) : ∀ {q : Nat}, cntS K q ≤ cntS K' q
 | 0 => qr _
 | q + 1 => by
  have ih := cntS_mono h (q := q)
  unfold cntS at ih ⊢
  rw [List.range_succ, List.filter_append, List.filter_append, List.length_append, List.length_append]
  cases hK : K q
  ·simp only [List.filter_cons, hK, List.filter_nil]; simp; omega
  ·simp only [List.filter_cons, hK, h q hK, List.filter_nil]; simp; omega
structure Wk (S : Nat → Prop) (A : Option Addr) (q c ob tb sb fb g b : Nat) (ls : List (List Int)) (wx : World) : Prop where
 o : Whole wx ob 55 [.slice A q c]
 t : Whole wx tb 3 [.int .i64 (b : Int)]
 s : Whole wx sb 120 [.map (some g)]
 f : Whole wx fb 63 [.func (.func 84) #[] #[.pointer (some ⟨ob, 0, none⟩), .pointer (some ⟨tb, 0, none⟩), .pointer (some ⟨sb, 0, none⟩), .pointer (some ⟨fb, 0, none⟩)]]
 rows : RClauses wx S A q ls
 lt : ∀ k, S k → k < wx.heap.size ∧ k ≠ g
 ne : ob ≠ g ∧ tb ≠ g ∧ sb ≠ g ∧ fb ≠ g
theorem Wk.far {S : Nat → Prop} {A : Option Addr} {q c ob tb sb fb g b : Nat} {ls : List (List Int)} {wx wy : World} (h : Wk S A q c ob tb sb fb g b ls wx) (k : Far (fun x => x = g) wx wy) : Wk S A q c ob tb sb fb g b ls wy :=
 ⟨k.whole h.o h.ne.1, k.whole h.t h.ne.2.1, k.whole h.s h.ne.2.2.1, k.whole h.f h.ne.2.2.2, k.clauses h.rows h.lt, fun j hj => ⟨ql (h.lt j hj).1 k.size, (h.lt j hj).2⟩, h.ne⟩
def WkP (e : Nat → Nat → Bool) (q b g i : Nat) (K : Nat → Bool) (wx : World) (en : Ending) (w' : World) : Prop :=
 ∃ (r : Bool) (K' : Nat → Bool), en = .returned (.bool r) ∧ IntSet Tryz.prog w' g (setK K' q) (cntS K' q) ∧ (r = true → Qm.Comes e i b) ∧ (r = false → Met e b K K' ∧ ∀ j, e i j = true → j ≠ b ∧ K' j = true) ∧ Far (fun x => x = g) wx w'
theorem zeroBoolC (w : World) : (zeroValue 4).run Tryz.prog w = .ok (.bool false) w := by kernel_rfl
set_option maxRecDepth 100000 in
set_option maxHeartbeats 6400000 in
theorem rcwalk_any (e : Nat → Nat → Bool) (q b : Nat) (ls : List (List Int)) (S : Nat → Prop) (A : Option Addr) (c ob tb sb fb g : Nat) (G : Gr e q ls) (hb : b < q) : ∀ (u : Nat) (K : Nat → Bool) (i : Nat) (wx : World), cntS K q + u = q → i < q → Wk S A q c ob tb sb fb g b ls wx → IntSet Tryz.prog wx g (setK K q) (cntS K q) →
  Calls Tryz.prog 84 #[.int .i64 (i : Int), .pointer (some ⟨ob, 0, none⟩), .pointer (some ⟨tb, 0, none⟩), .pointer (some ⟨sb, 0, none⟩), .pointer (some ⟨fb, 0, none⟩)] wx (WkP e q b g i K wx) := by
 intro u
 induction u using Nat.strongRecOn with
 | _ u ih =>
 intro K i wx hu hi hW hM
 have IH := qh ih
 have HU := qh hu
 have HW := qh hW; have HM := qh hM; have HG := qh G
 obtain ⟨bo, oo, A', n', c', hA, hSb, hcl, hri, hn', hc'⟩ := hW.rows.at_ hi
 have hlen := hri.len
 have hfew := G.few i
 have hq1 := G.q1
 have hrow := G.row i hi
 have HLT := qh G.lt
 generalize ls.getD i [] = row at hri hlen hfew hrow
 have HRI := qh hri; have HRW := qh hrow
 have HLN := qh hlen
 subst hA
 have hn5 : n' ≤ 100000 := by omega
 have hi1 : (i : Int) < q := by omega
 have hi0 : (0 : Int) ≤ (i : Int) := by omega
 have o0 := hW.o.cell 0
 have olt := hW.o.lt
 simp only [List.getElem?_cons_zero] at o0
 have henter : ∀ (args : Array Value) (W : World), (callFunc 84 args).run Tryz.prog W = .ok (.enter 84 args) W := fun args W => by kernel_rfl
 clear ih hu hW hM hri hrow hlen hfew G hc'
 go_enter Tryz.func84, Tryz.ntmps84
 go_wp2
 clear o0 olt hcl
 go_loopg [14] n' (fun gk iv wr => ∃ (j : Nat) (K1 : Nat → Bool), Hid (j + gk = n') ∧ iv = .int .i64 j ∧ Hid (Met e b K K1 ∧ ∀ x ∈ row.take j, x ≠ (b : Int) ∧ setK K1 q x = true) ∧ Hid (IntSet Tryz.prog wr g (setK K1 q) (cntS K1 q)) ∧ Hid (Far (fun x => x = g) wx wr))
 case atStart => exact ⟨0, K, qh (Nat.zero_add _), rfl, qh ⟨Met.refl, fun x hx => by simp at hx⟩, HM, qh (Far.refl _ _)⟩
 case round =>
  obtain ⟨j, K1, Hj, rfl, HMet, HM1, HF⟩ := hrel
  have HW1 := qh (HW.out.far HF.out)
  by_cases hj : j < n'
  ·obtain ⟨b2, o2, rfl, hb2, hcx⟩ := (HF.out.ints HRI.out HW.out.lt).at_ hj
   have hjl : j < row.length := by have := HLN.out; omega
   have hmx : row.getD j 0 ∈ row := by rw [List.getD_eq_getElem?_getD, List.getElem?_eq_getElem hjl]; exact List.getElem_mem _
   have htk : row.take (j + 1) = row.take j ++ [row.getD j 0] := by rw [List.take_succ_eq_append_getElem hjl, List.getD_eq_getElem?_getD, List.getElem?_eq_getElem hjl]; rfl
   obtain ⟨k, hk, hek⟩ := (HRW.out _).1 hmx
   rw [hk] at hcx htk
   have hkq := (HLT.out _ _ hek).2
   have HEK := qh hek; have HTK := qh htk
   clear hmx hk hek htk hjl
   have t0 := HW1.out.t.cell 0
   have tlt := HW1.out.t.lt
   simp only [List.getElem?_cons_zero] at t0
   have hj1 : (j : Int) < n' := by omega
   have hj0 : (0 : Int) ≤ (j : Int) := by omega
   by_cases hkb : k = b
   ·subst hkb
    go_wp2
    go_ret
    exact (show WkP e q k g i K wx (.returned (.bool true)) wr from ⟨true, K1, rfl, HM1.out, fun _ => .one HEK.out, (fun h => by cases h), HF.out⟩)
   ·have hkb1 : ((k : Int) == (b : Int)) = false := by simpa using (fun e => hkb (by omega) : ¬ (k : Int) = (b : Int))
    have s0 := HW1.out.s.cell 0
    have slt := HW1.out.s.lt
    simp only [List.getElem?_cons_zero] at s0
    have hwk : (Lit.int .i64 (k : Int)).wf = true := wf_of (by omega) (by omega)
    have hlk := HM1.out.look Tryz.underlying3 Tryz.underlying4 (zeroBoolC _) Tryz.underlying120 hwk
    rw [setK_at hkq] at hlk
    have HKB := qh hkb
    obtain ⟨sk, hsk⟩ : ∃ x, K1 k = x := ⟨_, rfl⟩
    rw [hsk] at hlk
    have HSK := qh hsk
    clear hkb hsk
    cases sk
    ·obtain ⟨wP, hput, hset, hgP, hsz⟩ := HM1.out.put Tryz.underlying3 Tryz.underlying4 Tryz.underlying120 hwk (by have := cntS_le (K := K1) (q := q); unfold maxLen; omega)
     rw [setK_at hkq, HSK.out] at hset
     have HM2 : Hid (IntSet Tryz.prog wP g (setK (fun x => x == k || K1 x) q) (cntS (fun x => x == k || K1 x) q)) := qh (hset.congr (cntS_put hkq HSK.out).symm fun x _ => setK_put hkq x)
     have hfP : Far (fun x => x = g) wr wP := Far.of_grown hgP fun x e => by injection e
     have HF2 := qh (HF.out.trans hfP fun _ _ h => h)
     have HW2 := qh (HW1.out.far hfP)
     have hcnt := cntS_put hkq HSK.out
     have hmono := cntS_mono HMet.out.1.up (q := q)
     have hle2 := cntS_le (K := fun x => x == k || K1 x) (q := q)
     have hcall := qh (IH.out (q - cntS (fun x => x == k || K1 x) q) (by have := HU.out; omega) (fun x => x == k || K1 x) k wP (by omega) hkq HW2.out HM2.out)
     have f0 := HW2.out.f.cell 0
     have flt := HW2.out.f.lt
     simp only [List.getElem?_cons_zero] at f0
     clear hset hgP hsz hfP hcnt hmono hle2
     go_wp2_with (first | (go_at_call 84; refine hcall.out.mono ?_; rintro en w3 ⟨r, K3, rfl, hm3, h3t, h3f, hf3⟩; refine Hid.out ?_))
     refine qh ?_
     have HF3 := qh (HF2.out.trans hf3 fun _ _ h => h)
     have HM3 := qh hm3
     have H3T := qh h3t; have H3F := qh h3f
     clear hm3 hf3 h3t h3f
     cases r
     ·have HMet2 : Hid (Met e b K K3 ∧ ∀ x ∈ row.take (j + 1), x ≠ (b : Int) ∧ setK K3 q x = true) := qh (by
       obtain ⟨m1, m2⟩ := H3F.out rfl
       have m3 := Met.one m1 m2
       refine ⟨HMet.out.1.trans m3, fun x hx => ?_⟩
       rw [HTK.out, List.mem_append, List.mem_singleton] at hx
       rcases hx with hx | rfl
       ·obtain ⟨q1, q2⟩ := HMet.out.2 x hx
        refine ⟨q1, ?_⟩
        obtain ⟨y, _, rfl, hey⟩ : ∃ y : Nat, x ∈ row ∧ x = (y : Int) ∧ e i y = true := by
         have hx2 := List.mem_of_mem_take hx
         obtain ⟨y, h1, h2⟩ := (HRW.out x).1 hx2
         exact ⟨y, hx2, h1, h2⟩
        have hyq := (HLT.out _ _ hey).2
        rw [setK_at hyq] at q2 ⊢
        exact m3.up y q2
       ·refine ⟨fun e => HKB.out (by omega), ?_⟩
        rw [setK_at hkq]
        exact m1.up k (by simp))
      go_wp2
      go_roundg (gk - 1)
      case measure => have := Hj.out; omega
      case rel => exact ⟨j + 1, K3, qh (by have := Hj.out; omega), by go_num, HMet2, HM3, HF3⟩
     ·go_wp2
      go_ret
      exact (show WkP e q b g i K wx (.returned (.bool true)) w3 from ⟨true, K3, rfl, HM3.out, fun _ => .more HEK.out (H3T.out trivial), (fun h => by cases h), HF3.out⟩)
    ·have HMet2 : Hid (Met e b K K1 ∧ ∀ x ∈ row.take (j + 1), x ≠ (b : Int) ∧ setK K1 q x = true) := qh (by
      refine ⟨HMet.out.1, fun x hx => ?_⟩
      rw [HTK.out, List.mem_append, List.mem_singleton] at hx
      rcases hx with hx | rfl
      ·exact HMet.out.2 x hx
      ·exact ⟨fun e => HKB.out (by omega), by rw [setK_at hkq]; exact HSK.out⟩)
     go_wp2
     go_roundg (gk - 1)
     case measure => have := Hj.out; omega
     case rel => exact ⟨j + 1, K1, qh (by have := Hj.out; omega), by go_num, HMet2, HM1, HF⟩
  ·have hj1 : ¬ (j : Int) < n' := by omega
   go_wp2
   go_ret
   exact (show WkP e q b g i K wx (.returned (.bool false)) wr from ⟨false, K1, rfl, HM1.out, (fun h => by cases h), fun _ => ⟨HMet.out.1, fun y hy => by
    have hx := (HRW.out (y : Int)).2 ⟨y, rfl, hy⟩
    have hall := HMet.out.2
    rw [List.take_of_length_le (by have := HLN.out; have := Hj.out; omega)] at hall
    obtain ⟨q1, q2⟩ := hall _ hx
    rw [setK_at (HLT.out _ _ hy).2] at q2
    exact ⟨fun e => q1 (by omega), q2⟩⟩, HF.out⟩)
set_option maxRecDepth 100000 in
set_option maxHeartbeats 3200000 in
theorem rcomes_any (e : Nat → Nat → Bool) (q : Nat) (ls : List (List Int)) (S : Nat → Prop) (A : Option Addr) (c a b : Nat) (w : World) (G : Gr e q ls) (ha : a < q) (hb : b < q) (hR : RClauses w S A q ls) (hS : ∀ k, S k → k < w.heap.size) :
  Calls Tryz.prog 62 #[.slice A q c, .int .i64 (a : Int), .int .i64 (b : Int)] w fun en w' => en = .returned (.bool (RB e q a b)) ∧ Below w.heap.size w w' := by
 have hmm := @run_makeMap Tryz.prog
 have HG := qh G; have HR := qh hR; have HS := qh hS
 have henter : ∀ (args : Array Value) (W : World), (callFunc 84 args).run Tryz.prog W = .ok (.enter 84 args) W := fun args W => by kernel_rfl
 clear G hR hS
 go_enter Tryz.func62, Tryz.ntmps62
 go_upto_region 4 with fail
 have z1 := Whole.new w w.heap.size 55 [.slice A q c] rfl
 have z2 := Whole.new (w.alloc (.cells #[.slice A q c] 55)) (w.heap.size + 1) 3 [.int .i64 (b : Int)] (by simp)
 have hwx : ∀ w2 : World, w2 = (w.alloc (.cells #[.slice A q c] 55)).alloc (.cells #[.int .i64 (b : Int)] 3) → w2.heap.size = w.heap.size + 1 + 1 := fun w2 e => by rw [e]; simp
 have hb2 : Below w.heap.size w ((w.alloc (.cells #[.slice A q c] 55)).alloc (.cells #[.int .i64 (b : Int)] 3)) := ((Below.refl _ w).alloc (qr _) _).alloc (by simp) _
 have z1 := z1.alloc (.cells #[.int .i64 (b : Int)] 3)
 obtain ⟨w2, hw2⟩ : ∃ x, x = (w.alloc (.cells #[.slice A q c] 55)).alloc (.cells #[.int .i64 (b : Int)] 3) := ⟨_, rfl⟩
 have hs2 := hwx _ hw2
 rw [← hw2] at z1 z2 hb2 ⊢
 clear hw2 hwx
 have hW4 : ∃ w5, w5 = ((w2.alloc (.map #[] 0)).alloc (.cells #[.map (some (w.heap.size + 1 + 1))] 120)).alloc (.cells #[.func (.func 84) #[] #[.pointer (some ⟨w.heap.size, 0, none⟩), .pointer (some ⟨w.heap.size + 1, 0, none⟩), .pointer (some ⟨w.heap.size + 1 + 1 + 1, 0, none⟩), .pointer (some ⟨w.heap.size + 1 + 1 + 1 + 1, 0, none⟩)]] 63) ∧
   Wk S A q c w.heap.size (w.heap.size + 1) (w.heap.size + 1 + 1 + 1) (w.heap.size + 1 + 1 + 1 + 1) (w.heap.size + 1 + 1) b ls w5 ∧ IntSet Tryz.prog w5 (w.heap.size + 1 + 1) (setK (fun _ => false) q) (cntS (fun _ => false) q) ∧ Below w.heap.size w w5 := by
  refine ⟨_, rfl, ?_, ?_, ?_⟩
  ·have y3 := Whole.new (w2.alloc (.map #[] 0)) (w.heap.size + 1 + 1 + 1) 120 [.map (some (w.heap.size + 1 + 1))] (by simp [hs2])
   have y4 := Whole.new ((w2.alloc (.map #[] 0)).alloc (.cells #[.map (some (w.heap.size + 1 + 1))] 120)) (w.heap.size + 1 + 1 + 1 + 1) 63 [.func (.func 84) #[] #[.pointer (some ⟨w.heap.size, 0, none⟩), .pointer (some ⟨w.heap.size + 1, 0, none⟩), .pointer (some ⟨w.heap.size + 1 + 1 + 1, 0, none⟩), .pointer (some ⟨w.heap.size + 1 + 1 + 1 + 1, 0, none⟩)]] (by simp [hs2])
   have hB5 := ((hb2.alloc (by omega) (.map #[] 0)).alloc (by simp; omega) (.cells #[.map (some (w.heap.size + 1 + 1))] 120)).alloc (by simp; omega) (.cells #[.func (.func 84) #[] #[.pointer (some ⟨w.heap.size, 0, none⟩), .pointer (some ⟨w.heap.size + 1, 0, none⟩), .pointer (some ⟨w.heap.size + 1 + 1 + 1, 0, none⟩), .pointer (some ⟨w.heap.size + 1 + 1 + 1 + 1, 0, none⟩)]] 63)
   exact ⟨((z1.alloc _).alloc _).alloc _, ((z2.alloc _).alloc _).alloc _, y3.alloc _, y4, HR.out.below hB5 HS.out, fun k hk => ⟨ql (HS.out k hk) hB5.size, by have := HS.out k hk; omega⟩, by omega, by omega, by omega, by omega⟩
  ·have h1 := IntSet.made Tryz.prog w2
   rw [hs2] at h1
   have h2 : IntSet Tryz.prog (w2.alloc (.map #[] 0)) (w.heap.size + 1 + 1) (setK (fun _ => false) q) (cntS (fun _ => false) q) := h1.congr cntS_zero.symm fun x _ => by unfold setK; simp
   have hb3 : Below (w2.alloc (.map #[] 0)).heap.size (w2.alloc (.map #[] 0)) _ := ((Below.refl _ (w2.alloc (.map #[] 0))).alloc (qr _) (.cells #[.map (some (w.heap.size + 1 + 1))] 120)).alloc (by simp) (.cells #[.func (.func 84) #[] #[.pointer (some ⟨w.heap.size, 0, none⟩), .pointer (some ⟨w.heap.size + 1, 0, none⟩), .pointer (some ⟨w.heap.size + 1 + 1 + 1, 0, none⟩), .pointer (some ⟨w.heap.size + 1 + 1 + 1 + 1, 0, none⟩)]] 63)
   exact h2.kept (grown_of_below hb3 none) (by simp)
  ·exact ((hb2.alloc (by omega) _).alloc (by simp; omega) _).alloc (by simp; omega) _
 obtain ⟨w5, hw5, hWk, hIS, hB5⟩ := hW4
 rw [← hw5]
 have HC := qh (rcwalk_any e q b ls S A c _ _ _ _ _ HG.out hb q (fun _ => false) a w5 (by rw [cntS_zero]; omega) ha hWk hIS)
 have HB5 := qh hB5
 have f0 := hWk.f.cell 0
 have flt := hWk.f.lt
 simp only [List.getElem?_cons_zero] at f0
 have HN := qh hs2
 clear hw5 hWk hIS hB5 z1 z2 hb2 hs2 hmm
 go_wp2_with (first | (go_at_call 84; refine HC.out.mono ?_; rintro en w3 ⟨r, K3, rfl, hm3, h3t, h3f, hf3⟩; refine Hid.out ?_))
 refine qh ?_
 have HBF := qh (HB5.out.trans (hf3.below (B := w.heap.size) HB5.out.size fun j e => by omega))
 have HRR : Hid (RB e q a b = r) := qh (by
  cases r
  ·obtain ⟨m1, m2⟩ := h3f rfl
   cases hh : RB e q a b
   ·rfl
   ·exact absurd ((RB_iff HG.out.lt).1 hh) (comes_no m1 m2)
  ·exact (RB_iff HG.out.lt).2 (h3t rfl))
 clear hm3 h3t h3f hf3
 go_wp2
 go_ret
 exact ⟨ret_bool HRR.out.symm, HBF.out⟩
end
end Go.Proofs.YtpipgffbhpnmkaaGreatDoor
