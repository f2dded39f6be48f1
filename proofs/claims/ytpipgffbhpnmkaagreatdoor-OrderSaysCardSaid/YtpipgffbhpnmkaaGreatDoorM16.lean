/- Parts of the proof: walks and plain laws, side by side. -/
import Derived.Test.YtpipgffbhpnmkaaGreatDoorM14
import Derived.Test.YtpipgffbhpnmkaaGreatDoorM11
import Derived.Deep.QuietTactic
import Derived.BigQuiet
import Derived.IntWalk
import Derived.Test.YtpipgffbhpnmkaaGreatDoorM15
import Derived.Test.YtpipgffbhpnmkaaGreatDoorM1
set_option linter.unusedVariables false
set_option linter.unusedSimpArgs false
set_option linter.unusedSectionVars false
namespace Go.Proofs.YtpipgffbhpnmkaaGreatDoor
/- tree.CheckSet, walked. -/
section
open Go.RowKit Qm

set_option maxRecDepth 100000 in
set_option maxHeartbeats 3200000 in
theorem cset_any (ps : List Pk) (l : List Mem) (S : Nat → Prop) (A B : Option Addr) (n c k d : Nat) (w : World) (hT : RTree w S A n ps) (hnc : n ≤ c) (hc : c ≤ maxLen) (hL : RSet w S B k l) (hk : k ≤ maxLen) (hS : ∀ k, S k → k < w.heap.size) :
  Calls Tryz.prog 29 #[.agg #[.slice A n c], .slice B k d] w fun e w' => e = .returned (.int .i64 (ckSet ps l)) ∧ Below w.heap.size w w' := by
 have Hpl := qh hT.len
 have Hll := qh hL.len
 have X0 := qh (Tx.new w A n c)
 have HT := qh hT; have HS := qh hS; have HL := qh hL; clear hT hS hL
 have Hck := qh (tCheck_any ps S A n c _ (HT.out.under X0.out.below HS.out) hnc hc (fun k hk => ql (HS.out k hk) X0.out.below.size))
 have HK : Hid (ckSet ps l = if ckTree ps ≠ 0 then ckTree ps else ckMs ps none l) := qh rfl
 generalize ckSet ps l = R at HK ⊢
 generalize hz : ckTree ps = z at Hck HK
 have HZ := qh hz; clear hz
 unfold maxLen at hc hk
 by_cases z0 : z = 0
 ·subst z0
  have HK1 : Hid (R = ckMs ps none l) := qh (by rw [HK.out, if_neg (by simp)])
  have hn8 : n ≤ 8 := by rw [← Hpl.out]; exact ckTree_len HZ.out
  clear HK
  go_enter Tryz.func29, Tryz.ntmps29
  go_wp2_with (first | (go_at_call 63; refine Hck.out.mono ?_; rintro e w2 ⟨rfl, hb2⟩; refine Hid.out ?_))
  refine qh ?_
  have X2 := qh (X0.out.move hb2)
  clear hb2 X0 Hck
  go_wp2
  go_loopg [15] k (fun g iv wr => ∃ j : Nat, Hid (j + g = k) ∧ iv = .int .i64 j ∧ Hid (ckMs ps none l = ckMs ps (prevOf (l.map Mem.pl) j) (l.drop j)) ∧ Hid (Tx w A n c wr))
  case atStart => exact ⟨0, qh (Nat.zero_add _), rfl, qh rfl, X2⟩
  case round =>
   obtain ⟨j, Hj, rfl, Hcl, XR⟩ := hrel
   clear X2
   by_cases hj : j < k
   ·obtain ⟨b, o, m, E, q, r, rfl, hbS, hm, hqr, hr, hon, g0, g1⟩ := (HL.out.under XR.out.below HS.out).at_ hj
    have Hst := qh (ckMs_step (ps := ps) hm)
    have HMj : Hid (∀ i : Nat, j = i + 1 → ∃ m', l[i]? = some m') := qh fun i hi => ⟨_, List.getElem?_eq_getElem (by have := Hll.out; omega)⟩
    have Hol := qh hon.len
    have hbl : b < wr.heap.size := ql (HS.out _ hbS) XR.out.below.size
    have X3 := qh (XR.out.move ((Below.refl _ wr).alloc (qr _) (.cells #[.int .i64 m.pl, .slice E q r] 33)))
    obtain ⟨pl, on⟩ := m
    dsimp only at g0 g1 Hst Hol X3
    clear hm hon
    have t0 := XR.out.whole.cell 0
    simp only [List.getElem?_cons_zero] at t0
    have tlt := XR.out.whole.lt
    by_cases hneg : pl < 0
    ·have HE : Hid (ckMs ps (prevOf (l.map Mem.pl) j) (l.drop j) = 5) := qh (by rw [Hst.out, if_pos (.inl hneg)])
     have hneg' : decide (pl < 0) = true := decide_eq_true hneg
     go_wp2
     go_ret
     exact ⟨ret_int (by rw [HK1.out, Hcl.out, HE.out]), X3.out.below⟩
    have hneg' : decide (pl < 0) = false := decide_eq_false hneg
    by_cases hpn : (n : Int) ≤ pl
    ·
     have HE : Hid (ckMs ps (prevOf (l.map Mem.pl) j) (l.drop j) = 5) := qh (by rw [Hst.out, if_pos (.inr (by rw [Hpl.out]; exact hpn))])
     have hpn' : decide ((n : Int) ≤ pl) = true := decide_eq_true hpn
     go_wp2
     go_ret
     exact ⟨ret_int (by rw [HK1.out, Hcl.out, HE.out]), X3.out.below⟩
    obtain ⟨y, rfl⟩ : ∃ y : Nat, pl = y := ⟨pl.toNat, by omega⟩
    have hyn : y < n := by omega
    obtain ⟨b2, o2, p, D, fn, fc, kd, pa, f, no, F, fq, fd, rfl, hbS2, hp, hP, hcell⟩ := (HT.out.under XR.out.below HS.out).at_ hyn
    have h3 := hcell 3 (by omega)
    unfold pkRow ndRow at h3
    simp only [qgz, qgs] at h3
    have Hfl : Hid ((pkOf ps (y : Int)).fs.length = fn) := qh (by unfold pkOf; rw [Int.toNat_natCast, List.getD_eq_getElem?_getD, hp]; exact hP.fs.len)
    have hbl2 : b2 < wr.heap.size := ql (HS.out _ hbS2) XR.out.below.size
    clear hcell hp hP
    have HSt2 : Hid (ckMs ps (prevOf (l.map Mem.pl) j) (l.drop j) = if badPl (prevOf (l.map Mem.pl) j) (y : Int) = true then 6 else if q ≠ fn then 4 else ckMs ps (prevOf (l.map Mem.pl) (j + 1)) (l.drop (j + 1))) := qh (by
     rw [Hst.out, if_neg (by have := Hpl.out; omega), Hfl.out, Hol.out])
    clear Hst
    have hy0 : (0 : Int) ≤ (y : Int) := by omega
    have hy1 : (y : Int) < n := by omega
    rcases j with _ | i
    ·have HX : Hid (ckMs ps (prevOf (l.map Mem.pl) 0) (l.drop 0) = if q ≠ fn then 4 else ckMs ps (prevOf (l.map Mem.pl) (0 + 1)) (l.drop (0 + 1))) := qh (by rw [HSt2.out, if_neg (by rw [prevOf_zero]; simp [badPl])])
     simp only [Nat.zero_mul, Nat.add_zero] at g0 g1
     by_cases hq : q = fn
     ·have HE : Hid (ckMs ps (prevOf (l.map Mem.pl) 0) (l.drop 0) = ckMs ps (prevOf (l.map Mem.pl) (0 + 1)) (l.drop (0 + 1))) := qh (by rw [HX.out, if_neg (by simpa using hq)])
      subst hq
      go_wp2
      go_quiet (fail)
      go_wp2
      go_quiet (fail)
      go_wp2
      go_roundg (gk - 1)
      case measure => have := Hj.out; omega
      case rel => exact ⟨0 + 1, qh (by have := Hj.out; omega), by go_num, qh (by rw [Hcl.out, HE.out]), qh (by first | exact X3.out.drew _ | exact (X3.out.drew _).drew _)⟩
     ·have HE : Hid (ckMs ps (prevOf (l.map Mem.pl) 0) (l.drop 0) = 4) := qh (by rw [HX.out, if_pos hq])
      have hq' : ((q : Int) != (fn : Int)) = true := by simp; omega
      go_wp2
      go_quiet (fail)
      go_wp2
      go_quiet (fail)
      go_wp2
      go_ret
      exact ⟨ret_int (by rw [HK1.out, Hcl.out, HE.out]), by first | exact below_drewN X3.out.below _ | exact below_drewN (below_drewN X3.out.below _) _⟩
    ·obtain ⟨b', o', m', E', q', r', e, _, hm', _, _, _, k0, _⟩ := (HL.out.under XR.out.below HS.out).at_ (j := i) (by omega)
     injection e with e; injection e with e1 e2; subst e1 e2
     have Hpr : Hid (prevOf (l.map Mem.pl) (i + 1) = some m'.pl) := qh (prevOf_succ (by rw [List.getElem?_map, hm']; rfl))
     have HSt3 : Hid (ckMs ps (prevOf (l.map Mem.pl) (i + 1)) (l.drop (i + 1)) = if badPl (some m'.pl) (y : Int) = true then 6 else if q ≠ fn then 4 else ckMs ps (prevOf (l.map Mem.pl) (i + 1 + 1)) (l.drop (i + 1 + 1))) := qh (by rw [HSt2.out, Hpr.out])
     clear hm' HSt2
     generalize m'.pl = pp at k0 HSt3
     have hwr : IntKind.i64.wrap ((i : Int) + 1 - 1) = (i : Int) := by rw [IntKind.wrap_i64]; omega
     have hwr0 : IntKind.i64.wrap (i : Int) = (i : Int) := by rw [IntKind.wrap_i64]; omega
     have hin : i < k := by omega
     have hin2 : (i : Int) < k := by omega
     have hin3 : (0 : Int) < (i : Int) + 1 := by omega
     by_cases hb : (y : Int) ≤ pp
     ·have HE : Hid (ckMs ps (prevOf (l.map Mem.pl) (i + 1)) (l.drop (i + 1)) = 6) := qh (by rw [HSt3.out, if_pos (by simpa [badPl] using hb)])
      have hb' : decide ((y : Int) ≤ pp) = true := decide_eq_true hb
      go_wp2
      go_quiet (fail)
      go_wp2
      go_ret
      exact ⟨ret_int (by rw [HK1.out, Hcl.out, HE.out]), below_drewN X3.out.below _⟩
     ·have HX : Hid (ckMs ps (prevOf (l.map Mem.pl) (i + 1)) (l.drop (i + 1)) = if q ≠ fn then 4 else ckMs ps (prevOf (l.map Mem.pl) (i + 1 + 1)) (l.drop (i + 1 + 1))) := qh (by rw [HSt3.out, if_neg (by simpa [badPl] using hb)])
      have hb' : decide ((y : Int) ≤ pp) = false := decide_eq_false hb
      by_cases hq : q = fn
      ·have HE : Hid (ckMs ps (prevOf (l.map Mem.pl) (i + 1)) (l.drop (i + 1)) = ckMs ps (prevOf (l.map Mem.pl) ((i + 1) + 1)) (l.drop ((i + 1) + 1))) := qh (by rw [HX.out, if_neg (by simpa using hq)])
       subst hq
       go_wp2
       go_quiet (fail)
       go_wp2
       go_quiet (fail)
       go_wp2
       go_roundg (gk - 1)
       case measure => have := Hj.out; omega
       case rel => exact ⟨(i + 1) + 1, qh (by have := Hj.out; omega), by go_num, qh (by rw [Hcl.out, HE.out]), qh (by first | exact X3.out.drew _ | exact (X3.out.drew _).drew _)⟩
      ·have HE : Hid (ckMs ps (prevOf (l.map Mem.pl) (i + 1)) (l.drop (i + 1)) = 4) := qh (by rw [HX.out, if_pos hq])
       have hq' : ((q : Int) != (fn : Int)) = true := by simp; omega
       go_wp2
       go_quiet (fail)
       go_wp2
       go_quiet (fail)
       go_wp2
       go_ret
       exact ⟨ret_int (by rw [HK1.out, Hcl.out, HE.out]), by first | exact below_drewN X3.out.below _ | exact below_drewN (below_drewN X3.out.below _) _⟩
   ·obtain rfl : k = j := by have := Hj.out; omega
    go_wp2
    go_ret
    exact ⟨ret_int (by rw [HK1.out, Hcl.out, ckMs_done (by have := Hll.out; omega)]), XR.out.below⟩
 ·have z1 : (z != 0) = true := by simpa using z0
  go_enter Tryz.func29, Tryz.ntmps29
  go_wp2_with (first | (go_at_call 63; refine Hck.out.mono ?_; rintro e w2 ⟨rfl, hb2⟩; refine Hid.out ?_))
  refine qh ?_
  have X2 := qh (X0.out.move hb2)
  clear hb2 X0 Hck
  go_wp2
  go_ret
  exact ⟨ret_int (by rw [HK.out, if_pos z0]), X2.out.below⟩
end
/- valid.Holds, walked. -/
section
open Go.RowKit Qm

theorem ckSet_zero {ps : List Pk} {l : List Mem} (h : ckSet ps l = 0) : ckTree ps = 0 ∧ ckMs ps none l = 0 := by
 unfold ckSet at h
 by_cases h0 : ckTree ps = 0
 ·rw [if_neg (by simpa using h0)] at h; exact ⟨h0, h⟩
 ·rw [if_pos h0] at h; exact absurd h h0
theorem Cx.of {ps : List Pk} {l : List Mem} {S : Nat → Prop} {A B : Option Addr} {n c q d : Nat} {w : World} (h : ckSet ps l = 0) (hT : RTree w S A n ps) (hnc : n ≤ c) (hc : c ≤ maxLen) (hL : RSet w S B q l) (hqd : q ≤ d) (hd : d ≤ maxLen) (hS : ∀ k, S k → k < w.heap.size) : Cx ps l S A n c B q d w :=
 ⟨hT, hL, hnc, hc, by rw [← hT.len]; exact ckTree_len (ckSet_zero h).1, hqd, hd, ckMs_mem (ckSet_zero h).2, hS⟩
theorem own_flags {ps : List Pk} {l : List Mem} (h : ckSet ps l = 0) {k : Nat} (hk : k < l.length) : ∀ f ∈ flagsN (pkOf ps (memAt l k).pl).nd, f ∈ (pkOf ps (memAt l k).pl).fs := by
 obtain ⟨h1, h2⟩ := ckSet_zero h
 have hm : memAt l k ∈ l := by
  rw [memAt_at (List.getElem?_eq_getElem hk)]; exact List.getElem_mem hk
 obtain ⟨a, b, _⟩ := ckMs_mem h2 _ hm
 have hp : pkOf ps (memAt l k).pl ∈ ps := by
  unfold pkOf
  have hlt : (memAt l k).pl.toNat < ps.length := by omega
  rw [List.getD_eq_getElem?_getD, List.getElem?_eq_getElem hlt]
  exact List.getElem_mem hlt
 exact (pkOk (ckTree_mem h1 _ hp)).sub
end
/- Lists of rows of ints by their headers: side by side. -/
section
open Go.RowKit
def hd (h : Option Addr × Nat × Nat) : Value := Value.slice h.1 h.2.1 h.2.2
def Heads (w : World) (S : Nat → Prop) (hs : List (Option Addr × Nat × Nat)) (cs : List (List Int)) : Prop :=
 cs.length = hs.length ∧ ∀ (j : Nat) (h : Option Addr × Nat × Nat) (c : List Int), hs[j]? = some h → cs[j]? = some c → RInts w S h.1 h.2.1 c ∧ h.2.1 ≤ h.2.2 ∧ h.2.2 ≤ maxLen
section
variable {w w' : World} {S S' : Nat → Prop} {A : Option Addr} {n : Nat} {cs ds : List (List Int)} {hs gs : List (Option Addr × Nat × Nat)}
theorem RClauses.of_ (hr : Row w S A n (hs.map hd)) (h : Heads w S hs cs) : RClauses w S A n cs := ⟨hs, hr, by have := hr.len; have := h.1; simp at *; omega, h.2⟩
theorem Heads.append (h : Heads w S hs cs) (g : Heads w S gs ds) : Heads w S (hs ++ gs) (cs ++ ds) := by
 refine ⟨by simp [h.1, g.1], fun j x c hx hc => ?_⟩
 by_cases hj : j < hs.length
 ·rw [List.getElem?_append_left hj] at hx
  rw [List.getElem?_append_left (by rw [h.1]; exact hj)] at hc
  exact h.2 j x c hx hc
 ·rw [List.getElem?_append_right (by omega)] at hx
  rw [List.getElem?_append_right (by rw [h.1]; omega), h.1] at hc
  exact g.2 _ x c hx hc
theorem Heads.one {A : Option Addr} {n c : Nat} {xs : List Int} (h : RInts w S A n xs) (hn : n ≤ c ∧ c ≤ maxLen) : Heads w S [(A, n, c)] [xs] := by
 refine ⟨rfl, fun j x y hx hy => ?_⟩
 match j with
 | 0 => simp at hx hy; subst hx hy; exact ⟨h, hn⟩
 | j + 1 => simp at hx
theorem Heads.nil_ : Heads w S [] [] := ⟨rfl, fun j x y hx _ => by simp at hx⟩
theorem Heads.more (h : Heads w S hs cs) (hS : ∀ k, S k → S' k) : Heads w S' hs cs := ⟨h.1, fun j x c hx hc => ⟨(h.2 j x c hx hc).1.more hS, (h.2 j x c hx hc).2⟩⟩
theorem Heads.keep (h : Heads w S hs cs) (hk : ∀ p : Addr, S p.block → w'.cell? p = w.cell? p) : Heads w' S hs cs := ⟨h.1, fun j x c hx hc => ⟨(h.2 j x c hx hc).1.keep hk, (h.2 j x c hx hc).2⟩⟩
end
end
end Go.Proofs.YtpipgffbhpnmkaaGreatDoor
