/- Parts of the proof: walks and plain laws, side by side. -/
import Derived.Test.YtpipgffbhpnmkaaGreatDoorM13
import Derived.Test.YtpipgffbhpnmkaaGreatDoorM14
import Derived.Deep.RegionHeld3
import Derived.Laws.EntriesVeiled
import Derived.Test.YtpipgffbhpnmkaaGreatDoorM12
import Derived.Deep.QuietTactic
import Derived.BigQuiet
import Derived.IntWalk
import Derived.Test.YtpipgffbhpnmkaaGreatDoorM1
import Derived.Test.YtpipgffbhpnmkaaGreatDoorM5
import Derived.Test.YtpipgffbhpnmkaaGreatDoorM10
import Derived.Test.YtpipgffbhpnmkaaGreatDoorM9
set_option linter.unusedVariables false
set_option linter.unusedSimpArgs false
set_option linter.unusedSectionVars false
/- The closures of valid.holds; what is at hand in it. -/
namespace Go.Proofs.YtpipgffbhpnmkaaGreatDoor
open Go.RowKit Qm

/-- A right tree and a right set in memory. -/
structure Cx (ps : List Pk) (l : List Mem) (S : Nat → Prop) (A : Option Addr) (n c : Nat) (B : Option Addr) (q d : Nat) (w : World) : Prop where
  t : RTree w S A n ps
  s : RSet w S B q l
  nc : n ≤ c
  cm : c ≤ maxLen
  n8 : n ≤ 8
  qd : q ≤ d
  dm : d ≤ maxLen
  ok : ∀ m ∈ l, MemOk ps m
  lt : ∀ k, S k → k < w.heap.size
section
variable {ps : List Pk} {l : List Mem} {S : Nat → Prop} {A B : Option Addr} {n c q d : Nat} {w w' : World}
theorem Cx.under (h : Cx ps l S A n c B q d w) (hb : Below w.heap.size w w') : Cx ps l S A n c B q d w' :=
  ⟨h.t.under hb h.lt, h.s.under hb h.lt, h.nc, h.cm, h.n8, h.qd, h.dm, h.ok, fun k hk => Nat.lt_of_lt_of_le (h.lt k hk) hb.size⟩
/-- valid.is on what is at hand. -/
theorem Cx.is (h : Cx ps l S A n c B q d w) {m : Mem} (hm : m ∈ l) {E : Option Addr} {k r : Nat} (hB : RBools w S E k m.on) (hkr : k ≤ r) (a : At) (h1 : a.nm.length ≤ maxLen) (h2 : a.fl.length ≤ maxLen) (hb : Below w.heap.size w w') :
    Calls Tryz.prog 75 #[.agg #[.slice A n c], .agg #[.int .i64 m.pl, .slice E k r], .agg #[.string ⟨a.nm.toArray⟩, .int .i64 a.op, .int .i64 a.ver, .int .i64 a.slot, .string ⟨a.fl.toArray⟩, .bool a.on]] w' fun e w2 => e = .returned (.bool (isA ps m a)) ∧ Below w'.heap.size w' w2 :=
  is_any ps m a S A E n c k r w' (h.t.under hb h.lt) (Row.below hB hb h.lt) hkr (h.ok m hm) (fun k hk => Nat.lt_of_lt_of_le (h.lt k hk) hb.size) h.n8 h1 h2
end
theorem shape_mem {w : World} {S : Nat → Prop} {x : List Value} {m : Mem} (h : RMem w S x m) : ShapeC_M x := by
  obtain ⟨A, n, c, rfl, _⟩ := h
  exact ⟨_, _, _, _, rfl⟩
end Go.Proofs.YtpipgffbhpnmkaaGreatDoor

/- valid.holds, walked. -/
namespace Go.Proofs.YtpipgffbhpnmkaaGreatDoor
open Go.RowKit Qm

/-- The boxes of valid.holds. -/
structure Hb (w : World) (A : Option Addr) (n c : Nat) (B : Option Addr) (q d k : Nat) (nr : List Value) (wx : World) : Prop where
  t : Whole wx w.heap.size 24 [.slice A n c]
  l : Whole wx (w.heap.size + 1) 25 [.slice B q d]
  k : Whole wx (w.heap.size + 1 + 1) 3 [.int .i64 (k : Int)]
  n : Whole wx (w.heap.size + 1 + 1 + 1) 40 nr
  e : Whole wx (w.heap.size + 1 + 1 + 1 + 1) 67 [.func (.func 72) #[] #[.pointer (some ⟨w.heap.size, 0, none⟩), .pointer (some ⟨w.heap.size + 1, 0, none⟩), .pointer (some ⟨w.heap.size + 1 + 1, 0, none⟩)]]
  bel : Below w.heap.size w wx
theorem Hb.move {w : World} {A : Option Addr} {n c : Nat} {B : Option Addr} {q d k : Nat} {nr : List Value} {wx wy : World} (h : Hb w A n c B q d k nr wx) (hb : Below wx.heap.size wx wy) : Hb w A n c B q d k nr wy :=
  ⟨h.t.below hb h.t.lt, h.l.below hb h.l.lt, h.k.below hb h.k.lt, h.n.below hb h.n.lt, h.e.below hb h.e.lt, h.bel.trans (hb.mono h.bel.size)⟩
theorem Hb.new (w : World) (A : Option Addr) (n c : Nat) (B : Option Addr) (q d k : Nat) (nr : List Value) :
    Hb w A n c B q d k nr (((((w.alloc (.cells #[.slice A n c] 24)).alloc (.cells #[.slice B q d] 25)).alloc (.cells #[.int .i64 (k : Int)] 3)).alloc (.cells nr.toArray 40)).alloc
      (.cells #[.func (.func 72) #[] #[.pointer (some ⟨w.heap.size, 0, none⟩), .pointer (some ⟨w.heap.size + 1, 0, none⟩), .pointer (some ⟨w.heap.size + 1 + 1, 0, none⟩)]] 67)) := by
  have h1 := Whole.new w _ 24 [.slice A n c] rfl
  have h2 := Whole.new (w.alloc (.cells #[.slice A n c] 24)) (w.heap.size + 1) 25 [.slice B q d] (by simp)
  have h3 := Whole.new ((w.alloc (.cells #[.slice A n c] 24)).alloc (.cells #[.slice B q d] 25)) (w.heap.size + 1 + 1) 3 [.int .i64 (k : Int)] (by simp)
  have h4 := Whole.new (((w.alloc (.cells #[.slice A n c] 24)).alloc (.cells #[.slice B q d] 25)).alloc (.cells #[.int .i64 (k : Int)] 3)) (w.heap.size + 1 + 1 + 1) 40 nr (by simp)
  exact ⟨(((h1.alloc _).alloc _).alloc _).alloc _, ((h2.alloc _).alloc _).alloc _, (h3.alloc _).alloc _, h4.alloc _, Whole.new _ _ _ [_] (by simp), (((((Below.refl _ w).alloc (Nat.le_refl _) _).alloc (by simp) _).alloc (by simp; omega) _).alloc (by simp; omega) _).alloc (by simp; omega) _⟩

theorem memAt_at {l : List Mem} {k : Nat} {m : Mem} (h : l[k]? = some m) : memAt l k = m := by
  unfold memAt
  rw [List.getD_eq_getElem?_getD, h]; rfl
end Go.Proofs.YtpipgffbhpnmkaaGreatDoor

/- tree.CheckSet, walked. -/
namespace Go.Proofs.YtpipgffbhpnmkaaGreatDoor
open Go.RowKit Qm

set_option maxRecDepth 100000 in
set_option maxHeartbeats 3200000 in
theorem cset_any (ps : List Pk) (l : List Mem) (S : Nat → Prop) (A B : Option Addr) (n c k d : Nat) (w : World) (hT : RTree w S A n ps) (hnc : n ≤ c) (hc : c ≤ maxLen) (hL : RSet w S B k l) (hk : k ≤ maxLen) (hS : ∀ k, S k → k < w.heap.size) :
    Calls Tryz.prog 29 #[.agg #[.slice A n c], .slice B k d] w fun e w' => e = .returned (.int .i64 (ckSet ps l)) ∧ Below w.heap.size w w' := by
  have Hpl := Lib.hid hT.len
  have Hll := Lib.hid hL.len
  have X0 := Lib.hid (Tx.new w A n c)
  have HT := Lib.hid hT; have HS := Lib.hid hS; have HL := Lib.hid hL; clear hT hS hL
  have Hck := Lib.hid (tCheck_any ps S A n c _ (HT.out.under X0.out.below HS.out) hnc hc (fun k hk => Nat.lt_of_lt_of_le (HS.out k hk) X0.out.below.size))
  have HK : Hid (ckSet ps l = if ckTree ps ≠ 0 then ckTree ps else ckMs ps none l) := Lib.hid rfl
  generalize ckSet ps l = R at HK ⊢
  generalize hz : ckTree ps = z at Hck HK
  have HZ := Lib.hid hz; clear hz
  unfold maxLen at hc hk
  by_cases z0 : z = 0
  · subst z0
    have HK1 : Hid (R = ckMs ps none l) := Lib.hid (by rw [HK.out, if_neg (by simp)])
    have hn8 : n ≤ 8 := by rw [← Hpl.out]; exact ckTree_len HZ.out
    clear HK
    go_enter Tryz.func29, Tryz.ntmps29
    go_wp2_with (first | (go_at_call 63; refine Hck.out.mono ?_; rintro e w2 ⟨rfl, hb2⟩; refine Hid.out ?_))
    refine Lib.hid ?_
    have X2 := Lib.hid (X0.out.move hb2)
    clear hb2 X0 Hck
    go_wp2
    go_loopg [15] k (fun g iv wr => ∃ j : Nat, Hid (j + g = k) ∧ iv = .int .i64 j ∧ Hid (ckMs ps none l = ckMs ps (prevOf (l.map Mem.pl) j) (l.drop j)) ∧ Hid (Tx w A n c wr))
    case atStart => exact ⟨0, Lib.hid (Nat.zero_add _), rfl, Lib.hid rfl, X2⟩
    case round =>
      obtain ⟨j, Hj, rfl, Hcl, XR⟩ := hrel
      clear X2
      by_cases hj : j < k
      · obtain ⟨b, o, m, E, q, r, rfl, hbS, hm, hqr, hr, hon, g0, g1⟩ := (HL.out.under XR.out.below HS.out).at_ hj
        have Hst := Lib.hid (ckMs_step (ps := ps) hm)
        have HMj : Hid (∀ i : Nat, j = i + 1 → ∃ m', l[i]? = some m') := Lib.hid fun i hi => ⟨_, List.getElem?_eq_getElem (by have := Hll.out; omega)⟩
        have Hol := Lib.hid hon.len
        have hbl : b < wr.heap.size := Nat.lt_of_lt_of_le (HS.out _ hbS) XR.out.below.size
        have X3 := Lib.hid (XR.out.move ((Below.refl _ wr).alloc (Nat.le_refl _) (.cells #[.int .i64 m.pl, .slice E q r] 33)))
        obtain ⟨pl, on⟩ := m
        dsimp only at g0 g1 Hst Hol X3
        clear hm hon
        have t0 := XR.out.whole.cell 0
        simp only [List.getElem?_cons_zero] at t0
        have tlt := XR.out.whole.lt
        by_cases hneg : pl < 0
        · have HE : Hid (ckMs ps (prevOf (l.map Mem.pl) j) (l.drop j) = 5) := Lib.hid (by rw [Hst.out, if_pos (.inl hneg)])
          have hneg' : decide (pl < 0) = true := decide_eq_true hneg
          go_wp2
          go_ret
          exact ⟨ret_int (by rw [HK1.out, Hcl.out, HE.out]), X3.out.below⟩
        have hneg' : decide (pl < 0) = false := decide_eq_false hneg
        by_cases hpn : (n : Int) ≤ pl
        ·
          have HE : Hid (ckMs ps (prevOf (l.map Mem.pl) j) (l.drop j) = 5) := Lib.hid (by rw [Hst.out, if_pos (.inr (by rw [Hpl.out]; exact hpn))])
          have hpn' : decide ((n : Int) ≤ pl) = true := decide_eq_true hpn
          go_wp2
          go_ret
          exact ⟨ret_int (by rw [HK1.out, Hcl.out, HE.out]), X3.out.below⟩
        obtain ⟨y, rfl⟩ : ∃ y : Nat, pl = y := ⟨pl.toNat, by omega⟩
        have hyn : y < n := by omega
        obtain ⟨b2, o2, p, D, fn, fc, kd, pa, f, no, F, fq, fd, rfl, hbS2, hp, hP, hcell⟩ := (HT.out.under XR.out.below HS.out).at_ hyn
        have h3 := hcell 3 (by omega)
        unfold pkRow ndRow at h3
        simp only [List.getElem?_cons_zero, List.getElem?_cons_succ] at h3
        have Hfl : Hid ((pkOf ps (y : Int)).fs.length = fn) := Lib.hid (by unfold pkOf; rw [Int.toNat_natCast, List.getD_eq_getElem?_getD, hp]; exact hP.fs.len)
        have hbl2 : b2 < wr.heap.size := Nat.lt_of_lt_of_le (HS.out _ hbS2) XR.out.below.size
        clear hcell hp hP
        have HSt2 : Hid (ckMs ps (prevOf (l.map Mem.pl) j) (l.drop j) = if badPl (prevOf (l.map Mem.pl) j) (y : Int) = true then 6 else if q ≠ fn then 4 else ckMs ps (prevOf (l.map Mem.pl) (j + 1)) (l.drop (j + 1))) := Lib.hid (by
          rw [Hst.out, if_neg (by have := Hpl.out; omega), Hfl.out, Hol.out])
        clear Hst
        have hy0 : (0 : Int) ≤ (y : Int) := by omega
        have hy1 : (y : Int) < n := by omega
        rcases j with _ | i
        · have HX : Hid (ckMs ps (prevOf (l.map Mem.pl) 0) (l.drop 0) = if q ≠ fn then 4 else ckMs ps (prevOf (l.map Mem.pl) (0 + 1)) (l.drop (0 + 1))) := Lib.hid (by rw [HSt2.out, if_neg (by rw [prevOf_zero]; simp [badPl])])
          simp only [Nat.zero_mul, Nat.add_zero] at g0 g1
          by_cases hq : q = fn
          · have HE : Hid (ckMs ps (prevOf (l.map Mem.pl) 0) (l.drop 0) = ckMs ps (prevOf (l.map Mem.pl) (0 + 1)) (l.drop (0 + 1))) := Lib.hid (by rw [HX.out, if_neg (by simpa using hq)])
            subst hq
            go_wp2
            go_quiet (fail)
            go_wp2
            go_quiet (fail)
            go_wp2
            go_roundg (gk - 1)
            case measure => have := Hj.out; omega
            case rel => exact ⟨0 + 1, Lib.hid (by have := Hj.out; omega), by go_num, Lib.hid (by rw [Hcl.out, HE.out]), Lib.hid (by first | exact X3.out.drew _ | exact (X3.out.drew _).drew _)⟩
          · have HE : Hid (ckMs ps (prevOf (l.map Mem.pl) 0) (l.drop 0) = 4) := Lib.hid (by rw [HX.out, if_pos hq])
            have hq' : ((q : Int) != (fn : Int)) = true := by simp; omega
            go_wp2
            go_quiet (fail)
            go_wp2
            go_quiet (fail)
            go_wp2
            go_ret
            exact ⟨ret_int (by rw [HK1.out, Hcl.out, HE.out]), by first | exact below_drewN X3.out.below _ | exact below_drewN (below_drewN X3.out.below _) _⟩
        · obtain ⟨b', o', m', E', q', r', e, _, hm', _, _, _, k0, _⟩ := (HL.out.under XR.out.below HS.out).at_ (j := i) (by omega)
          injection e with e; injection e with e1 e2; subst e1 e2
          have Hpr : Hid (prevOf (l.map Mem.pl) (i + 1) = some m'.pl) := Lib.hid (prevOf_succ (by rw [List.getElem?_map, hm']; rfl))
          have HSt3 : Hid (ckMs ps (prevOf (l.map Mem.pl) (i + 1)) (l.drop (i + 1)) = if badPl (some m'.pl) (y : Int) = true then 6 else if q ≠ fn then 4 else ckMs ps (prevOf (l.map Mem.pl) (i + 1 + 1)) (l.drop (i + 1 + 1))) := Lib.hid (by rw [HSt2.out, Hpr.out])
          clear hm' HSt2
          generalize m'.pl = pp at k0 HSt3
          have hwr : IntKind.i64.wrap ((i : Int) + 1 - 1) = (i : Int) := by rw [IntKind.wrap_i64]; omega
          have hwr0 : IntKind.i64.wrap (i : Int) = (i : Int) := by rw [IntKind.wrap_i64]; omega
          have hin : i < k := by omega
          have hin2 : (i : Int) < k := by omega
          have hin3 : (0 : Int) < (i : Int) + 1 := by omega
          by_cases hb : (y : Int) ≤ pp
          · have HE : Hid (ckMs ps (prevOf (l.map Mem.pl) (i + 1)) (l.drop (i + 1)) = 6) := Lib.hid (by rw [HSt3.out, if_pos (by simpa [badPl] using hb)])
            have hb' : decide ((y : Int) ≤ pp) = true := decide_eq_true hb
            go_wp2
            go_quiet (fail)
            go_wp2
            go_ret
            exact ⟨ret_int (by rw [HK1.out, Hcl.out, HE.out]), below_drewN X3.out.below _⟩
          · have HX : Hid (ckMs ps (prevOf (l.map Mem.pl) (i + 1)) (l.drop (i + 1)) = if q ≠ fn then 4 else ckMs ps (prevOf (l.map Mem.pl) (i + 1 + 1)) (l.drop (i + 1 + 1))) := Lib.hid (by rw [HSt3.out, if_neg (by simpa [badPl] using hb)])
            have hb' : decide ((y : Int) ≤ pp) = false := decide_eq_false hb
            by_cases hq : q = fn
            · have HE : Hid (ckMs ps (prevOf (l.map Mem.pl) (i + 1)) (l.drop (i + 1)) = ckMs ps (prevOf (l.map Mem.pl) ((i + 1) + 1)) (l.drop ((i + 1) + 1))) := Lib.hid (by rw [HX.out, if_neg (by simpa using hq)])
              subst hq
              go_wp2
              go_quiet (fail)
              go_wp2
              go_quiet (fail)
              go_wp2
              go_roundg (gk - 1)
              case measure => have := Hj.out; omega
              case rel => exact ⟨(i + 1) + 1, Lib.hid (by have := Hj.out; omega), by go_num, Lib.hid (by rw [Hcl.out, HE.out]), Lib.hid (by first | exact X3.out.drew _ | exact (X3.out.drew _).drew _)⟩
            · have HE : Hid (ckMs ps (prevOf (l.map Mem.pl) (i + 1)) (l.drop (i + 1)) = 4) := Lib.hid (by rw [HX.out, if_pos hq])
              have hq' : ((q : Int) != (fn : Int)) = true := by simp; omega
              go_wp2
              go_quiet (fail)
              go_wp2
              go_quiet (fail)
              go_wp2
              go_ret
              exact ⟨ret_int (by rw [HK1.out, Hcl.out, HE.out]), by first | exact below_drewN X3.out.below _ | exact below_drewN (below_drewN X3.out.below _) _⟩
      · obtain rfl : k = j := by have := Hj.out; omega
        go_wp2
        go_ret
        exact ⟨ret_int (by rw [HK1.out, Hcl.out, ckMs_done (by have := Hll.out; omega)]), XR.out.below⟩
  · have z1 : (z != 0) = true := by simpa using z0
    go_enter Tryz.func29, Tryz.ntmps29
    go_wp2_with (first | (go_at_call 63; refine Hck.out.mono ?_; rintro e w2 ⟨rfl, hb2⟩; refine Hid.out ?_))
    refine Lib.hid ?_
    have X2 := Lib.hid (X0.out.move hb2)
    clear hb2 X0 Hck
    go_wp2
    go_ret
    exact ⟨ret_int (by rw [HK.out, if_pos z0]), X2.out.below⟩
end Go.Proofs.YtpipgffbhpnmkaaGreatDoor

/- valid.Holds, walked. -/
namespace Go.Proofs.YtpipgffbhpnmkaaGreatDoor
open Go.RowKit Qm

theorem ckSet_zero {ps : List Pk} {l : List Mem} (h : ckSet ps l = 0) : ckTree ps = 0 ∧ ckMs ps none l = 0 := by
  unfold ckSet at h
  by_cases h0 : ckTree ps = 0
  · rw [if_neg (by simpa using h0)] at h; exact ⟨h0, h⟩
  · rw [if_pos h0] at h; exact absurd h h0
theorem Cx.of {ps : List Pk} {l : List Mem} {S : Nat → Prop} {A B : Option Addr} {n c q d : Nat} {w : World} (h : ckSet ps l = 0) (hT : RTree w S A n ps) (hnc : n ≤ c) (hc : c ≤ maxLen) (hL : RSet w S B q l) (hqd : q ≤ d) (hd : d ≤ maxLen) (hS : ∀ k, S k → k < w.heap.size) : Cx ps l S A n c B q d w :=
  ⟨hT, hL, hnc, hc, by rw [← hT.len]; exact ckTree_len (ckSet_zero h).1, hqd, hd, ckMs_mem (ckSet_zero h).2, hS⟩
theorem own_flags {ps : List Pk} {l : List Mem} (h : ckSet ps l = 0) {k : Nat} (hk : k < l.length) : ∀ f ∈ flagsN (pkOf ps (memAt l k).pl).nd, f ∈ (pkOf ps (memAt l k).pl).fs := by
  obtain ⟨h1, h2⟩ := ckSet_zero h
  have hm : memAt l k ∈ l := by
    rw [memAt_at (List.getElem?_eq_getElem hk)]; exact List.getElem_mem hk
  obtain ⟨a, b, _⟩ := ckMs_mem h2 _ hm
  have hp : pkOf ps (memAt l k).pl ∈ ps := by
    unfold pkOf
    have hlt : (memAt l k).pl.toNat < ps.length := by omega
    rw [List.getD_eq_getElem?_getD, List.getElem?_eq_getElem hlt]
    exact List.getElem_mem hlt
  exact (pkOk (ckTree_mem h1 _ hp)).sub
end Go.Proofs.YtpipgffbhpnmkaaGreatDoor

namespace Qm
open Go

/-! The library's Cut and SplitN are cutAt and cut4. -/

theorem cut_one (c : UInt8) (l : W) : Lib.cut l [c] = match cutAt (· == c) l with | none => (l, [], false) | some (a, _, d) => (a, d, true) := by
  have hi := index_cut c l
  unfold Lib.cut
  cases h : cutAt (· == c) l with
  | none => rw [h] at hi; rw [hi]; rfl
  | some t =>
    obtain ⟨a, b, d⟩ := t
    obtain ⟨e, hb, ha⟩ := of_cutAt_some h
    rw [h] at hi
    simp only [] at hi
    rw [hi, if_pos (by omega)]
    have h1 : l.take ((a.length : Int).toNat) = a := by rw [e]; simp
    have h2 : l.drop ((a.length : Int).toNat + [c].length) = d := by rw [e]; simp [List.drop_append]
    rw [h1, h2]
theorem splitK_step (c : UInt8) (k : Nat) (l : W) : Lib.splitK [c] 0 (k + 1) l = match cutAt (· == c) l with | none => [l] | some (a, _, d) => a :: Lib.splitK [c] 0 k d := by
  have hi := index_cut c l
  rw [Lib.splitK]
  cases h : cutAt (· == c) l with
  | none => rw [h] at hi; rw [hi]; rfl
  | some t =>
    obtain ⟨a, b, d⟩ := t
    obtain ⟨e, hb, ha⟩ := of_cutAt_some h
    rw [h] at hi
    simp only [] at hi
    have h0 : ((a.length : Int) == -1) = false := by simp
    have h1 : l.take ((a.length : Int).toNat + 0) = a := by rw [e]; simp
    have h2 : l.drop ((a.length : Int).toNat + [c].length) = d := by rw [e]; simp [List.drop_append]
    rw [hi, h0, h1, h2]; rfl
theorem splitK_len (c : UInt8) : ∀ (k : Nat) (l : W), (Lib.splitK [c] 0 k l).length ≤ k + 1
  | 0, l => by simp [Lib.splitK]
  | k + 1, l => by
    rw [splitK_step]
    cases cutAt (· == c) l with
    | none => simp
    | some t =>
      obtain ⟨a, b, d⟩ := t
      have := splitK_len c k d
      simp only [List.length_cons]; omega
theorem splitN_some {l a b c d e : W} (h : cut4 l = some (a, b, c, d, e)) : Lib.splitK [32] 0 (min 5 (l.length + 1) - 1) l = [a, b, c, d, e] := by
  have hl : 4 ≤ l.length := by rw [cut4_back h]; simp; omega
  rw [show min 5 (l.length + 1) - 1 = 3 + 1 by omega]
  unfold cut4 at h
  split at h
  · cases h
  · rename_i a' x1 l1 h1
    split at h
    · cases h
    · rename_i b' x2 l2 h2
      split at h
      · cases h
      · rename_i c' x3 l3 h3
        split at h
        · cases h
        · rename_i d' x4 l4 h4
          simp only [Option.some.injEq, Prod.mk.injEq] at h
          obtain ⟨rfl, rfl, rfl, rfl, rfl⟩ := h
          rw [splitK_step, h1]
          simp only []
          rw [splitK_step, h2]
          simp only []
          rw [splitK_step, h3]
          simp only []
          rw [splitK_step, h4]
          rfl
theorem splitN_none {l : W} (h : cut4 l = none) : (Lib.splitK [32] 0 (min 5 (l.length + 1) - 1) l).length ≠ 5 := by
  by_cases hl : l.length < 4
  · have := splitK_len 32 (min 5 (l.length + 1) - 1) l
    omega
  · rw [show min 5 (l.length + 1) - 1 = 3 + 1 by omega, splitK_step]
    unfold cut4 at h
    cases h1 : cutAt (· == 32) l with
    | none => simp
    | some t1 =>
      obtain ⟨a, x1, l1⟩ := t1
      rw [h1] at h
      simp only [] at h ⊢
      rw [splitK_step]
      cases h2 : cutAt (· == 32) l1 with
      | none => simp
      | some t2 =>
        obtain ⟨b, x2, l2⟩ := t2
        rw [h2] at h
        simp only [] at h ⊢
        rw [splitK_step]
        cases h3 : cutAt (· == 32) l2 with
        | none => simp
        | some t3 =>
          obtain ⟨c, x3, l3⟩ := t3
          rw [h3] at h
          simp only [] at h ⊢
          rw [splitK_step]
          cases h4 : cutAt (· == 32) l3 with
          | none => simp
          | some t4 =>
            obtain ⟨d, x4, l4⟩ := t4
            rw [h4] at h
            cases h
end Qm

/- strings.Cut at a line's end, strings.SplitN into five. -/
namespace Go.Proofs.YtpipgffbhpnmkaaGreatDoor
open Go.RowKit Qm

theorem cut_some {l a d : Qm.W} {x : UInt8} (h : cutAt (· == 10) l = some (a, x, d)) (w : World) (hs : l.length < 4294967281) (hM : MaxW w) :
    Calls Tryz.prog 87 #[.string ⟨l.toArray⟩, .string ⟨#[10]⟩] w fun e w' => e = .returned (.tuple #[.string ⟨a.toArray⟩, .string ⟨d.toArray⟩, .bool true]) ∧ Below w.heap.size w w' := by
  obtain ⟨m, hm⟩ := hM
  have hc := cut_one 10 l
  rw [h] at hc
  refine (Tryz.strings_Cut ⟨l.toArray⟩ ⟨#[10]⟩ m w (by rw [bsz]; exact hs) hm).mono ?_
  rintro e w' ⟨he, n, rfl⟩
  have hc' : Lib.cut (⟨l.toArray⟩ : ByteArray).data.toList (⟨#[10]⟩ : ByteArray).data.toList = (a, d, true) := hc
  rw [hc'] at he
  exact ⟨he, below_drewN (Below.refl _ _) n⟩
theorem cut_none {l : Qm.W} (h : cutAt (· == 10) l = none) (w : World) (hs : l.length < 4294967281) (hM : MaxW w) :
    Calls Tryz.prog 87 #[.string ⟨l.toArray⟩, .string ⟨#[10]⟩] w fun e w' => e = .returned (.tuple #[.string ⟨l.toArray⟩, .string ⟨#[]⟩, .bool false]) ∧ Below w.heap.size w w' := by
  obtain ⟨m, hm⟩ := hM
  have hc := cut_one 10 l
  rw [h] at hc
  refine (Tryz.strings_Cut ⟨l.toArray⟩ ⟨#[10]⟩ m w (by rw [bsz]; exact hs) hm).mono ?_
  rintro e w' ⟨he, n, rfl⟩
  have hc' : Lib.cut (⟨l.toArray⟩ : ByteArray).data.toList (⟨#[10]⟩ : ByteArray).data.toList = (l, [], false) := hc
  rw [hc'] at he
  exact ⟨he, below_drewN (Below.refl _ _) n⟩

theorem splitN_bytes (l : Qm.W) (k : Nat) : (Lib.splitB ⟨#[32]⟩ 0 k ⟨l.toArray⟩).map (·.data.toList) = Lib.splitK [32] 0 k l := Lib.splitB_data ⟨#[32]⟩ 0 k ⟨l.toArray⟩
theorem splitN_five {l a b c d f : Qm.W} (h : cut4 l = some (a, b, c, d, f)) (w : World) (hs : l.length < 4294967281) (hM : MaxW w) :
    Calls Tryz.prog 88 #[.string ⟨l.toArray⟩, .string ⟨#[32]⟩, .int .i64 5] w fun e w' => e = .returned (.slice (some ⟨w.heap.size, 0, none⟩) 5 5) ∧ w' = w.alloc (.cells (strs [a, b, c, d, f]).toArray 9) := by
  obtain ⟨m, hm⟩ := hM
  have hp := splitN_some h
  have hl : 4 ≤ l.length := by rw [cut4_back h]; simp; omega
  have hb := splitN_bytes l (min 5 (l.length + 1) - 1)
  rw [hp] at hb
  refine (Tryz.strings_SplitN ⟨l.toArray⟩ ⟨#[32]⟩ 5 m w (by rw [bsz]; exact hs) hm (by decide) (by decide) (by decide)).mono ?_
  rw [bsz]
  rintro e w' ⟨he, hw⟩
  have hn : min 5 (l.length + 1) = 5 := by omega
  have hlen : (Lib.splitB ⟨#[32]⟩ 0 (min 5 (l.length + 1) - 1) ⟨l.toArray⟩).length = 5 := by rw [← List.length_map (f := (·.data.toList)), hb]; rfl
  rw [hlen, hn] at he
  refine ⟨he, ?_⟩
  rw [hw]
  unfold Lib.cellsOf
  rw [hlen, strs_of hb, hn]
  simp
theorem splitN_not {l : Qm.W} (h : cut4 l = none) (w : World) (hs : l.length < 4294967281) (hM : MaxW w) :
    Calls Tryz.prog 88 #[.string ⟨l.toArray⟩, .string ⟨#[32]⟩, .int .i64 5] w fun e w' => (∃ m cap : Nat, e = .returned (.slice (some ⟨w.heap.size, 0, none⟩) m cap) ∧ m ≠ 5 ∧ m ≤ 5) ∧ Below w.heap.size w w' := by
  obtain ⟨m, hm⟩ := hM
  have hp := splitN_none h
  have hb := splitN_bytes l (min 5 (l.length + 1) - 1)
  have hk := splitK_len 32 (min 5 (l.length + 1) - 1) l
  refine (Tryz.strings_SplitN ⟨l.toArray⟩ ⟨#[32]⟩ 5 m w (by rw [bsz]; exact hs) hm (by decide) (by decide) (by decide)).mono ?_
  rw [bsz]
  rintro e w' ⟨he, rfl⟩
  have hlen : (Lib.splitB ⟨#[32]⟩ 0 (min 5 (l.length + 1) - 1) ⟨l.toArray⟩).length = (Lib.splitK [32] 0 (min 5 (l.length + 1) - 1) l).length := by rw [← List.length_map (f := (·.data.toList)), hb]
  exact ⟨⟨_, _, he, by rw [hlen]; exact hp, by rw [hlen]; omega⟩, (Below.refl _ _).alloc (Nat.le_refl _) _⟩
end Go.Proofs.YtpipgffbhpnmkaaGreatDoor

/- What tree.Parse gathers: the box of the tree, from the next block on the packages. -/
namespace Go.Proofs.YtpipgffbhpnmkaaGreatDoor
open Go.RowKit Qm

theorem RPk.far {D : Nat → Prop} {w w' : World} {S : Nat → Prop} {x : List Value} {p : Pk} (h : RPk w S x p) (hf : Far D w w') (hS : ∀ k, S k → k < w.heap.size ∧ ¬ D k) : RPk w' S x p :=
  h.keep fun _ hp => hf.cell (hS _ hp).1 (hS _ hp).2
structure Td (w : World) (A : Option Addr) (c : Nat) (cs : List (List Value)) (ps : List Pk) (wx : World) : Prop where
  below : Below w.heap.size w wx
  t : Whole wx w.heap.size 24 [.slice A ps.length c]
  len : cs.length = ps.length
  own : wx.ownsRow (w.heap.size + 1) 42 14 (.slice A ps.length c) ps.length cs.flatten
  pk : ∀ (j : Nat) (x : List Value) (y : Pk), cs[j]? = some x → ps[j]? = some y → RPk wx (fun i => w.heap.size + 1 ≤ i ∧ i < wx.heap.size ∧ (Value.slice A ps.length c).ownBlock ≠ some i) x y
section
variable {w wx wy : World} {A : Option Addr} {c : Nat} {cs : List (List Value)} {ps : List Pk}
theorem Td.size (h : Td w A c cs ps wx) : w.heap.size + 1 ≤ wx.heap.size := h.t.lt
theorem Td.new (w : World) : Td w none 0 [] [] (w.alloc (.cells #[.slice none 0 0] 24)) :=
  ⟨(Below.refl _ w).alloc (Nat.le_refl _) _, Whole.new w _ _ [.slice none 0 0] rfl, rfl, World.ownsRow_nil _ _ _ _, fun j x y h _ => by simp at h⟩
theorem Td.move (h : Td w A c cs ps wx) (hb : Below wx.heap.size wx wy) : Td w A c cs ps wy where
  below := h.below.trans (hb.mono h.below.size)
  t := h.t.below hb h.t.lt
  len := h.len
  own := (Far.of_below (fun _ => False) hb).own h.own fun _ _ h => h
  pk := fun j x y h1 h2 => ((h.pk j x y h1 h2).far (Far.of_below (fun _ => False) hb) fun i hi => ⟨hi.2.1, fun h => h⟩).more fun i hi => ⟨hi.1, Nat.lt_of_lt_of_le hi.2.1 hb.size, hi.2.2⟩
theorem Td.push (h : Td w A c cs ps wx) {x : List Value} {y : Pk} {A' : Option Addr} {c' : Nat}
    (hx : RPk wx (fun i => w.heap.size + 1 ≤ i ∧ i < wx.heap.size ∧ (Value.slice A ps.length c).ownBlock ≠ some i) x y)
    (hown : wy.ownsRow (w.heap.size + 1) 42 14 (.slice A' (ps.length + 1) c') (ps.length + 1) (cs.flatten ++ x)) (hg : wx.grownBy wy (Value.slice A ps.length c).ownBlock)
    (hv : (Value.slice A' (ps.length + 1) c').ownBlock = (Value.slice A ps.length c).ownBlock ∨ (Value.slice A' (ps.length + 1) c').ownBlock = some wx.heap.size) :
    Td w A' c' (cs ++ [x]) (ps ++ [y]) (wy.setCell ⟨w.heap.size, 0, none⟩ (.slice A' (ps.length + 1) c')) := by
  have hD : ∀ i, some i = (Value.slice A ps.length c).ownBlock → w.heap.size + 1 ≤ i := fun i hi => (h.own.lt i hi.symm).1
  have f1 : Far (fun i => w.heap.size + 1 ≤ i ∧ some i = (Value.slice A ps.length c).ownBlock) wx wy := Far.of_grown hg fun i hi => ⟨hD i hi, hi⟩
  have f2 : Far (fun i => i = w.heap.size) wy (wy.setCell ⟨w.heap.size, 0, none⟩ (.slice A' (ps.length + 1) c')) := Far.set_ (D := fun i => i = w.heap.size) rfl 0 _
  have hlen : (ps ++ [y]).length = ps.length + 1 := by simp
  have hsz := f1.size
  have hsz2 := h.size
  have kk : ∀ (j : Nat) (x : List Value) (y : Pk), cs[j]? = some x → ps[j]? = some y → RPk wy (fun i => w.heap.size + 1 ≤ i ∧ i < wx.heap.size ∧ (Value.slice A ps.length c).ownBlock ≠ some i) x y := fun j x y h1 h2 => (h.pk j x y h1 h2).far f1 fun i hi => ⟨hi.2.1, fun e => hi.2.2 e.2.symm⟩
  have kx := hx.far f1 fun i hi => ⟨hi.2.1, fun e => hi.2.2 e.2.symm⟩
  have fin : ∀ {x2 : List Value} {y2 : Pk}, RPk wy (fun i => w.heap.size + 1 ≤ i ∧ i < wx.heap.size ∧ (Value.slice A ps.length c).ownBlock ≠ some i) x2 y2 →
      RPk (wy.setCell ⟨w.heap.size, 0, none⟩ (.slice A' (ps.length + 1) c')) (fun i => w.heap.size + 1 ≤ i ∧ i < (wy.setCell ⟨w.heap.size, 0, none⟩ (.slice A' (ps.length + 1) c')).heap.size ∧ (Value.slice A' (ps ++ [y]).length c').ownBlock ≠ some i) x2 y2 := fun hh => by
    refine (hh.far f2 fun i hi => ⟨by omega, by omega⟩).more fun i hi => ⟨hi.1, by rw [set_len]; omega, ?_⟩
    rw [hlen]
    rcases hv with e | e
    · rw [e]; exact hi.2.2
    · rw [e]; intro e'; injection e' with e'; omega
  exact {
    below := ⟨f2.base.os.trans (f1.base.os.trans h.below.os), f2.base.tape.trans (f1.base.tape.trans h.below.tape), f2.base.output.trans (f1.base.output.trans h.below.output), Nat.le_trans h.below.size (Nat.le_trans f1.size f2.size),
      fun i hi => (f2.block i (by omega) (by omega)).trans ((f1.block i (by omega) (fun e => by omega)).trans (h.below.block i hi))⟩
    t := by rw [hlen]; exact (f1.whole h.t (fun e => by omega)).set_ 0 _
    len := by simp [h.len]
    own := by
      rw [hlen, flat_snoc]
      exact f2.own hown fun g hg => by have := (hown.lt g hg).1; omega
    pk := fun j x' y' h1 h2 => by
      have hl := h.len
      by_cases hj : j < cs.length
      · rw [List.getElem?_append_left hj] at h1
        rw [List.getElem?_append_left (by omega)] at h2
        have := kk j x' y' h1 h2
        exact fin this
      · have hj' : j = cs.length := by have := (List.getElem?_eq_some_iff.1 h1).1; simp at this; omega
        subst hj'
        rw [List.getElem?_append_right (Nat.le_refl _), Nat.sub_self] at h1
        rw [hl, List.getElem?_append_right (Nat.le_refl _), Nat.sub_self] at h2
        simp only [List.getElem?_cons_zero, Option.some.injEq] at h1 h2
        subst h1 h2
        exact fin kx }
theorem Td.cap (h : Td w A c cs ps wx) : ps.length ≤ c ∧ c ≤ maxLen := by
  obtain ⟨A', c', he, h1, h2, hr⟩ := own_formK h.own
  injection he with e1 _ e2
  subst e1 e2
  exact ⟨h1, h2⟩
theorem Td.tree (h : Td w A c cs ps wx) : RTree wx (fun i => w.heap.size + 1 ≤ i ∧ i < wx.heap.size) A ps.length ps := by
  obtain ⟨A', c', he, h1, h2, hr⟩ := own_formK h.own
  injection he with e1 _ e2
  subst e1 e2
  have hrd : ∀ (j : Nat) (x : List Value) (y : Pk), cs[j]? = some x → ps[j]? = some y → RPk wx (fun i => w.heap.size + 1 ≤ i ∧ i < wx.heap.size) x y := fun j x y h1 h2 => (h.pk j x y h1 h2).more fun i hi => by omega
  refine ⟨cs, rfl, h.len, hr.more fun i hi => by have := h.own.lt i hi; omega, fun x hx => ?_, hrd⟩
  obtain ⟨j, hj, rfl⟩ := List.mem_iff_getElem.1 hx
  exact (hrd j _ (ps[j]'(by rw [← h.len]; exact hj)) (List.getElem?_eq_getElem hj) (List.getElem?_eq_getElem _)).len
end
end Go.Proofs.YtpipgffbhpnmkaaGreatDoor

namespace Qm
open Go

/-! The reader of trees, line by line. -/

def prepT (ps : List Pk) : Except (Nat × Int) (List Pk) → Except (Nat × Int) (List Pk)
  | .error e => .error e
  | .ok qs => .ok (ps ++ qs)
theorem prepT_nil (r : Except (Nat × Int) (List Pk)) : prepT [] r = r := by cases r <;> rfl
theorem prepT_snoc (ps : List Pk) (p : Pk) (r : Except (Nat × Int) (List Pk)) : prepT ps (match r with | .error e => .error e | .ok qs => .ok (p :: qs)) = prepT (ps ++ [p]) r := by
  cases r <;> simp [prepT]
theorem lines_nil {f i : Nat} : parseLines f i [] = .ok [] := by
  cases f with
  | zero => rfl
  | succ f => unfold parseLines; rw [if_pos rfl]
theorem lines_cut {f i : Nat} {s : W} (h : s ≠ []) (hc : cutAt (· == 10) s = none) : parseLines (f + 1) i s = .error (i, 1) := by
  unfold parseLines
  rw [if_neg h, hc]
theorem lines_bad {f i : Nat} {s l rest : W} {x : UInt8} {e : Int} (h : s ≠ []) (hc : cutAt (· == 10) s = some (l, x, rest)) (hp : parseLine l = .error e) : parseLines (f + 1) i s = .error (i, e) := by
  unfold parseLines
  rw [if_neg h, hc]
  simp only []
  rw [hp]
theorem lines_good {f i : Nat} {s l rest : W} {x : UInt8} {p : Pk} (h : s ≠ []) (hc : cutAt (· == 10) s = some (l, x, rest)) (hp : parseLine l = .ok p) (ps : List Pk) :
    prepT ps (parseLines (f + 1) i s) = prepT (ps ++ [p]) (parseLines f (i + 1) rest) := by
  rw [← prepT_snoc, parseLines, if_neg h, hc]
  simp only []
  rw [hp]
  cases parseLines f (i + 1) rest <;> rfl
/-- What the whole reader says, from what its lines say. -/
theorem parse_many {s : W} (h : 20000 < s.length) : parseTree s = ([], 0, 2) := by unfold parseTree; rw [if_pos h]
theorem parse_err {s : W} (h : ¬ 20000 < s.length) {i : Nat} {e : Int} (hl : parseLines (s.length + 1) 0 s = .error (i, e)) : parseTree s = ([], i, e) := by unfold parseTree; rw [if_neg h, hl]
theorem parse_ok {s : W} (h : ¬ 20000 < s.length) {ps : List Pk} (hl : parseLines (s.length + 1) 0 s = .ok ps) : parseTree s = if ckTree ps = 0 then (ps, 0, 0) else ([], 0, ckTree ps) := by unfold parseTree; rw [if_neg h, hl]
theorem line_cut {l : W} (h : cut4 l = none) : parseLine l = .error 1 := by unfold parseLine; rw [h]
theorem line_num {l a b c d e : W} (h : cut4 l = some (a, b, c, d, e)) (hn : number b = none ∨ number c = none) : parseLine l = .error 1 := by
  unfold parseLine
  rw [h]
  simp only []
  rcases hn with hn | hn
  · rw [hn]
  · rw [hn]; cases number b <;> rfl
theorem line_need {l a b c d e : W} (h : cut4 l = some (a, b, c, d, e)) {v k : Int} (hv : number b = some v) (hk : number c = some k) (hn : (parseNd e).2 ≠ 0) : parseLine l = .error (parseNd e).2 := by
  unfold parseLine
  rw [h]
  simp only []
  rw [hv, hk]
  simp only []
  by_cases h1 : (parseNd e).2 = 1
  · rw [if_pos h1, h1]
  · rw [if_neg h1, if_pos hn]
theorem line_good {l a b c d e : W} (h : cut4 l = some (a, b, c, d, e)) {v k : Int} (hv : number b = some v) (hk : number c = some k) (hn : (parseNd e).2 = 0) : parseLine l = .ok ⟨a, v, k, fsOf d, (parseNd e).1⟩ := by
  unfold parseLine
  rw [h]
  simp only []
  rw [hv, hk]
  simp only []
  rw [if_neg (by omega), if_neg (by omega)]
end Qm

/- tree.number, walked. -/
namespace Go.Proofs.YtpipgffbhpnmkaaGreatDoor
open Go.RowKit Qm
set_option maxHeartbeats 3200000 in
theorem tnumber_any (s : ByteArray) (w : World) (hs : s.size ≤ 140737488355328) (hL : LaidV w) :
    Calls Tryz.prog 89 #[.string s] w fun e w' => ∃ n, e = .returned (.tuple #[.int .i64 n, .bool (number s.data.toList).isSome]) ∧ (∀ v, number s.data.toList = some v → n = v) ∧ Below w.heap.size w w' := by
  obtain ⟨⟨tp, p, h1⟩, ⟨tp2, p2, h2⟩, h3⟩ := hL
  rcases h : Lib.atoiAll s.data.toList with v | _ | _
  · skip
    have hat := Tryz.strconv_Atoi_ok s (by omega) v h w
    obtain ⟨hv0, hv1⟩ := Lib.atoiAll_bounds h
    go_enter Tryz.func89, Tryz.ntmps89
    go_wp2_with (first | (go_at_call 115; refine hat.mono ?_; rintro e w1 ⟨rfl, hw1⟩; refine Hid.out ?_))
    have hb1 : Hid (Below w.heap.size w w1) := Lib.hid (by
      rcases hw1 with rfl | ⟨t, rfl⟩
      · exact Below.refl _ _
      · exact Lib.bytesWorld_below _ _ _)
    clear hw1
    have hit := Tryz.strconv_Itoa v (by omega) (by omega) w1 (var_below h3 hb1.out)
    have Hit := Lib.hid hit
    clear hit
    have hcmp := bs_eq (Lib.itoa v) s
    have HV := Lib.hid (show number s.data.toList = if Lib.itoa v = s.data.toList then some v else none by unfold number; rw [h])
    clear h
    generalize Lib.itoa v = T at hcmp HV Hit
    by_cases e1 : T = s.data.toList
    · rw [decide_eq_true e1] at hcmp
      have E1 := Lib.hid e1; clear e1
      refine Lib.hid ?_
      go_wp2_with (first | (go_at_call 116; refine Hit.out.mono ?_; rintro e w2 ⟨rfl, k, os, hw2⟩))
      go_ret2
      refine ⟨v, ?_, ?_, hb1.out.trans (by subst hw2; exact (Lib.below_grow _ _ (Nat.le_refl _) _ _).mono hb1.out.size)⟩
      · rw [HV.out, if_pos E1.out]; rfl
      · rw [HV.out, if_pos E1.out]; intro u hu; injection hu
    · rw [decide_eq_false e1] at hcmp
      have E1 := Lib.hid e1; clear e1
      refine Lib.hid ?_
      go_wp2_with (first | (go_at_call 116; refine Hit.out.mono ?_; rintro e w2 ⟨rfl, k, os, hw2⟩))
      go_ret2
      refine ⟨v, ?_, ?_, hb1.out.trans (by subst hw2; exact (Lib.below_grow _ _ (Nat.le_refl _) _ _).mono hb1.out.size)⟩
      · rw [HV.out, if_neg E1.out]; rfl
      · rw [HV.out, if_neg E1.out]; intro u hu; cases hu
  · have hat := Any.strconv_Atoi_syntax_var Tryz.laysC172 s (by omega) h tp p w h1
    go_enter Tryz.func89, Tryz.ntmps89
    go_wp2_with (first | (go_at_call 115; refine hat.mono ?_; rintro e w1 ⟨N, rfl, -, -, hb⟩))
    go_ret2
    have hn : number s.data.toList = none := by unfold number; rw [h]
    exact ⟨_, by rw [hn]; rfl, (by rw [hn]; intro v hv; cases hv), hb⟩
  · have hat := Tryz.strconv_Atoi_range_var s (by omega) h tp2 p2 w h2
    go_enter Tryz.func89, Tryz.ntmps89
    go_wp2_with (first | (go_at_call 115; refine hat.mono ?_; rintro e w1 ⟨N, rfl, -, -, hb⟩))
    go_ret2
    have hn : number s.data.toList = none := by unfold number; rw [h]
    exact ⟨_, by rw [hn]; rfl, (by rw [hn]; intro v hv; cases hv), hb⟩
end Go.Proofs.YtpipgffbhpnmkaaGreatDoor
