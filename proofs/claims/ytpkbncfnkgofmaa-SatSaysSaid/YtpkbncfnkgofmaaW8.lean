/- Walk: Known.Fails. -/
import Derived.Test.YtpkbncfnkgofmaaW5
import Derived.Test.YtpkbncfnkgofmaaMapSet
namespace Go.Proofs.Ytpkbncfnkgofmaa
open Go.RowKit

theorem zeroBool (w : World) : (zeroValue 4).run Try.prog w = .ok (.bool false) w := by kernel_rfl
/-- the set of known literals is that of the values -/
def RelK (N : Nat) (v : List Int) (K : Int → Bool) (m : Nat) : Prop := (∀ x, Qm.IsLit N x → K x = (Qm.vof v x == 1)) ∧ m + Qm.zeros v = N
def KVals (w wr : World) (bk N : Nat) (vc : List Int) (K : Int → Bool) (m : Nat) : Prop := IntSet Try.prog wr bk K m ∧ RelK N vc K m ∧ Qm.Fine N vc ∧ w.grownBy wr (some bk)
theorem KVals.keep0 {w wr : World} {bk N m : Nat} {S : Nat → Prop} {vc : List Int} {K : Int → Bool} (h : KVals w wr bk N vc K m) (hS : ∀ k, S k → k < w.heap.size ∧ k ≠ bk) (p : Addr) (hp : S p.block) : wr.cell? p = w.cell? p :=
  World.cell?_of_block (h.2.2.2.block p.block (hS _ hp).1 (by intro e; injection e with e; exact (hS _ hp).2 e))
def HeadN (cs : List (List Int)) (v vc : List Int) (nn : Int) (m : Nat) (k : Nat) : Prop := if nn = (m : Int) then Qm.spread cs v = some vc else Qm.zeros vc < k ∧ Qm.spread cs vc = Qm.spread cs v
def FailsPost (N : Nat) (cs : List (List Int)) (v : List Int) (bk : Nat) (w : World) (e : Ending) (w' : World) : Prop :=
  e = .returned (.bool (Qm.spread cs v).isNone) ∧ (∀ v', Qm.spread cs v = some v' → ∃ K m, IntSet Try.prog w' bk K m ∧ RelK N v' K m ∧ Qm.Fine N v') ∧ w.grownBy w' (some bk)

/-- in the scan of a clause: what is known, what is open -/
def InFails (N : Nat) (w3 w4 : World) (bk bo : Nat) (v : List Int) (K : Int → Bool) (m : Nat) (c : List Int) (r : Nat) (hh : Bool) (os : List Int) : Prop :=
  IntSet Try.prog w4 bk K m ∧ IntSet Try.prog w4 bo (fun y => decide (y ∈ os)) os.length ∧ Qm.Opens v (c.take r) os ∧ (c.take r).any (fun x => Qm.vof v x == 1) = hh ∧ w3.grownBy w4 none ∧ os.length ≤ r ∧ bk < bo ∧ w3.heap.size = bo ∧ bo < w4.heap.size
theorem InFails.start {N : Nat} {w w3 : World} {bk bo : Nat} {v : List Int} {K : Int → Bool} {m : Nat} {c : List Int} (h : KVals w w3 bk N v K m) (hb : bo = w3.heap.size) :
    InFails N w3 (w3.alloc (.map #[] 0)) bk bo v K m c 0 false [] := by
  subst hb
  exact ⟨h.1.kept (World.grownBy_alloc w3 _ none) (by simp), IntSet.made _ w3, Qm.Opens.start v, rfl, World.grownBy_alloc w3 _ none, Nat.le_refl _, h.1.lt, rfl, by simp⟩
theorem any_take_next {v c : List Int} {r : Nat} {x : Int} {hh b : Bool} (h : (c.take r).any (fun x => Qm.vof v x == 1) = hh) (hr : r < c.length) (hx : c.getD r 0 = x) (hb : b = (Qm.vof v x == 1)) : (c.take (r+1)).any (fun x => Qm.vof v x == 1) = (hh || b) := by
  rw [List.getD_eq_getElem?_getD, List.getElem?_eq_getElem hr, Option.getD_some] at hx
  rw [List.take_succ_eq_append_getElem hr, List.any_append, h, hx, hb]; simp
theorem take_next {c : List Int} {r : Nat} {x : Int} (hr : r < c.length) (hx : c.getD r 0 = x) : c.take (r+1) = c.take r ++ [x] := by
  rw [List.getD_eq_getElem?_getD, List.getElem?_eq_getElem hr, Option.getD_some] at hx
  rw [List.take_succ_eq_append_getElem hr, hx]
theorem RelK.neg {N : Nat} {v : List Int} {K : Int → Bool} {m : Nat} (h : RelK N v K m) {x : Int} (hx : Qm.IsLit N x) : K (-x) = (Qm.vof v x == -1) := by
  rw [h.1 (-x) ⟨by have := hx.1; omega, by rw [Int.natAbs_neg]; exact hx.2⟩, Qm.vof_neg v x hx.1, Bool.eq_iff_iff, beq_iff_eq, beq_iff_eq]; omega
theorem InFails.skip {N : Nat} {w3 w4 : World} {bk bo : Nat} {v : List Int} {K : Int → Bool} {m : Nat} {c : List Int} {r : Nat} {hh : Bool} {os : List Int} {x : Int} (h : InFails N w3 w4 bk bo v K m c r hh os) (hk : RelK N v K m)
    (hr : r < c.length) (hx : c.getD r 0 = x) (hlx : Qm.IsLit N x) (hn : K (-x) = true) : InFails N w3 w4 bk bo v K m c (r + 1) (hh || K x) os := by
  obtain ⟨h1, h2, h3, h4, h5, h6, h7⟩ := h
  refine ⟨h1, h2, ?_, any_take_next h4 hr hx (hk.1 x hlx), h5, by omega, h7⟩
  rw [take_next hr hx]
  exact h3.skip (by rw [hk.neg hlx] at hn; simpa using hn)
theorem InFails.put {N : Nat} {w3 w4 w5 : World} {bk bo : Nat} {v : List Int} {K : Int → Bool} {m : Nat} {c : List Int} {r : Nat} {hh : Bool} {os : List Int} {x : Int} (h : InFails N w3 w4 bk bo v K m c r hh os) (hk : RelK N v K m)
    (hr : r < c.length) (hx : c.getD r 0 = x) (hlx : Qm.IsLit N x) (hn : K (-x) = false)
    (hs : IntSet Try.prog w5 bo (fun y => y == x || decide (y ∈ os)) (if decide (x ∈ os) then os.length else os.length + 1)) (hg : w4.grownBy w5 (some bo)) (hz : w5.heap.size = w4.heap.size) :
    InFails N w3 w5 bk bo v K m c (r + 1) (hh || K x) (if x ∈ os then os else x :: os) := by
  obtain ⟨h1, h2, h3, h4, h5, h6, h7, h8, h9⟩ := h
  refine ⟨h1.kept hg (by intro e; injection e with e; omega), hs.congr ?_ ?_, ?_, any_take_next h4 hr hx (hk.1 x hlx), ?_, ?_, h7, h8, by omega⟩
  · by_cases hin : x ∈ os <;> simp [hin]
  · intro y _
    by_cases hin : x ∈ os
    · rw [if_pos hin]
      by_cases hy : y = x
      · subst hy; simp [hin]
      · simp [hy]
    · rw [if_neg hin]; simp [Bool.decide_or, List.mem_cons]
      rw [Bool.eq_iff_iff]; simp
  · rw [take_next hr hx]
    exact h3.put (by rw [hk.neg hlx] at hn; simpa using hn)
  · exact ⟨hg.os.trans h5.os, hg.tape.trans h5.tape, hg.output.trans h5.output, by have := h5.size; omega, fun k hk hne => (hg.block k (by have := h5.size; omega) (by intro e; injection e with e; omega)).trans (h5.block k hk hne)⟩
  · split
    · omega
    · simp; omega
theorem grown_then {a b c : World} {row : Option Nat} (h : a.grownBy b row) (k : b.grownBy c none) : a.grownBy c row :=
  ⟨k.os.trans h.os, k.tape.trans h.tape, k.output.trans h.output, Nat.le_trans h.size k.size, fun i hi hn => (k.block i (Nat.lt_of_lt_of_le hi h.size) (by simp)).trans (h.block i hi hn)⟩
theorem KVals.unit {N : Nat} {w w4 w6 w7 : World} {bk : Nat} {v c os : List Int} {K : Int → Bool} {m : Nat} {x : Int} (h : KVals w w4 bk N v K m) (hs : IntSet Try.prog w7 bk (fun y => y == x || K y) (if K x then m else m + 1)) (h6 : w4.grownBy w6 none) (h7 : w6.grownBy w7 (some bk))
    (hx : x ∈ c ∧ Qm.vof v x ≠ -1) (hsc : (Qm.scan v c).2 = 1 ∧ ∀ y, y ∈ os → y = (Qm.scan v c).1) (hxo : x ∈ os) (hc : Qm.IsCl N c) :
    KVals w w7 bk N (Qm.vset v (Qm.scan v c).1) (fun y => y == x || K y) (if K x then m else m + 1) := by
  obtain ⟨h1, h2, h3, h4⟩ := h
  have e := hsc.2 x hxo
  rw [← e]
  have hlx := hc x hx.1
  have hz : Qm.vof v x = 0 := by
    rcases Qm.scan_cases v c with ⟨a, _⟩ | ⟨a, _⟩ | ⟨_, _, b, _⟩ | ⟨a, _⟩
    · omega
    · omega
    · rw [e]; exact b
    · omega
  have hkx : K x = false := by rw [h2.1 x hlx, hz]; rfl
  refine ⟨hs, ⟨fun y hy => ?_, ?_⟩, Qm.vset_fine h3 _, grown_trans (grown_then h4 h6) h7⟩
  · show (y == x || K y) = _
    rw [Qm.vof_vset h3 hlx y hy.1, h2.1 y hy]
    by_cases h1 : y = x
    · subst h1; simp
    · by_cases h2 : y = -x
      · subst h2
        rw [Qm.vof_neg v x hlx.1, hz]; simp [h1]
      · simp [h1, h2]
  · rw [hkx]
    have := Qm.zeros_vset h3 hlx hz
    have := h2.2
    simp; omega
theorem HeadN.next {N : Nat} {cs : List (List Int)} {v v1 v2 : List Int} {f : Bool} {m1 m2 : Nat} (hcs : ∀ c ∈ cs, Qm.IsCl N c) (hf : Qm.Fine N v1) (h : Qm.spread cs v1 = Qm.spread cs v) (hp : Qm.pass cs v1 = some (v2, f)) (h1 : m1 + Qm.zeros v1 = N) (h2 : m2 + Qm.zeros v2 = N) :
    HeadN cs v v2 (m1 : Int) m2 (Qm.zeros v1) := by
  unfold HeadN
  rcases (Qm.pass_ok hcs hf hp).2 with ⟨e1, e2⟩ | ⟨e1, e2⟩
  · subst e1 e2
    rw [if_pos (by omega)]
    exact h.symm.trans (Qm.spread_done hcs hf hp)
  · subst e2
    rw [if_neg (by omega)]
    exact ⟨e1, by rw [← h]; exact (Qm.spread_more hcs hf hp).symm⟩

set_option maxHeartbeats 4000000 in
theorem fails_any (N : Nat) (bk nl cl m0 : Nat) (K0 : Int → Bool) (v : List Int) (Al : Option Addr) (ls : List (List (List Int))) (w : World) (S : Nat → Prop) (hN : N ≤ 400) (hk : KVals w w bk N v K0 m0)
    (hb : ∀ k, S k → k < w.heap.size ∧ k ≠ bk) (hr : RLists w S Al nl ls) (hcl : nl ≤ maxLen) (hlit : Lits N ls) :
    Calls Try.prog 46 #[.map (some bk), .slice Al nl cl] w (FailsPost N ls.flatten v bk w) := by
  unfold maxLen at hcl
  have hbw := hk.1.lt
  have Hr := Lib.hid hr; have Hlit := Lib.hid hlit; have Hk := Lib.hid hk
  clear hr hlit hk
  have hmm := @run_makeMap Try.prog
  go_enter Try.func46, Try.ntmps46
  go_wp2_with fail
  go_loopg [5] (Qm.zeros v + 1) (fun k nv wr => ∃ (vc : List Int) (K : Int → Bool) (m : Nat) (nn : Int), nv = .int .i64 nn ∧ KVals w wr bk N vc K m ∧ HeadN ls.flatten v vc nn m k)
  case atStart => exact ⟨v, K0, m0, -1, rfl, Hk.out, by unfold HeadN; rw [if_neg (by omega)]; exact ⟨by omega, rfl⟩⟩
  case round =>
    obtain ⟨wr1, rfl⟩ : ∃ x : World, x = wr := ⟨_, rfl⟩
    obtain ⟨g1, rfl⟩ : ∃ x : Nat, x = gk := ⟨_, rfl⟩
    obtain ⟨v1, K1, m1, nn, rfl, H1, H2⟩ := hrel
    have hlen := fun ty => H1.1.len_ (t := 67) Try.underlying67 ty
    by_cases hnm : nn = (m1 : Int)
    · have hne : (nn != (m1 : Int)) = false := by simpa using hnm
      have H3 : Hid (Qm.spread ls.flatten v = some v1) := by unfold HeadN at H2; rw [if_pos hnm] at H2; exact H2
      clear hnm
      go_wp2_with fail
      go_ret
      exact ⟨by rw [H3.out]; rfl, (fun v' hv' => by rw [H3.out] at hv'; injection hv' with hv'; subst hv'; exact ⟨K1, m1, H1.1, H1.2.1, H1.2.2.1⟩), H1.2.2.2⟩
    · have hne : (nn != (m1 : Int)) = true := by simpa using hnm
      have H3 : Hid (Qm.zeros v1 < g1 ∧ Qm.spread ls.flatten v1 = Qm.spread ls.flatten v) := by unfold HeadN at H2; rw [if_neg hnm] at H2; exact H2
      clear hnm
      go_wp2_with fail
      clear hlen hne
      go_loopg [23] nl (fun k i wr2 => ∃ (j : Nat) (vc : List Int) (K : Int → Bool) (m : Nat) (fl : Bool), Hid (j + k = nl) ∧ i = .int .i64 j ∧ KVals w wr2 bk N vc K m ∧ InLists ls v1 vc fl j)
      case atStart => exact ⟨0, v1, K1, m1, false, Nat.zero_add _, rfl, H1, rfl⟩
      case round =>
        obtain ⟨wr2, rfl⟩ : ∃ x : World, x = wr := ⟨_, rfl⟩
        obtain ⟨g2, rfl⟩ : ∃ x : Nat, x = gk := ⟨_, rfl⟩
        obtain ⟨j, v2, K2, m2, f2, Hjk, rfl, H4, H5⟩ := hrel
        by_cases hj : j < nl
        · obtain ⟨bl, ol, A', n', c', rfl, hbl, hcell, hcs, hnc, hcm⟩ := (Hr.out.keep (H4.keep0 hb)).at_ hj
          unfold maxLen at hcm
          have Hcs := Lib.hid hcs; clear hcs
          go_wp2_with fail
          go_loopg [29] n' (fun k i wr3 => ∃ (q : Nat) (vc : List Int) (K : Int → Bool) (m : Nat) (fl : Bool), Hid (q + k = n') ∧ i = .int .i64 q ∧ KVals w wr3 bk N vc K m ∧ InList (some (v2, f2)) (ls.getD j []) vc fl q)
          case atStart => exact ⟨0, v2, K2, m2, f2, Nat.zero_add _, rfl, H4, rfl⟩
          case round =>
            obtain ⟨wr3, rfl⟩ : ∃ x : World, x = wr := ⟨_, rfl⟩
            obtain ⟨g3, rfl⟩ : ∃ x : Nat, x = gk := ⟨_, rfl⟩
            obtain ⟨q, v3, K3, m3, f3, Hqk, rfl, H6, H7⟩ := hrel
            by_cases hq : q < n'
            · obtain ⟨bc, oc, A2, n2, c2, rfl, hbc, hcell2, hc, hnc2, hcm2⟩ := (Hcs.out.keep (fun p hp => (H6.keep0 hb p hp).trans (H4.keep0 hb p hp).symm)).at_ hq
              unfold maxLen at hcm2
              have Hc := Lib.hid hc; clear hc
              generalize hcc : (ls.getD j []).getD q [] = c at Hc
              have Hcc := Lib.hid hcc; clear hcc
              have Hic : Hid (Qm.IsCl N c) := by
                have h1 := Hlit.out _ (getD_mem (d := []) (by rw [Hr.out.len]; exact hj)) _ (getD_mem (d := []) (by rw [Hcs.out.len]; exact hq))
                rw [Hcc.out] at h1; exact h1
              obtain ⟨B3, hB3⟩ : ∃ x : Nat, x = wr3.heap.size := ⟨_, rfl⟩
              have HB3 := Lib.hid hB3; clear hB3
              go_wp2_with fail
              rw [← HB3.out]
              go_loopg [11, 36] n2 (fun k hb i wr4 => ∃ (r : Nat) (hh : Bool) (os : List Int), Hid (r + k = n2) ∧ i = .int .i64 r ∧ hb = .bool hh ∧ InFails N wr3 wr4 bk B3 v3 K3 m3 c r hh os)
              case atStart => exact ⟨0, false, [], Nat.zero_add _, rfl, rfl, InFails.start H6 HB3.out⟩
              case round =>
                obtain ⟨wr4, rfl⟩ : ∃ x : World, x = wr := ⟨_, rfl⟩
                obtain ⟨r, hh, os, Hrk, rfl, rfl, H8⟩ := hrel
                by_cases hrn : r < n2
                · have hlc : r < c.length := by rw [Hc.out.len]; exact hrn
                  obtain ⟨bi, oi, rfl, hbi, hcell3⟩ := (Hc.out.below (below_of_grown (B := w.heap.size) H8.2.2.2.2.1 H6.2.2.2.size (fun k e => by cases e)) (fun k hk => (hb k hk).1)).at_ hrn
                  generalize hx : c.getD r 0 = x at hcell3
                  have hlx : Qm.IsLit N x := by
                    have := Hic.out _ (getD_mem (d := 0) hlc); rwa [hx] at this
                  have Hlx := Lib.hid hlx
                  have Hx := Lib.hid hx; clear hx
                  have hx1 : -400 ≤ x ∧ x ≤ 400 := by have := hlx.2; omega
                  have hwx : (Lit.int .i64 x).wf = true := wf_of (by omega) (by omega)
                  have hwn : (Lit.int .i64 (-x)).wf = true := wf_of (by omega) (by omega)
                  have hl1 := H8.1.look Try.underlying3 Try.underlying4 (zeroBool _) Try.underlying67 hwx
                  have hl2 := H8.1.look Try.underlying3 Try.underlying4 (zeroBool _) Try.underlying67 hwn
                  have hor : r < 9223372036854775807 := by omega
                  clear hlx
                  cases hb2 : K3 (-x)
                  · obtain ⟨w5, hput, hset5, hg5, hs5⟩ := H8.2.1.put Try.underlying3 Try.underlying4 Try.underlying66 hwx (by have := H8.2.2.2.2.2.1; unfold maxLen; omega)
                    have Hnext := Lib.hid (InFails.put H8 H6.2.1 hlc Hx.out Hlx.out hb2 hset5 hg5 hs5)
                    rw [hb2] at hl2
                    have Hb2 := Lib.hid hb2; clear hb2 hlc hset5 hg5 hs5 hwx hwn
                    generalize K3 x = kx at hl1 Hnext
                    cases hh
                    · go_wp2_with fail
                      go_roundg (gk - 1)
                      case measure => have := Hrk.out; omega
                      case rel => exact ⟨r + 1, kx, _, by have := Hrk.out; show _ = _; omega, by go_num, rfl, Hnext.out⟩
                    · clear hl1
                      go_wp2_with fail
                      go_roundg (gk - 1)
                      case measure => have := Hrk.out; omega
                      case rel => exact ⟨r + 1, true, _, by have := Hrk.out; show _ = _; omega, by go_num, rfl, Hnext.out⟩
                  · have Hnext := Lib.hid (InFails.skip H8 H6.2.1 hlc Hx.out Hlx.out hb2)
                    rw [hb2] at hl2
                    have Hb2 := Lib.hid hb2; clear hb2 hlc hwx hwn
                    generalize K3 x = kx at hl1 Hnext
                    cases hh
                    · go_wp2_with fail
                      go_roundg (gk - 1)
                      case measure => have := Hrk.out; omega
                      case rel => exact ⟨r + 1, kx, _, by have := Hrk.out; show _ = _; omega, by go_num, rfl, Hnext.out⟩
                    · clear hl1
                      go_wp2_with fail
                      go_roundg (gk - 1)
                      case measure => have := Hrk.out; omega
                      case rel => exact ⟨r + 1, true, _, by have := Hrk.out; show _ = _; omega, by go_num, rfl, Hnext.out⟩
                · obtain rfl : r = n2 := by have := Hrk.out; omega
                  have Hop : Hid (Qm.Opens v3 c os) := by have := H8.2.2.1; rwa [List.take_of_length_le (by rw [Hc.out.len]; exact Nat.le_refl _)] at this
                  have Hany : Hid (c.any (fun x => Qm.vof v3 x == 1) = hh) := by have := H8.2.2.2.1; rwa [List.take_of_length_le (by rw [Hc.out.len]; exact Nat.le_refl _)] at this
                  have Hql : Hid (q < (ls.getD j []).length) := by rw [Hcs.out.len]; exact hq
                  have hlos : os.length ≤ 9223372036854775807 := by have := H8.2.2.2.2.2.1; omega
                  have H9 : KVals w wr4 bk N v3 K3 m3 := ⟨H8.1, H6.2.1, H6.2.2.1, grown_then H6.2.2.2 H8.2.2.2.2.1⟩
                  cases hh
                  · have hsc := (Qm.opens_cases H6.2.2.1 Hop.out).2 Hany.out
                    obtain ⟨lo, hlo⟩ : ∃ x : Nat, x = os.length := ⟨_, rfl⟩
                    have hset := H8.2.1
                    rw [← hlo] at hsc hset hlos
                    have Hlo := Lib.hid hlo; clear hlo
                    by_cases h1 : 1 < lo
                    · have Hsc := Lib.hid (hsc.1 h1); clear hsc
                      have hlen2 := fun ty => hset.len_ (t := 66) Try.underlying66 ty
                      have hd : decide ((1 : Int) < (lo : Int)) = true := by simp; omega
                      go_wp2_with fail
                      go_roundg (g3 - 1)
                      case measure => have := Hqk.out; omega
                      case rel => exact ⟨q + 1, v3, K3, m3, f3, by have := Hqk.out; show _ = _; omega, by go_num, H9, H7.next_other Hql.out Hcc.out (by have := Hsc.out; omega) (by have := Hsc.out; omega)⟩
                    · by_cases h0 : lo = 0
                      · subst h0
                        have Hsc := Lib.hid (hsc.2.1 rfl); clear hsc
                        have hlen2 := fun ty => hset.len_ (t := 66) Try.underlying66 ty
                        go_wp2_with fail
                        go_ret
                        have hn : Qm.spread ls.flatten v = none := by
                          rw [← H3.out.2]
                          exact Qm.spread_none Hlit.out.flat H1.2.2.1 (InLists.fails H5 (by rw [Hr.out.len]; exact hj) H7 Hql.out Hcc.out Hsc.out)
                        exact ⟨by rw [hn]; rfl, (fun v' hv' => by rw [hn] at hv'; cases hv'), H9.2.2.2⟩
                      · obtain rfl : lo = 1 := by omega
                        have hsc1 := hsc.2.2 rfl
                        have Hsc := Lib.hid hsc1; clear hsc hsc1
                        have hlen2 := fun ty => hset.len_ (t := 66) Try.underlying66 ty
                        obtain ⟨w5, x0, w6, D, lf, cb, hrng, hnext, hx0, hwx, hen, hrg, hbel, hg5, hs6, hs5⟩ := hset.range1 Try.underlying3 Try.underlying4 Try.underlying66 0
                        have hk6 : IntSet Try.prog w6 bk K3 m3 := H8.1.kept (grown_of_below hbel none) (by simp)
                        have hm3 : m3 < maxLen := by have := H6.2.1.2; unfold maxLen; omega
                        obtain ⟨w7, hput, hset7, hg7, hs7⟩ := hk6.put Try.underlying3 Try.underlying4 Try.underlying67 hwx hm3
                        have hend := ranges_end (hrg.kept hg7 (by intro e; injection e with e; have := H8.2.2.2.2.2.2.1; omega) (by intro e; injection e with e; have := hk6.lt; have := H8.1.lt; omega)) Try.underlying3 0
                        have Hrel := Lib.hid (KVals.unit H9 hset7 (grown_of_below hbel none) hg7 (Qm.Opens.mem Hop.out (of_decide_eq_true hx0)) Hsc.out (of_decide_eq_true hx0) Hic.out)
                        clear hx0 hwx hbel hg5 hg7 hset7 hk6 hm3 hrg h0 h1
                        go_wp2_with fail
                        refine wp_loop_rounds 2 ?_
                        rw [rounds_succ]
                        go_wp2_with fail
                        rw [rounds_succ]
                        go_wp2_with fail
                        go_roundg (g3 - 1)
                        case measure => have := Hqk.out; omega
                        case rel => exact ⟨q + 1, Qm.vset v3 (Qm.scan v3 c).1, _, _, true, by have := Hqk.out; show _ = _; omega, by go_num, Hrel.out, H7.next_unit Hql.out Hcc.out (Prod.ext rfl Hsc.out.1)⟩
                  · have Hsc := Lib.hid ((Qm.opens_cases H6.2.2.1 Hop.out).1 Hany.out)
                    go_wp2_with fail
                    go_roundg (g3 - 1)
                    case measure => have := Hqk.out; omega
                    case rel => exact ⟨q + 1, v3, K3, m3, f3, by have := Hqk.out; show _ = _; omega, by go_num, H9, H7.next_other Hql.out Hcc.out (by rw [Hsc.out]; omega) (by rw [Hsc.out]; omega)⟩
            · go_wp2_with fail
              go_roundg (g2 - 1)
              case measure => have := Hjk.out; omega
              case rel => exact ⟨j + 1, v3, K3, m3, f3, by have := Hjk.out; show _ = _; omega, by go_num, H6, InLists.next H5 (by rw [Hr.out.len]; exact hj) H7 (by rw [Hcs.out.len]; have := Hqk.out; omega)⟩
        · go_wp2_with fail
          go_roundg (Qm.zeros v1)
          case measure => exact H3.out.1
          case rel => exact ⟨v2, K2, m2, m1, rfl, H4, HeadN.next Hlit.out.flat H1.2.2.1 H3.out.2 (InLists.all H5 (by rw [Hr.out.len]; have := Hjk.out; omega)) H1.2.1.2 H4.2.1.2⟩
end Go.Proofs.Ytpkbncfnkgofmaa
