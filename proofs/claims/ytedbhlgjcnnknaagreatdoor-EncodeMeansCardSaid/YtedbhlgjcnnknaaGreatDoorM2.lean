/- Parts of the proof: walks and plain laws, side by side. -/
import Derived.Test.YtedbhlgjcnnknaaGreatDoorM1
import Derived.Deep.LoopGhost
import Derived.Test.YtedbhlgjcnnknaaGreatDoorProg
import Derived.StillTailTactics
import Derived.BigQuiet
import Derived.Maps.RangeWalk
import Derived.Maps.OwnSet
import Derived.Deep.RegionHeld3
set_option linter.unusedVariables false
set_option linter.unusedSimpArgs false
set_option linter.unusedSectionVars false
/- Walk: Values.Spread. -/
namespace Go.Proofs.YtedbhlgjcnnknaaGreatDoor
open Go.RowKit

theorem fine_bd {N : Nat} {v : List Int} (h : Qm.Fine N v) : ∀ y ∈ v, -1 ≤ y ∧ y ≤ 1 := fun y hy => by have := h.2 y hy; omega

def Lits (N : Nat) (ls : List (List (List Int))) : Prop := ∀ l ∈ ls, ∀ c ∈ l, Qm.IsCl N c
theorem Lits.flat {N : Nat} {ls : List (List (List Int))} (h : Lits N ls) : ∀ c ∈ ls.flatten, Qm.IsCl N c := by
 intro c hc
 obtain ⟨l, hl, hc⟩ := List.mem_flatten.1 hc
 exact h l hl c hc
def Vals (w wr : World) (b N : Nat) (vc : List Int) : Prop := Whole wr b 3 (vc.map (Value.int .i64)) ∧ Qm.Fine N vc ∧ w.grownBy wr (some b) ∧ wr.heap.size = w.heap.size
def Head (cs : List (List Int)) (v vc : List Int) (k : Nat) (m : Bool) : Prop := if m then Qm.zeros vc < k ∧ Qm.spread cs vc = Qm.spread cs v else Qm.spread cs v = some vc
def InLists (ls : List (List (List Int))) (v1 vc : List Int) (m : Bool) (j : Nat) : Prop := (ls.take j).flatten.foldl Qm.passOne (some (v1, false)) = some (vc, m)
def InList (s : Option (List Int × Bool)) (l : List (List Int)) (vc : List Int) (m : Bool) (j : Nat) : Prop := (l.take j).foldl Qm.passOne s = some (vc, m)
def InScan (v c : List Int) (k : Nat) (l o : Int) : Prop := (c.take k).foldl (Qm.scanStep v) (0, 0) = (l, o) ∧ 0 ≤ o ∧ o ≤ k

theorem Vals.keep0 {w wr : World} {b N : Nat} {S : Nat → Prop} {vc : List Int} (h : Vals w wr b N vc) (hS : ∀ k, S k → k < w.heap.size ∧ k ≠ b) (p : Addr) (hp : S p.block) : wr.cell? p = w.cell? p :=
 World.cell?_of_block (h.2.2.1.block p.block (hS _ hp).1 (by intro e; injection e with e; exact (hS _ hp).2 e))
theorem Vals.keepFrom {w wr wr' : World} {b N : Nat} {S : Nat → Prop} {vc vc' : List Int} (h : Vals w wr b N vc) (h' : Vals w wr' b N vc') (hS : ∀ k, S k → k < w.heap.size ∧ k ≠ b) (p : Addr) (hp : S p.block) : wr'.cell? p = wr.cell? p :=
 (h'.keep0 hS p hp).trans (h.keep0 hS p hp).symm
theorem InScan.next {v c : List Int} {q : Nat} {l o x : Int} (h : InScan v c q l o) (hq : q < c.length) (hx : c.getD q 0 = x) : (c.take (q+1)).foldl (Qm.scanStep v) (0, 0) = Qm.scanStep v (l, o) x := by
 rw [Qm.foldl_take_succ _ _ _ _ 0 hq, h.1, hx]
theorem scanStep_hold {v : List Int} {l o x : Int} (ho : 0 ≤ o) (h : Qm.vof v x = 1) : Qm.scanStep v (l, o) x = (l, -1) := by
 unfold Qm.scanStep; rw [if_neg (by simp; omega), if_pos h]
theorem scanStep_new {v : List Int} {l o x : Int} (ho : 0 ≤ o) (h : Qm.vof v x = 0) (h1 : o = 0 ∨ o = 1 ∧ l ≠ x) : Qm.scanStep v (l, o) x = (x, o + 1) := by
 unfold Qm.scanStep; rw [if_neg (by simp; omega), if_neg (by omega), if_pos ⟨h, h1⟩]
theorem scanStep_old {v : List Int} {l o x : Int} (ho : 0 ≤ o) (h : Qm.vof v x = 0) (h1 : ¬ (o = 0 ∨ o = 1 ∧ l ≠ x)) : Qm.scanStep v (l, o) x = (l, o) := by
 unfold Qm.scanStep; rw [if_neg (by simp; omega), if_neg (by omega), if_neg (fun h => h1 h.2)]
theorem scanStep_fail {v : List Int} {l o x : Int} (ho : 0 ≤ o) (h : Qm.vof v x = -1) : Qm.scanStep v (l, o) x = (l, o) := by
 unfold Qm.scanStep; rw [if_neg (by simp; omega), if_neg (by omega), if_neg (fun h => by omega)]
theorem InScan.done {v c : List Int} {q : Nat} {l o : Int} (h : InScan v c q l o) (hq : q = c.length) : Qm.scan v c = (l, o) := by
 unfold Qm.scan; rw [← h.1, hq, List.take_length]
theorem InList.next_other {s : Option (List Int × Bool)} {l : List (List Int)} {vc : List Int} {m : Bool} {q : Nat} {c : List Int} (h : InList s l vc m q) (hq : q < l.length) (hc : l.getD q [] = c) (h0 : (Qm.scan vc c).2 ≠ 0) (h1 : (Qm.scan vc c).2 ≠ 1) :
  InList s l vc m (q + 1) := by
 unfold InList at h ⊢
 rw [Qm.foldl_take_succ _ _ _ _ [] hq, h, hc, Qm.passOne_other h0 h1]
theorem InList.next_unit {s : Option (List Int × Bool)} {l : List (List Int)} {vc : List Int} {m : Bool} {q : Nat} {c : List Int} {x : Int} (h : InList s l vc m q) (hq : q < l.length) (hc : l.getD q [] = c) (h0 : Qm.scan vc c = (x, 1)) :
  InList s l (Qm.vset vc x) true (q + 1) := by
 unfold InList at h ⊢
 rw [Qm.foldl_take_succ _ _ _ _ [] hq, h, hc, Qm.passOne_unit (by rw [h0]), h0]
theorem InLists.next {ls : List (List (List Int))} {v1 vc v3 : List Int} {m m3 : Bool} {j q : Nat} (h : InLists ls v1 vc m j) (hj : j < ls.length) (h6 : InList (some (vc, m)) (ls.getD j []) v3 m3 q) (hq : q = (ls.getD j []).length) :
  InLists ls v1 v3 m3 (j + 1) := by
 unfold InLists at h ⊢
 unfold InList at h6
 rw [hq, List.take_length] at h6
 rw [Qm.flatten_take_succ _ _ hj, List.foldl_append, h, h6]
theorem InLists.fails {ls : List (List (List Int))} {v1 vc v3 : List Int} {m m3 : Bool} {j q : Nat} {c : List Int} (h : InLists ls v1 vc m j) (hj : j < ls.length) (h6 : InList (some (vc, m)) (ls.getD j []) v3 m3 q) (hq : q < (ls.getD j []).length)
  (hc : (ls.getD j []).getD q [] = c) (h0 : (Qm.scan v3 c).2 = 0) : Qm.pass ls.flatten v1 = none := by
 have e : ls.flatten = (ls.take (j+1)).flatten ++ (ls.drop (j+1)).flatten := by rw [← List.flatten_append, List.take_append_drop]
 unfold InLists at h
 unfold InList at h6
 unfold Qm.pass
 rw [e, List.foldl_append, Qm.flatten_take_succ _ _ hj, List.foldl_append, h, Qm.foldl_take_drop _ _ (ls.getD j []) (q+1), Qm.foldl_take_succ _ _ _ _ [] hq, h6, hc, Qm.passOne_fails h0, Qm.passOne_none, Qm.passOne_none]
theorem InLists.all {ls : List (List (List Int))} {v1 vc : List Int} {m : Bool} {j : Nat} (h : InLists ls v1 vc m j) (hj : j = ls.length) : Qm.pass ls.flatten v1 = some (vc, m) := by
 unfold InLists at h
 rw [hj, List.take_length] at h
 exact h
theorem Head.next {N : Nat} {cs : List (List Int)} {v v1 v2 : List Int} {m : Bool} (hcs : ∀ c ∈ cs, Qm.IsCl N c) (hf : Qm.Fine N v1) (h : Qm.spread cs v1 = Qm.spread cs v) (hp : Qm.pass cs v1 = some (v2, m)) : Head cs v v2 (Qm.zeros v1) m := by
 cases m with
 | true =>
  refine ⟨?_, by rw [← h]; exact (Qm.spread_more hcs hf hp).symm⟩
  rcases (Qm.pass_ok hcs hf hp).2 with ⟨_, h⟩ | ⟨h, _⟩
  ·cases h
  ·exact h
 | false => exact (h.symm.trans (Qm.spread_done hcs hf hp) : Qm.spread cs v = some v2)
theorem getD_mem {α : Type} {l : List α} {k : Nat} {d : α} (h : k < l.length) : l.getD k d ∈ l := by
 rw [List.getD_eq_getElem?_getD, List.getElem?_eq_getElem h]; exact List.getElem_mem h
def SpreadPost (cs : List (List Int)) (v : List Int) (b : Nat) (w : World) (e : Ending) (w' : World) : Prop :=
 e = .returned (.bool (Qm.spread cs v).isSome) ∧ (∀ v', Qm.spread cs v = some v' → Whole w' b 3 (v'.map (Value.int .i64))) ∧ w.grownBy w' (some b) ∧ w'.heap.size = w.heap.size

set_option maxHeartbeats 4000000 in
theorem spread_any (N : Nat) (b cap nl cl : Nat) (v : List Int) (Al : Option Addr) (ls : List (List (List Int))) (w : World) (S : Nat → Prop) (hN : N ≤ 400) (hv : Qm.Fine N v) (hw : Whole w b 3 (v.map (Value.int .i64)))
  (hb : ∀ k, S k → k < w.heap.size ∧ k ≠ b) (hr : RLists w S Al nl ls) (hcl : nl ≤ maxLen) (hlit : Lits N ls) :
  Calls Tryz.prog 61 #[.slice (some ⟨b, 0, none⟩) (N + 1) cap, .slice Al nl cl] w (SpreadPost ls.flatten v b w) := by
 unfold maxLen at hcl
 have hbw := hw.lt
 have Hr := qh hr; have Hlit := qh hlit; have Hv := qh hv; have Hw := qh hw
 clear hr hlit hv hw
 go_enter Tryz.func61, Tryz.ntmps61
 go_wp2_with fail
 go_loopg [5] (Qm.zeros v + 1) (fun k m wr => ∃ vc m', m = .bool m' ∧ Vals w wr b N vc ∧ Head ls.flatten v vc k m')
 case atStart => exact ⟨v, true, rfl, ⟨Hw.out, Hv.out, World.grownBy.refl w _, rfl⟩, by omega, rfl⟩
 case round =>
  obtain ⟨v1, m1, rfl, H1, H2⟩ := hrel
  cases m1 with
  | false =>
   go_wp2_with fail
   go_ret
   obtain ⟨h1, h2, h3, h4⟩ := H1
   have h6 : Qm.spread ls.flatten v = some v1 := H2
   refine ⟨by rw [h6]; rfl, fun v' hv' => ?_, h3, h4⟩
   rw [h6] at hv'; injection hv' with hv'; subst hv'; exact h1
  | true =>
   go_wp2_with fail
   go_loopg [5, 17] nl (fun k m i wr2 => ∃ (j : Nat) (vc : List Int) (m' : Bool), j + k = nl ∧ i = .int .i64 j ∧ m = .bool m' ∧ Vals w wr2 b N vc ∧ InLists ls v1 vc m' j)
   case atStart => exact ⟨0, v1, false, by omega, rfl, rfl, H1, rfl⟩
   case round =>
    obtain ⟨wr2, rfl⟩ : ∃ x : World, x = wr := ⟨_, rfl⟩
    obtain ⟨g2, rfl⟩ : ∃ x : Nat, x = gk := ⟨_, rfl⟩
    obtain ⟨j, v2, m2, hjk, rfl, rfl, H3, H4⟩ := hrel
    have Hjk := qh hjk; clear hjk
    by_cases hj : j < nl
    ·obtain ⟨bl, ol, A', n', c', rfl, hbl, hcell, hcs, hnc, hcm⟩ := (Hr.out.keep (H3.keep0 hb)).at_ hj
     unfold maxLen at hcm
     have Hcs := qh hcs; clear hcs
     go_wp2_with fail
     go_loopg [5, 23] n' (fun k m i wr3 => ∃ (q : Nat) (vc : List Int) (m' : Bool), Hid (q + k = n') ∧ i = .int .i64 q ∧ m = .bool m' ∧ Vals w wr3 b N vc ∧ InList (some (v2, m2)) (ls.getD j []) vc m' q)
     case atStart => exact ⟨0, v2, m2, Nat.zero_add _, rfl, rfl, H3, rfl⟩
     case round =>
      obtain ⟨wr3, rfl⟩ : ∃ x : World, x = wr := ⟨_, rfl⟩
      obtain ⟨g3, rfl⟩ : ∃ x : Nat, x = gk := ⟨_, rfl⟩
      obtain ⟨q, v3, m3, Hqk, rfl, rfl, H5, H6⟩ := hrel
      by_cases hq : q < n'
      ·obtain ⟨bc, oc, A2, n2, c2, rfl, hbc, hcell2, hc, hnc2, hcm2⟩ := (Hcs.out.keep (Vals.keepFrom H3 H5 hb)).at_ hq
       unfold maxLen at hcm2
       have Hc := qh hc; clear hc
       generalize hcc : (ls.getD j []).getD q [] = c at Hc
       have Hcc := qh hcc; clear hcc
       go_wp2_with fail
       go_loopg [10, 11, 29] n2 (fun k lf op i wr4 => ∃ (r : Nat) (l o : Int), Hid (r + k = n2) ∧ i = .int .i64 r ∧ lf = .int .i64 l ∧ op = .int .i64 o ∧ wr3 = wr4 ∧ InScan v3 c r l o)
       case atStart => exact ⟨0, 0, 0, Nat.zero_add _, rfl, rfl, rfl, rfl, rfl, by omega, by omega⟩
       case round =>
        obtain ⟨r, l, o, Hrk, rfl, rfl, rfl, hwr, H7⟩ := hrel
        subst hwr
        by_cases hrn : r < n2
        ·obtain ⟨bi, oi, rfl, hbi, hcell3⟩ := Hc.out.at_ hrn
         generalize hx : c.getD r 0 = x at hcell3
         have Hx := qh hx; clear hx
         have Hlc : Hid (r < c.length) := by rw [Hc.out.len]; exact hrn
         have Hn := H7.next Hlc.out Hx.out
         have hlx : Qm.IsLit N x := by
          have h1 := Hlit.out _ (getD_mem (d := []) (by rw [Hr.out.len]; exact hj)) _ (getD_mem (d := []) (by rw [Hcs.out.len]; exact hq))
          rw [Hcc.out] at h1
          have h2 := h1 _ (getD_mem (d := 0) Hlc.out)
          rwa [Hx.out] at h2
         have ho1 := H7.2.1
         have ho2 := H7.2.2
         have hd : -((N + 1 : Nat) : Int) < x ∧ x < ((N + 1 : Nat) : Int) := by have := hlx.1; have := hlx.2; omega
         have hcall := of_any (some ⟨b, 0, none⟩) (N + 1) cap v3 x wr3 (fun k => k = b) (Whole.ints (S := fun k => k = b) H5.1 rfl H5.2.1.1) (by omega) hd (fine_bd H5.2.1)
         rcases Qm.vof_range H5.2.1 x with h0 | h0 | h0
         ·rw [h0] at hcall
          have H0 := qh h0; clear h0
          have Hcall := qh hcall; clear hcall hd hlx
          by_cases hnew : o = 0 ∨ o = 1 ∧ l ≠ x
          ·rw [scanStep_new ho1 H0.out hnew] at Hn
           have HN := qh Hn; clear Hn
           rcases hnew with h1 | ⟨h1, h2⟩
           ·obtain rfl : o = 0 := h1
            go_wp2_with fail
            refine Hcall.out.mono ?_
            rintro e w' ⟨rfl, rfl⟩
            go_wp2_with fail
            go_roundg (gk - 1)
            case measure => have := Hrk.out; omega
            case rel => exact ⟨r + 1, x, 1, by have := Hrk.out; show _ = _; omega, by go_num, rfl, rfl, rfl, HN.out, by omega, by omega⟩
           ·obtain rfl : o = 1 := h1
            have h3 : (l != x) = true := by simpa using h2
            clear h2
            go_wp2_with fail
            refine Hcall.out.mono ?_
            rintro e w' ⟨rfl, rfl⟩
            go_wp2_with fail
            go_roundg (gk - 1)
            case measure => have := Hrk.out; omega
            case rel => exact ⟨r + 1, x, 2, by have := Hrk.out; show _ = _; omega, by go_num, rfl, rfl, rfl, HN.out, by omega, by omega⟩
          ·rw [scanStep_old ho1 H0.out hnew] at Hn
           have HN := qh Hn; clear Hn
           have h1 : (o == 0) = false := by simp; omega
           by_cases ho : o = 1
           ·obtain rfl : o = 1 := ho
            have h3 : (l != x) = false := by simp; omega
            clear hnew
            go_wp2_with fail
            refine Hcall.out.mono ?_
            rintro e w' ⟨rfl, rfl⟩
            go_wp2_with fail
            go_roundg (gk - 1)
            case measure => have := Hrk.out; omega
            case rel => exact ⟨r + 1, l, 1, by have := Hrk.out; show _ = _; omega, by go_num, rfl, rfl, rfl, HN.out, by omega, by omega⟩
           ·have h3 : (o == 1) = false := by simp; omega
            clear hnew
            go_wp2_with fail
            refine Hcall.out.mono ?_
            rintro e w' ⟨rfl, rfl⟩
            go_wp2_with fail
            go_roundg (gk - 1)
            case measure => have := Hrk.out; omega
            case rel => exact ⟨r + 1, l, o, by have := Hrk.out; show _ = _; omega, by go_num, rfl, rfl, rfl, HN.out, by omega, by omega⟩
         ·rw [h0] at hcall
          have H0 := qh h0; clear h0
          have Hcall := qh hcall; clear hcall hd hlx
          rw [scanStep_hold ho1 H0.out] at Hn
          have Hsc := qh (Qm.scan_break Hn (by show (-1 : Int) < 0; omega)); clear Hn
          go_wp2_with fail
          refine Hcall.out.mono ?_
          rintro e w' ⟨rfl, rfl⟩
          go_wp2_with fail
          go_roundg (g3 - 1)
          case measure => have := Hqk.out; omega
          case rel => exact ⟨q + 1, v3, m3, by have := Hqk.out; show _ = _; omega, by go_num, rfl, H5, H6.next_other (by rw [(Hcs.out).len]; exact hq) Hcc.out (by rw [Hsc.out]; show (-1 : Int) ≠ 0; omega) (by rw [Hsc.out]; show (-1 : Int) ≠ 1; omega)⟩
         ·rw [h0] at hcall
          have H0 := qh h0; clear h0
          have Hcall := qh hcall; clear hcall hd hlx
          rw [scanStep_fail ho1 H0.out] at Hn
          have HN := qh Hn; clear Hn
          go_wp2_with fail
          refine Hcall.out.mono ?_
          rintro e w' ⟨rfl, rfl⟩
          go_wp2_with fail
          go_roundg (gk - 1)
          case measure => have := Hrk.out; omega
          case rel => exact ⟨r + 1, l, o, by have := Hrk.out; show _ = _; omega, by go_num, rfl, rfl, rfl, HN.out, by omega, by omega⟩
        ·have Hsc := qh (H7.done (by rw [Hc.out.len]; have := Hrk.out; omega))
         have ho1 := H7.2.1
         by_cases h0 : o = 0
         ·obtain rfl : o = 0 := h0
          go_wp2_with fail
          go_ret
          have hn : Qm.spread ls.flatten v = none := by
           rw [← H2.2]
           exact Qm.spread_none Hlit.out.flat H1.2.1 (InLists.fails H4 (by rw [Hr.out.len]; exact hj) H6 (by rw [Hcs.out.len]; exact hq) Hcc.out (by rw [Hsc.out]))
          exact ⟨by rw [hn]; rfl, (fun v' hv' => by rw [hn] at hv'; cases hv'), H5.2.2.1, H5.2.2.2⟩
         ·have h0' : (o == 0) = false := by simpa using h0
          by_cases h1 : o = 1
          ·obtain rfl : o = 1 := h1
           have hlx : Qm.IsLit N l := by
            have h1 := Hlit.out _ (getD_mem (d := []) (by rw [Hr.out.len]; exact hj)) _ (getD_mem (d := []) (by rw [Hcs.out.len]; exact hq))
            rw [Hcc.out] at h1
            have := Qm.scan_unit_mem (v := v3) (c := c) (by rw [Hsc.out])
            rw [Hsc.out] at this
            exact h1 _ this
           have hd : -((N + 1 : Nat) : Int) < l ∧ l < ((N + 1 : Nat) : Int) := by have := hlx.1; have := hlx.2; omega
           have hcall := set_any b 3 (N + 1) cap v3 l wr3 H5.2.1.1 H5.1 (by omega) hd
           have Hcall := qh hcall; clear hcall hd hlx
           go_wp2_with fail
           refine Hcall.out.mono ?_
           rintro e w5 ⟨rfl, hw5⟩
           go_wp2_with fail
           go_roundg (g3 - 1)
           case measure => have := Hqk.out; omega
           case rel => exact ⟨q + 1, Qm.vset v3 l, true, by have := Hqk.out; show _ = _; omega, by go_num, rfl, ⟨hw5.1, Qm.vset_fine H5.2.1 _, grown_trans H5.2.2.1 hw5.2.1, hw5.2.2.trans H5.2.2.2⟩, H6.next_unit (by rw [Hcs.out.len]; exact hq) Hcc.out Hsc.out⟩
          ·have h1' : (o == 1) = false := by simpa using h1
           clear h0 h1
           go_wp2_with fail
           go_roundg (g3 - 1)
           case measure => have := Hqk.out; omega
           case rel => exact ⟨q + 1, v3, m3, by have := Hqk.out; show _ = _; omega, by go_num, rfl, H5, H6.next_other (by rw [(Hcs.out).len]; exact hq) Hcc.out (by rw [Hsc.out]; exact beq_eq_false_iff_ne.1 h0') (by rw [Hsc.out]; exact beq_eq_false_iff_ne.1 h1')⟩
      ·go_wp2_with fail
       go_roundg (g2 - 1)
       case measure => have := Hjk.out; omega
       case rel => exact ⟨j + 1, v3, m3, by have := Hjk.out; omega, by go_num, rfl, H5, InLists.next H4 (by rw [Hr.out.len]; exact hj) H6 (by rw [Hcs.out.len]; have := Hqk.out; omega)⟩
    ·go_wp2_with fail
     go_roundg (Qm.zeros v1)
     case measure => exact H2.1
     case rel => exact ⟨v2, m2, rfl, H3, Head.next Hlit.out.flat H1.2.1 H2.2 (InLists.all H4 (by rw [Hr.out.len]; have := Hjk.out; omega))⟩
end Go.Proofs.YtedbhlgjcnnknaaGreatDoor

/- Walk: rup.step. -/
namespace Go.Proofs.YtedbhlgjcnnknaaGreatDoor
open Go.RowKit
def zeroObj (N : Nat) : Obj := .cells ((Qm.zeroVals N).map (Value.int .i64)).toArray 3
theorem int_info : (Tryz.prog.info? 3).map (fun i => (i.zero, i.size, i.bytes)) = some (some (.int .i64 0), 1, 8) := by kernel_rfl
theorem run_make_zeros (N : Nat) (hN : N ≤ 400) (w : World) : (Instr.makeSlice 113 (.int .i64 ((N : Int) + 1)) (.int .i64 ((N : Int) + 1))).run Tryz.prog w = .ok (.slice (some ⟨w.heap.size, 0, none⟩) (N + 1) (N + 1)) (w.alloc (zeroObj N)) := by
 obtain ⟨i, hi, hz, h1, h8⟩ := info_parts int_info
 have hr := run_make (P := Tryz.prog) w 113 3 i (.int .i64 0) Tryz.underlying113 hi hz .i64 .i64 ((N : Int) + 1) ((N : Int) + 1) (by omega) (by omega) (by rw [h8]; omega) (by omega)
 rw [hr]
 have e : ((N : Int) + 1).toNat = N + 1 := by omega
 rw [e, h1, Nat.mul_one]
 have : madeCells (Value.int .i64 0).cells (N + 1) = ((Qm.zeroVals N).map (Value.int .i64)).toArray := by
  apply Array.ext'
  have := toList_madeCells_one (Value.int .i64 0) (N + 1)
  show (madeCells #[Value.int .i64 0] (N + 1)).toList = _
  rw [this]; simp [Qm.zeroVals]
 rw [this]; rfl
theorem whole_zeros (w : World) (N b : Nat) (hb : b = w.heap.size) : Whole (w.alloc (zeroObj N)) b 3 ((Qm.zeroVals N).map (Value.int .i64)) := Whole.new w b 3 _ hb

theorem rlists1 {w : World} {S : Nat → Prop} {b : Nat} {t : TypeId} {A1 : Option Addr} {n1 c1 : Nat} {cs1 : List (List Int)} (hw : Whole w b t [.slice A1 n1 c1]) (hB : S b) (h1 : RClauses w S A1 n1 cs1)
  (hc1 : n1 ≤ c1 ∧ c1 ≤ maxLen) : RLists w S (some ⟨b, 0, none⟩) 1 [cs1] := by
 refine ⟨[(A1, n1, c1)], hw.row hB rfl, rfl, fun j h c hh hc => ?_⟩
 match j with
 | 0 => simp at hh hc; subst hh hc; exact ⟨h1, hc1⟩
 | j + 1 => simp at hh

def StepRel (N : Nat) (w : World) (f : Obj) (wr : World) (ls : List Int) (k : Nat) (vc : List Int) : Prop :=
 Whole wr (w.heap.size + 1) 3 (vc.map (Value.int .i64)) ∧ Qm.Fine N vc ∧ ((w.alloc f).alloc (zeroObj N)).grownBy wr (some (w.heap.size + 1)) ∧ wr.heap.size = w.heap.size + 2 ∧ (ls.take k).foldl Qm.assume1 (some (Qm.zeroVals N)) = some vc
theorem StepRel.below {N : Nat} {w wr : World} {f : Obj} {ls : List Int} {k : Nat} {vc : List Int} (h : StepRel N w f wr ls k vc) : Below w.heap.size w wr :=
 (((Below.refl _ _).alloc (qr _) _).alloc (by simp) _).trans (below_of_grown h.2.2.1 (by simp; omega) (fun k e => by injection e with e; omega))
theorem StepRel.cell {N : Nat} {w wr : World} {x y : Value} {t : TypeId} {ls : List Int} {k : Nat} {vc : List Int} (h : StepRel N w (.cells #[x, y] t) wr ls k vc) :
  wr.cell? ⟨w.heap.size, 0, none⟩ = some x ∧ wr.cell? ⟨w.heap.size, 1, none⟩ = some y := by
 have hb := h.2.2.1.block w.heap.size (by simp; omega) (by intro e; injection e with e; omega)
 rw [heap_alloc2_old] at hb
 exact ⟨by rw [cell_of_row _ _ _ _ _ _ hb]; rfl, by rw [cell_of_row _ _ _ _ _ _ hb]; rfl⟩

end Go.Proofs.YtedbhlgjcnnknaaGreatDoor

/- Walks. -/
namespace Go.Proofs.YtedbhlgjcnnknaaGreatDoor
open Go.RowKit
def badLit (vars n : Int) : Bool := decide (vars < 0) || n == 0 || decide (n < -vars) || decide (n > vars)
def ckClause (c : List Int) (vars : Int) : Int := if 60 < c.length then 2 else if c.any (badLit vars) then 5 else 0
theorem any_take_succ (p : Int → Bool) (c : List Int) (k : Nat) (h : k < c.length) : (c.take (k+1)).any p = ((c.take k).any p || p (c.getD k 0)) := by
  rw [List.take_succ_eq_append_getElem h]; rw [List.any_append]; simp [List.getD, h]
theorem any_of_take (p : Int → Bool) (c : List Int) (k : Nat) (h : (c.take k).any p = true) : c.any p = true := by
  rw [List.any_eq_true] at h ⊢
  obtain ⟨x, hx, hp⟩ := h
  exact ⟨x, List.mem_of_mem_take hx, hp⟩
theorem ckClause_bad {c : List Int} {vars x : Int} {n k : Nat} (hn : c.length = n) (h60 : ¬ 60 < n) (hk : k < n) (hx : c.getD k 0 = x) (h : badLit vars x = true) : ckClause c vars = 5 := by
  subst hn hx
  unfold ckClause
  rw [if_neg h60, if_pos]
  exact any_of_take _ _ (k+1) (by rw [any_take_succ _ _ _ hk, h]; simp)
theorem ckClause_end {c : List Int} {vars : Int} {n k : Nat} (hn : c.length = n) (h60 : ¬ 60 < n) (hk : ¬ k < n) (h : (c.take k).any (badLit vars) = false) : ckClause c vars = 0 := by
  subst hn
  unfold ckClause
  rw [List.take_of_length_le (by omega)] at h
  rw [if_neg h60, if_neg]
  rw [h]; simp
theorem anyBad_step {c : List Int} {p : Int → Bool} {x : Int} {n k : Nat} (hn : c.length = n) (hk : k < n) (hx : c.getD k 0 = x) (h : (c.take k).any p = false) (h1 : p x = false) : (c.take (k+1)).any p = false := by
  subst hn hx
  rw [any_take_succ _ _ _ hk, h, h1]; rfl

theorem badLit_yes {vars x : Int} (h : vars < 0 ∨ x = 0 ∨ x < -vars ∨ vars < x) : badLit vars x = true := by
  simp only [badLit, Bool.or_eq_true, decide_eq_true_eq, beq_iff_eq]; omega
theorem badLit_no {vars x : Int} (h : ¬ (vars < 0 ∨ x = 0 ∨ x < -vars ∨ vars < x)) : badLit vars x = false := by
  rw [Bool.eq_false_iff]; intro h'; simp only [badLit, Bool.or_eq_true, decide_eq_true_eq, beq_iff_eq] at h'; omega

set_option maxHeartbeats 400000 in
theorem checkClause_any (A : Option Addr) (n cap : Nat) (c : List Int) (vars : Int) (w : World) (S : Nat → Prop) (hr : RInts w S A n c) (hn : n ≤ maxLen) (hv : -9223372036854775808 ≤ vars) (hv' : vars ≤ 9223372036854775807) :
    Calls Tryz.prog 69 #[.slice A n cap, .int .i64 vars] w fun e w' => e = .returned (.int .i64 (ckClause c vars)) ∧ w = w' := by
  unfold maxLen at hn
  have Hlen := qh hr.len
  by_cases h60 : 60 < n
  · have h60' : (60 : Int) < (n : Int) := by omega
    go_enter Tryz.func69, Tryz.ntmps69
    go_wp2
    go_ret
    exact ⟨ret_int (by unfold ckClause; rw [if_pos (by have := Hlen.out; omega)]), rfl⟩
  · have hd60 : decide ((60 : Int) < (n : Int)) = false := by simp; omega
    go_enter Tryz.func69, Tryz.ntmps69
    go_wp2
    go_loop [12] (fun i => ∃ k : Nat, k ≤ n ∧ i = .int .i64 k ∧ (c.take k).any (badLit vars) = false) (fun i => n - (intOf i).toNat)
    case atStart => exact ⟨0, Nat.zero_le _, rfl, rfl⟩
    case round =>
      obtain ⟨k, hk, rfl, hany⟩ := hrel
      have Hany := qh hany; clear hany
      by_cases hlt : k < n
      · obtain ⟨b, o, rfl, hb, hc⟩ := hr.at_ hlt
        generalize hx : c.getD k 0 = x at hc
        have Hx := qh hx; clear hx
        rcases Decidable.em (x = 0) with h0 | h0
        · have h1 : (x == 0) = true := by simpa using h0
          have h2 := qh h0; clear h0
          go_wp2
          all_goals (go_ret; exact ⟨ret_int (ckClause_bad Hlen.out h60 hlt Hx.out (badLit_yes (.inr (.inl h2.out)))).symm, rfl⟩)
        have h1 : (x == 0) = false := by simpa using h0
        go_wp2
        all_goals first
          | (go_ret; refine ⟨ret_int ?_, rfl⟩; exact (ckClause_bad Hlen.out h60 hlt Hx.out (badLit_yes (by omega))).symm)
          | (go_round
             case rel => refine ⟨k + 1, by omega, by go_num, anyBad_step Hlen.out hlt Hx.out Hany.out (badLit_no (by omega))⟩
             case measure => simp [intOf]; omega)
      · go_wp2
        go_ret
        exact ⟨ret_int (ckClause_end Hlen.out h60 hlt Hany.out).symm, rfl⟩
end Go.Proofs.YtedbhlgjcnnknaaGreatDoor

/- Walks: the checks of a formula and of a proof, the program's and the document's. -/
namespace Go.Proofs.YtedbhlgjcnnknaaGreatDoor
open Go.RowKit
def ckClauses (cs : List (List Int)) (vars : Int) : Int := match cs.find? (fun c => ckClause c vars != 0) with | some c => ckClause c vars | none => 0
def ckFormula (vars : Int) (cs : List (List Int)) : Int := if vars < 0 ∨ 400 < vars then 3 else if 4000 < cs.length then 2 else ckClauses cs vars
def ckProof (cs : List (List Int)) (vars : Int) : Int := if vars < 0 ∨ 400 < vars then 3 else if 40000 < cs.length then 2 else ckClauses cs vars
def NoneBad (cs : List (List Int)) (vars : Int) (k : Nat) : Prop := ∀ c ∈ cs.take k, ckClause c vars = 0
theorem ckClauses_bad {cs : List (List Int)} {vars : Int} {k : Nat} {c : List Int} (h : NoneBad cs vars k) (hk : k < cs.length) (hc : cs.getD k [] = c) (hb : (ckClause c vars != 0) = true) : ckClauses cs vars = ckClause c vars := by
 have e : cs = cs.take k ++ c :: cs.drop (k+1) := by
  rw [List.getD_eq_getElem?_getD, List.getElem?_eq_getElem hk, Option.getD_some] at hc
  rw [← hc, List.getElem_cons_drop, List.take_append_drop]
 unfold ckClauses
 rw [e, List.find?_append]
 have : (cs.take k).find? (fun c => ckClause c vars != 0) = none := by
  rw [List.find?_eq_none]; intro x hx; rw [h x hx]; simp
 rw [this, Option.none_or]; simp only [List.find?_cons, hb]
theorem NoneBad.next {cs : List (List Int)} {vars : Int} {k : Nat} {c : List Int} (h : NoneBad cs vars k) (hk : k < cs.length) (hc : cs.getD k [] = c) (hb : (ckClause c vars != 0) = false) : NoneBad cs vars (k+1) := by
 intro x hx
 rw [List.take_succ_eq_append_getElem hk] at hx
 rcases List.mem_append.1 hx with hx | hx
 ·exact h x hx
 ·rw [List.getD_eq_getElem?_getD, List.getElem?_eq_getElem hk, Option.getD_some] at hc
  simp at hx; subst hx; rw [hc]; simpa using hb
theorem ckClauses_good {cs : List (List Int)} {vars : Int} {k : Nat} (h : NoneBad cs vars k) (hk : k = cs.length) : ckClauses cs vars = 0 := by
 unfold ckClauses
 have : cs.find? (fun c => ckClause c vars != 0) = none := by
  rw [List.find?_eq_none]; intro x hx; rw [h x (by rw [hk, List.take_length]; exact hx)]; simp
 rw [this]

set_option maxHeartbeats 1000000 in
theorem checkFormula_any (A : Option Addr) (n cap : Nat) (cs : List (List Int)) (vars : Int) (w : World) (S : Nat → Prop) (hr : RClauses w S A n cs) (hS : ∀ k, S k → k < w.heap.size) (hn : n ≤ maxLen) (hv : -9223372036854775808 ≤ vars) (hv' : vars ≤ 9223372036854775807) :
  Calls Tryz.prog 23 #[.agg #[.int .i64 vars, .slice A n cap]] w fun e w' => e = .returned (.int .i64 (ckFormula vars cs)) ∧ Below w.heap.size w w' := by
 unfold maxLen at hn
 have Hlen := qh hr.len
 have Hr := qh hr; clear hr
 have Hw : Hid (∀ o, Below w.heap.size w (w.alloc o)) := fun o => (Below.refl _ _).alloc (qr _) o
 by_cases h0 : vars < 0
 ·go_enter Tryz.func23, Tryz.ntmps23
  go_wp2_with fail
  go_ret
  exact ⟨ret_int (by unfold ckFormula; rw [if_pos (.inl h0)]), Hw.out _⟩
 have h0' : decide (vars < 0) = false := by simpa using h0
 by_cases h4 : 400 < vars
 ·go_enter Tryz.func23, Tryz.ntmps23
  go_wp2_with fail
  go_ret
  exact ⟨ret_int (by unfold ckFormula; rw [if_pos (.inr h4)]), Hw.out _⟩
 have h4' : decide (400 < vars) = false := by simpa using h4
 have H3 : Hid (¬ (vars < 0 ∨ 400 < vars)) := by show ¬ _; omega
 by_cases hm : 4000 < n
 ·have hm' : decide ((4000 : Int) < (n : Int)) = true := by simp; omega
  go_enter Tryz.func23, Tryz.ntmps23
  go_wp2_with fail
  go_ret
  exact ⟨ret_int (by unfold ckFormula; rw [if_neg H3.out, if_pos (by rw [Hlen.out]; exact hm)]), Hw.out _⟩
 have hm' : decide ((4000 : Int) < (n : Int)) = false := by simp; omega
 have H5 : Hid (ckFormula vars cs = ckClauses cs vars) := by show _ = _; unfold ckFormula; rw [if_neg H3.out, if_neg (by rw [Hlen.out]; exact hm)]
 go_enter Tryz.func23, Tryz.ntmps23
 go_wp2_with fail
 go_loopg [21] n (fun g i wr => ∃ k : Nat, Hid (k + g = n) ∧ i = .int .i64 k ∧ NoneBad cs vars k ∧ Hid (w.alloc (.cells #[.int .i64 vars, .slice A n cap] 33) = wr))
 case atStart => exact ⟨0, Nat.zero_add _, rfl, fun c hc => by simp at hc, rfl⟩
 case round =>
  obtain ⟨k, Hk, rfl, hbad, Hwr⟩ := hrel
  obtain rfl := Hwr.out
  clear Hwr
  have Hbad := qh hbad; clear hbad
  by_cases hk : k < n
  ·obtain ⟨b, o, A', n', c', rfl, hb, hcell, hc, hnc, hcm⟩ := (Hr.out.below (Hw.out (.cells #[.int .i64 vars, .slice A n cap] 33)) hS).at_ hk
   unfold maxLen at hcm
   have hcall := checkClause_any A' n' c' _ vars _ _ hc (by unfold maxLen; omega) hv hv'
   generalize hcc : cs.getD k [] = c at hcall
   have Hcc := qh hcc; clear hcc hc
   generalize hx : ckClause c vars = x at hcall
   have Hx := qh hx; clear hx
   have Hcall := qh hcall; clear hcall
   by_cases hx0 : (x != 0) = true
   ·go_wp2_with fail
    refine Hcall.out.mono ?_
    rintro e w' ⟨rfl, rfl⟩
    go_wp2_with fail
    go_ret
    exact ⟨ret_int (by rw [H5.out, ckClauses_bad Hbad.out (by rw [Hlen.out]; exact hk) Hcc.out (by rw [Hx.out]; exact hx0), Hx.out]), Hw.out _⟩
   ·have hx1 : (x != 0) = false := by simpa using hx0
    clear hx0
    go_wp2_with fail
    refine Hcall.out.mono ?_
    rintro e w' ⟨rfl, rfl⟩
    go_wp2_with fail
    go_roundg (gk - 1)
    case measure => have := Hk.out; omega
    case rel => exact ⟨k + 1, by have := Hk.out; show _ = _; omega, by go_num, Hbad.out.next (by rw [Hlen.out]; exact hk) Hcc.out (by rw [Hx.out]; exact hx1), rfl⟩
  ·go_wp2_with fail
   go_ret
   exact ⟨ret_int (by rw [H5.out, ckClauses_good Hbad.out (by rw [Hlen.out]; have := Hk.out; omega)]), Hw.out _⟩
end Go.Proofs.YtedbhlgjcnnknaaGreatDoor

/- Walks: the check of a proof, the program's and the document's. -/
namespace Go.Proofs.YtedbhlgjcnnknaaGreatDoor
open Go.RowKit
end Go.Proofs.YtedbhlgjcnnknaaGreatDoor

/- Walks: rup.Bad, rup.Refutes. -/
namespace Go.Proofs.YtedbhlgjcnnknaaGreatDoor
open Go.RowKit
def badFrom (N : Nat) (cs : List (List Int)) (pf : List (List Int)) : Nat → Nat → Int
 | _, 0 => -1
 | k, g + 1 => if Qm.rupStep N (cs ++ pf.take k) (pf.getD k []) then badFrom N cs pf (k + 1) g else k
def badOf (N : Nat) (cs pf : List (List Int)) : Int := badFrom N cs pf 0 pf.length
def badErr (vars : Int) (cs pf : List (List Int)) : Int := if ckFormula vars cs ≠ 0 then ckFormula vars cs else ckProof pf vars
def badK (vars : Int) (cs pf : List (List Int)) : Int := if badErr vars cs pf ≠ 0 then 0 else badOf vars.toNat cs pf
def refOk (vars : Int) (cs pf : List (List Int)) : Bool := decide (badErr vars cs pf = 0) && decide (badK vars cs pf < 0) && decide (0 < pf.length) && decide ((pf.getD (pf.length - 1) []).length = 0)

theorem ck_lits {vars : Int} {cs : List (List Int)} (h : ckClauses cs vars = 0) : ∀ c ∈ cs, ckClause c vars = 0 := by
 intro c hc
 unfold ckClauses at h
 split at h
 ·rename_i d hd
  have := List.find?_some hd
  simp at this; exact absurd h this
 ·rename_i hn
  have := List.find?_eq_none.1 hn c hc
  simpa using this
theorem ckClause_lit {N : Nat} {c : List Int} (h : ckClause c (N : Int) = 0) : Qm.IsCl N c ∧ c.length ≤ 60 := by
 unfold ckClause at h
 split at h
 ·omega
 ·split at h
  ·omega
  ·rename_i h1 h2
   refine ⟨fun x hx => ?_, by omega⟩
   have h3 : badLit (N : Int) x = false := by
    cases hb : badLit (N : Int) x
    ·rfl
    ·exact absurd (List.any_eq_true.2 ⟨x, hx, hb⟩) h2
   have h4 : ¬ ((N : Int) < 0 ∨ x = 0 ∨ x < -(N : Int) ∨ (N : Int) < x) := by
    intro h5
    rw [badLit_yes h5] at h3; cases h3
   exact ⟨by omega, by omega⟩
theorem ckFormula_ok {vars : Int} {cs : List (List Int)} (h : ckFormula vars cs = 0) : ∃ N : Nat, vars = N ∧ N ≤ 400 ∧ cs.length ≤ 4000 ∧ ∀ c ∈ cs, Qm.IsCl N c ∧ c.length ≤ 60 := by
 unfold ckFormula at h
 split at h
 ·omega
 ·split at h
  ·omega
  ·obtain ⟨N, rfl⟩ : ∃ N : Nat, vars = N := ⟨vars.toNat, by omega⟩
   exact ⟨N, rfl, by omega, by omega, fun c hc => ckClause_lit (ck_lits h c hc)⟩
end Go.Proofs.YtedbhlgjcnnknaaGreatDoor

/- Walks: slices.IndexFunc, slices.ContainsFunc of ints with a function value that only reads. -/
namespace Go.Proofs.YtedbhlgjcnnknaaGreatDoor
open Go.RowKit
def Asks (w : World) (F : FuncId) (caps : Array Value) (xs : List Int) (p : Int → Bool) : Prop :=
 (∀ (args : Array Value) (W : World), (callFunc F args).run Tryz.prog W = .ok (.enter F args) W) ∧ ∀ x ∈ xs, ∀ d, Calls Tryz.prog F (#[.int .i64 x] ++ caps) (w.drewN d) fun e w' => e = .returned (.bool (p x)) ∧ ∃ q, w' = w.drewN q
def idxOf (p : Int → Bool) (xs : List Int) : Int := match xs.findIdx? p with | some i => (i : Int) | none => -1
theorem idxOf_hit {p : Int → Bool} {xs : List Int} {k : Nat} {x : Int} (hk : k < xs.length) (hx : xs.getD k 0 = x) (hp : p x = true) (hn : (xs.take k).any p = false) : idxOf p xs = k := by
 have e : xs = xs.take k ++ x :: xs.drop (k+1) := by
  rw [List.getD_eq_getElem?_getD, List.getElem?_eq_getElem hk, Option.getD_some] at hx
  rw [← hx, List.getElem_cons_drop, List.take_append_drop]
 have h1 : (xs.take k).findIdx? p = none := by
  rw [List.findIdx?_eq_none_iff]; intro y hy; exact by simpa using List.any_eq_false.1 hn y hy
 unfold idxOf
 rw [e, List.findIdx?_append, h1]
 simp [List.findIdx?_cons, hp]; omega
theorem idxOf_none {p : Int → Bool} {xs : List Int} (h : xs.any p = false) : idxOf p xs = -1 := by
 have h1 : xs.findIdx? p = none := by
  rw [List.findIdx?_eq_none_iff]; intro y hy; exact by simpa using List.any_eq_false.1 h y hy
 unfold idxOf; rw [h1]
theorem idxOf_any (p : Int → Bool) (xs : List Int) : (decide (idxOf p xs ≥ 0)) = xs.any p := by
 cases h : xs.any p
 ·rw [idxOf_none h]; rfl
 ·unfold idxOf
  cases h1 : xs.findIdx? p with
  | none =>
   rw [List.findIdx?_eq_none_iff] at h1
   obtain ⟨x, hx, hp⟩ := List.any_eq_true.1 h
   rw [h1 x hx] at hp; cases hp
  | some i => simp
theorem take_any_succ {p : Int → Bool} {xs : List Int} {k : Nat} {x : Int} (hk : k < xs.length) (hx : xs.getD k 0 = x) (hp : p x = false) (hn : (xs.take k).any p = false) : (xs.take (k+1)).any p = false := by
 rw [List.getD_eq_getElem?_getD, List.getElem?_eq_getElem hk, Option.getD_some] at hx
 rw [List.take_succ_eq_append_getElem hk, List.any_append, hn, hx]; simp [hp]

end Go.Proofs.YtedbhlgjcnnknaaGreatDoor

/- Walks: slices.IndexFunc, slices.ContainsFunc of a clause with a function value that only reads. -/
namespace Go.Proofs.YtedbhlgjcnnknaaGreatDoor
open Go.RowKit
set_option maxHeartbeats 1000000 in
theorem indexFuncC_any (A : Option Addr) (n c : Nat) (xs : List Int) (F : FuncId) (caps : Array Value) (p : Int → Bool) (w : World) (S : Nat → Prop) (hr : RInts w S A n xs) (hn : n ≤ maxLen) (hp : Asks w F caps xs p) :
  Calls Tryz.prog 88 #[.slice A n c, .func (.func F) #[] caps] w fun e w' => e = .returned (.int .i64 (idxOf p xs)) ∧ ∃ q, w' = w.drewN q := by
 unfold maxLen at hn
 have Hlen := qh hr.len
 have Hp := qh hp; have Hr := qh hr
 clear hp hr
 go_enter Tryz.func88, Tryz.ntmps88
 go_wp2_with fail
 go_loopg [8] n (fun g i wr => ∃ (k d : Nat), Hid (k + g = n) ∧ i = .int .i64 k ∧ wr = w.drewN d ∧ Hid ((xs.take k).any p = false))
 case atStart => exact ⟨0, 0, Nat.zero_add _, rfl, rfl, rfl⟩
 case round =>
  obtain ⟨k, d, Hk, rfl, rfl, Hany⟩ := hrel
  by_cases hk : k < n
  ·obtain ⟨b, o, rfl, hb, hc⟩ := Hr.out.at_ hk
   have hlc : k < xs.length := by rw [Hlen.out]; exact hk
   generalize hx : xs.getD k 0 = x at hc
   have Hx := qh hx; clear hx
   have Hlc := qh hlc; clear hlc
   have Hcall := qh (Hp.out.2 x (by rw [← Hx.out, List.getD_eq_getElem?_getD, List.getElem?_eq_getElem Hlc.out]; exact List.getElem_mem _) d)
   have henter := Hp.out.1
   generalize hpx : p x = px at Hcall
   have Hpx := qh hpx; clear hpx
   go_wp2_with fail
   refine Hcall.out.mono ?_
   rintro e w' ⟨rfl, q, rfl⟩
   cases px
   ·go_wp2_with fail
    go_roundg (gk - 1)
    case measure => have := Hk.out; omega
    case rel => exact ⟨k + 1, q, by have := Hk.out; show _ = _; omega, by go_num, rfl, take_any_succ Hlc.out Hx.out Hpx.out Hany.out⟩
   ·go_wp2_with fail
    go_ret
    exact ⟨ret_int (idxOf_hit Hlc.out Hx.out Hpx.out Hany.out).symm, _, rfl⟩
  ·go_wp2_with fail
   go_ret
   have hk' : k = n := by have := Hk.out; omega
   subst hk'
   refine ⟨ret_int ?_, _, rfl⟩
   rw [idxOf_none]
   have := Hany.out
   rwa [List.take_of_length_le (by rw [Hlen.out]; exact qr _)] at this
set_option maxHeartbeats 400000 in
theorem containsFuncC_any (A : Option Addr) (n c : Nat) (xs : List Int) (F : FuncId) (caps : Array Value) (p : Int → Bool) (w : World) (S : Nat → Prop) (hr : RInts w S A n xs) (hn : n ≤ maxLen) (hp : Asks w F caps xs p) :
  Calls Tryz.prog 62 #[.slice A n c, .func (.func F) #[] caps] w fun e w' => e = .returned (.bool (xs.any p)) ∧ ∃ q, w' = w.drewN q := by
 have Hcall := qh (indexFuncC_any A n c xs F caps p w S hr hn hp)
 clear hr hp
 go_enter Tryz.func62, Tryz.ntmps62
 go_wp2_with fail
 refine Hcall.out.mono ?_
 rintro e w' ⟨rfl, q, rfl⟩
 generalize hi : idxOf p xs = i
 have Hi := qh hi; clear hi
 go_wp2_with fail
 go_ret
 refine ⟨ret_bool ?_, _, rfl⟩
 rw [← idxOf_any, Hi.out]
end Go.Proofs.YtedbhlgjcnnknaaGreatDoor

/-
 Plain: what spreads is sound: it holds in each model; a clause that follows at once holds.
-/
namespace Qm
def litHolds (m : List Bool) (n : Int) : Bool := m.getD (n.natAbs - 1) false == decide (0 < n)
def holdsF (m : List Bool) (cs : List (List Int)) : Bool := cs.all fun c => c.any (litHolds m)
theorem litHolds_neg (m : List Bool) {n : Int} (h : n ≠ 0) : litHolds m (-n) = !litHolds m n := by
 unfold litHolds
 rw [Int.natAbs_neg]
 have : decide (0 < -n) = !decide (0 < n) := by
  rw [Bool.eq_iff_iff]; simp; omega
 rw [this]
 cases m.getD (n.natAbs - 1) false <;> cases decide (0 < n) <;> rfl
def Agrees (N : Nat) (m : List Bool) (v : List Int) : Prop := ∀ n, IsLit N n → vof v n = 1 → litHolds m n = true
theorem Agrees.fails {N : Nat} {m : List Bool} {v : List Int} (h : Agrees N m v) {n : Int} (hn : IsLit N n) (hv : vof v n = -1) : litHolds m n = false := by
 have h1 : vof v (-n) = 1 := by rw [vof_neg v n hn.1, hv]; rfl
 have h2 := h (-n) ⟨by have := hn.1; omega, by rw [Int.natAbs_neg]; exact hn.2⟩ h1
 rw [litHolds_neg m hn.1] at h2; simpa using h2
theorem Agrees.zero (N : Nat) (m : List Bool) : Agrees N m (zeroVals N) := by
 intro n _ h
 have hz : ∀ k, (zeroVals N).getD k 0 = 0 := by
  intro k; rw [List.getD_eq_getElem?_getD, zeroVals, List.getElem?_replicate]; split <;> rfl
 unfold vof at h
 rw [hz, hz] at h
 split at h <;> omega
theorem Agrees.set {N : Nat} {m : List Bool} {v : List Int} (hf : Fine N v) (h : Agrees N m v) {n : Int} (hn : IsLit N n) (hm : litHolds m n = true) : Agrees N m (vset v n) := by
 intro k hk h1
 rw [vof_vset hf hn k hk.1] at h1
 split at h1
 ·rename_i e; rw [e]; exact hm
 ·split at h1
  ·omega
  ·exact h k hk h1
theorem scan_sound {N : Nat} {m : List Bool} {v c : List Int} (hf : Fine N v) (h : Agrees N m v) (hc : IsCl N c) (hh : c.any (litHolds m) = true) :
  (scan v c).2 ≠ 0 ∧ ((scan v c).2 = 1 → litHolds m (scan v c).1 = true) := by
 obtain ⟨x, hx, hxm⟩ := List.any_eq_true.1 hh
 rcases scan_cases v c with ⟨e, _⟩ | ⟨e, h2⟩ | ⟨e, h2, h3, h4⟩ | ⟨e, _⟩
 ·exact ⟨by omega, by omega⟩
 ·have := h2 x hx
  have hv : vof v x = -1 := by rcases vof_range hf x with a | a | a <;> omega
  rw [h.fails (hc x hx) hv] at hxm; cases hxm
 ·refine ⟨by omega, fun _ => ?_⟩
  have := h4 x hx
  rcases vof_range hf x with a | a | a
  ·rw [← this.2 a]; exact hxm
  ·exact absurd a this.1
  ·rw [h.fails (hc x hx) a] at hxm; cases hxm
 ·exact ⟨by omega, by omega⟩
theorem passOne_sound {N : Nat} {m : List Bool} {v c : List Int} {b : Bool} (hf : Fine N v) (h : Agrees N m v) (hc : IsCl N c) (hh : c.any (litHolds m) = true) :
  ∃ v' b', passOne (some (v, b)) c = some (v', b') ∧ Fine N v' ∧ Agrees N m v' := by
 obtain ⟨h0, h1⟩ := scan_sound hf h hc hh
 by_cases e : (scan v c).2 = 1
 ·exact ⟨_, _, passOne_unit e, vset_fine hf _, h.set hf (hc _ (scan_unit_mem e)) (h1 e)⟩
 ·exact ⟨_, _, passOne_other h0 e, hf, h⟩
theorem pass_sound {N : Nat} {m : List Bool} {cs : List (List Int)} (hc : ∀ c ∈ cs, IsCl N c) (hh : holdsF m cs = true) : ∀ {v : List Int} {b : Bool}, Fine N v → Agrees N m v →
  ∃ v' b', cs.foldl passOne (some (v, b)) = some (v', b') ∧ Fine N v' ∧ Agrees N m v' := by
 induction cs with
 | nil => intro v b hf h; exact ⟨v, b, rfl, hf, h⟩
 | cons c cs ih =>
  intro v b hf h
  have hh' := List.all_eq_true.1 hh
  obtain ⟨v1, b1, e1, hf1, h1⟩ := passOne_sound (b := b) hf h (hc c (by simp)) (hh' c (by simp))
  rw [List.foldl_cons, e1]
  exact ih (fun d hd => hc d (by simp [hd])) (List.all_eq_true.2 fun d hd => hh' d (by simp [hd])) hf1 h1
theorem spreadN_sound {N : Nat} {m : List Bool} {cs : List (List Int)} (hc : ∀ c ∈ cs, IsCl N c) (hh : holdsF m cs = true) : ∀ (k : Nat) {v : List Int}, Fine N v → Agrees N m v →
  ∃ v', spreadN cs k v = some v' ∧ Fine N v' ∧ Agrees N m v' := by
 intro k
 induction k with
 | zero => intro v hf h; exact ⟨v, rfl, hf, h⟩
 | succ k ih =>
  intro v hf h
  obtain ⟨v1, b1, e1, hf1, h1⟩ := pass_sound hc hh (b := false) hf h
  have e1' : pass cs v = some (v1, b1) := e1
  simp only [spreadN, e1']
  cases b1 with
  | true => exact ih hf1 h1
  | false => exact ⟨v1, rfl, hf1, h1⟩
theorem spread_sound {N : Nat} {m : List Bool} {cs : List (List Int)} (hc : ∀ c ∈ cs, IsCl N c) (hh : holdsF m cs = true) {v : List Int} (hf : Fine N v) (h : Agrees N m v) : ∃ v', spread cs v = some v' ∧ Fine N v' ∧ Agrees N m v' :=
 spreadN_sound hc hh _ hf h
theorem assume_sound {N : Nat} {m : List Bool} {ls : List Int} (hl : ∀ n ∈ ls, IsLit N n ∧ litHolds m n = true) : ∀ {v : List Int}, Fine N v → Agrees N m v → ∃ v', ls.foldl assume1 (some v) = some v' ∧ Fine N v' ∧ Agrees N m v' := by
 induction ls with
 | nil => intro v hf h; exact ⟨v, rfl, hf, h⟩
 | cons n ls ih =>
  intro v hf h
  obtain ⟨hn, hm⟩ := hl n (by simp)
  have hv : vof v n ≠ -1 := by intro e; rw [h.fails hn e] at hm; cases hm
  rw [List.foldl_cons]
  have : assume1 (some v) n = some (vset v n) := by simp only [assume1]; rw [if_neg hv]
  rw [this]
  exact ih (fun k hk => hl k (by simp [hk])) (vset_fine hf _) (h.set hf hn hm)
end Qm

/- Walks: cnf.abs, the closure of cnf.Holds, cnf.Holds. -/
namespace Go.Proofs.YtedbhlgjcnnknaaGreatDoor
open Go.RowKit


def holdsErr (vars : Int) (cs : List (List Int)) (m : List Bool) : Int := if ckFormula vars cs ≠ 0 then ckFormula vars cs else if (m.length : Int) ≠ vars then 4 else 0
def holdsOk (vars : Int) (cs : List (List Int)) (m : List Bool) : Bool := decide (holdsErr vars cs m = 0) && Qm.holdsF m cs

set_option maxHeartbeats 400000 in
theorem abs_any (x : Int) (w : World) (h1 : -9223372036854775807 ≤ x) (h2 : x ≤ 9223372036854775807) : Calls Tryz.prog 64 #[.int .i64 x] w fun e w' => e = .returned (.int .i64 (x.natAbs : Int)) ∧ w = w' := by
 by_cases h : x < -x
 ·have h' : (x.natAbs : Int) = -x := by omega
  have H := qh h'; clear h'
  go_enter Tryz.func64, Tryz.ntmps64
  go_wp2
  go_ret
  exact ⟨ret_int H.out.symm, rfl⟩
 ·have h' : (x.natAbs : Int) = x := by omega
  have H := qh h'; clear h'
  go_enter Tryz.func64, Tryz.ntmps64
  go_wp2
  go_ret
  exact ⟨ret_int H.out.symm, rfl⟩
set_option maxHeartbeats 1000000 in
theorem holdsLit_any (x : Int) (bm : Nat) (Am : Option Addr) (nm cm : Nat) (m : List Bool) (w : World) (S : Nat → Prop) (hc : w.cell? ⟨bm, 0, none⟩ = some (.slice Am nm cm)) (hm : RBools w S Am nm m) (hx : Qm.IsLit nm x) (hn : nm ≤ 400) :
  Calls Tryz.prog 63 #[.int .i64 x, .pointer (some ⟨bm, 0, none⟩)] w fun e w' => e = .returned (.bool (Qm.litHolds m x)) ∧ ∃ q, w' = w.drewN q := by
 obtain ⟨h0, h1⟩ := hx
 obtain ⟨b, o, rfl, hb, hcell⟩ := hm.at_ (k := x.natAbs - 1) (by omega)
 have hlo : -400 ≤ x ∧ x ≤ 400 := by omega
 have hr : Qm.litHolds m x = (m.getD (x.natAbs - 1) false == decide (0 < x)) := rfl
 have ha : ∀ d, Calls Tryz.prog 64 #[.int .i64 x] (w.drewN d) fun e w' => e = .returned (.int .i64 (x.natAbs : Int)) ∧ w' = w.drewN d := fun d => (abs_any x _ (by omega) (by omega)).mono fun _ _ h => ⟨h.1, h.2.symm⟩
 generalize m.getD (x.natAbs - 1) false = v at hcell hr
 have ha1 : 1 ≤ x.natAbs := by omega
 have ha2 : x.natAbs ≤ nm := h1
 generalize x.natAbs = a at hcell ha ha1 ha2
 have Ha := qh ha; have Hr := qh hr
 clear ha hr hm h1
 have q3 : (((a : Int) - 1)).toNat = a - 1 := by omega
 have q2 : (0 : Int) ≤ (a : Int) - 1 := by omega
 have q4 : (a : Int) - 1 < nm := by omega
 have q1 : IntKind.i64.wrap ((a : Int) - 1) = (a : Int) - 1 := IntWalk.i64_in _ (by omega)
 go_enter Tryz.func63, Tryz.ntmps63
 go_wp2_with fail
 go_quiet ((go_at_call 64; exact Calls.quiet_of_same (Ha.out _)))
 clear q1 q2 q3 q4
 go_wp2_with fail
 go_ret
 exact ⟨ret_bool Hr.out.symm, _, rfl⟩
end Go.Proofs.YtedbhlgjcnnknaaGreatDoor

/-
 A map from ints to bools all of whose entries hold: a set of ints. What the operations on it give.
-/
namespace Go.Proofs.YtedbhlgjcnnknaaGreatDoor
open Go.RowKit

def IntSet (P : Program) (w : World) (b : Nat) (K : Int → Bool) (m : Nat) : Prop :=
 ∃ D : DataW Unit, w.ownsMap P 3 (plainElem P 4) b m D ∧ Maps.size D = m ∧ ∀ x : Int, (Lit.int .i64 x).wf = true → Maps.has D (.int .i64 x) = K x ∧ D.atKey (.int .i64 x) (.lit (.bool false)) = .lit (.bool (K x))

section
variable {P : Program} {w w' : World} {b m : Nat} {K : Int → Bool}
theorem wf_of {x : Int} (h1 : -9223372036854775808 ≤ x) (h2 : x ≤ 9223372036854775807) : (Lit.int .i64 x).wf = true := WalkArith.wf_i64 (by omega)
theorem IntSet.lt (h : IntSet P w b K m) : b < w.heap.size := by obtain ⟨D, h1, _⟩ := h; exact h1.lt
end
end Go.Proofs.YtedbhlgjcnnknaaGreatDoor

/- Walk: Known.Fails. -/
namespace Go.Proofs.YtedbhlgjcnnknaaGreatDoor
open Go.RowKit

def RelK (N : Nat) (v : List Int) (K : Int → Bool) (m : Nat) : Prop := (∀ x, Qm.IsLit N x → K x = (Qm.vof v x == 1)) ∧ m + Qm.zeros v = N
theorem RelK.neg {N : Nat} {v : List Int} {K : Int → Bool} {m : Nat} (h : RelK N v K m) {x : Int} (hx : Qm.IsLit N x) : K (-x) = (Qm.vof v x == -1) := by
 rw [h.1 (-x) ⟨by have := hx.1; omega, by rw [Int.natAbs_neg]; exact hx.2⟩, Qm.vof_neg v x hx.1, Bool.eq_iff_iff, beq_iff_eq, beq_iff_eq]; omega
end Go.Proofs.YtedbhlgjcnnknaaGreatDoor

/- Walk: the document's BadOf. -/
namespace Go.Proofs.YtedbhlgjcnnknaaGreatDoor
open Go.RowKit
theorem vset_same {N : Nat} {v : List Int} (hv : Qm.Fine N v) {n : Int} (hn : Qm.IsLit N n) (h : Qm.vof v n = 1) : Qm.vset v n = v := by
 have hl := hv.1
 have key : ∀ (k : Nat) (x : Int), k < v.length → v.getD k 0 = x → v.set k x = v := by
  intro k x hk hx
  rw [List.getD_eq_getElem?_getD, List.getElem?_eq_getElem hk, Option.getD_some] at hx
  subst hx; exact List.set_getElem_self hk
 unfold Qm.vof at h
 unfold Qm.vset
 have := hn.1; have := hn.2
 by_cases h0 : n < 0
 ·rw [if_pos h0] at h ⊢; exact key _ _ (by omega) (by omega)
 ·rw [if_neg h0] at h ⊢; exact key _ _ (by omega) h
theorem RelK.set {N : Nat} {v : List Int} {K : Int → Bool} {m : Nat} (h : RelK N v K m) (hf : Qm.Fine N v) {n : Int} (hn : Qm.IsLit N n) (hc : Qm.vof v n ≠ -1) : RelK N (Qm.vset v n) (fun y => y == n || K y) (if K n then m else m + 1) := by
 have hkn := h.1 n hn
 rcases Qm.vof_range hf n with h0 | h0 | h0
 ·refine ⟨fun y hy => ?_, ?_⟩
  ·show (y == n || K y) = _
   rw [Qm.vof_vset hf hn y hy.1, h.1 y hy]
   by_cases h1 : y = n
   ·subst h1; simp
   ·by_cases h2 : y = -n
    ·subst h2; rw [Qm.vof_neg v n hn.1, h0]; simp [h1]
    ·simp [h1, h2]
  ·have := Qm.zeros_vset hf hn h0
   have := h.2
   have hk : K n = false := by rw [hkn, h0]; rfl
   rw [hk]; simp; omega
 ·rw [vset_same hf hn h0]
  have hk : K n = true := by rw [hkn, h0]; rfl
  rw [hk]
  refine ⟨fun y hy => ?_, by simpa using h.2⟩
  show (y == n || K y) = _
  rw [h.1 y hy]
  by_cases h1 : y = n
  ·subst h1; rw [h0]; simp
  ·simp [h1]
 ·exact absurd h0 hc
end Go.Proofs.YtedbhlgjcnnknaaGreatDoor
