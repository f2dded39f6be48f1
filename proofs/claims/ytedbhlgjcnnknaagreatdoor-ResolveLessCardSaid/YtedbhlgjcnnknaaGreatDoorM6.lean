/- Parts of the proof: walks and plain laws, side by side. -/
import Derived.Test.YtedbhlgjcnnknaaGreatDoorM5
import Derived.Deep.LoopGhost
import Derived.Test.YtedbhlgjcnnknaaGreatDoorProg
import Derived.Test.YtedbhlgjcnnknaaGreatDoorM1
import Derived.StillTailTactics
import Derived.BigQuiet
import Derived.Deep.AppendLies
import Derived.OwnWalk
import Derived.Maps.AppendAt
import Derived.Lib.AppendZerosOnto
import Derived.Lib.Walk
import Derived.Test.YtedbhlgjcnnknaaGreatDoorM2
import Derived.WalkSpells
set_option linter.unusedVariables false
set_option linter.unusedSimpArgs false
set_option linter.unusedSectionVars false
namespace Go.Proofs.YtedbhlgjcnnknaaGreatDoor
/- Walk: Values.Spread. -/
section
open Go.RowKit

theorem fine_bd {N : Nat} {v : List Int} (h : Qm.Fine N v) : ∀ y ∈ v, -1 ≤ y ∧ y ≤ 1 := fun y hy => by have := h.2 y hy; omega

def Lits (N : Nat) (ls : List (List (List Int))) : Prop := ∀ l ∈ ls, ∀ c ∈ l, Qm.IsCl N c
theorem Lits.flat {N : Nat} {ls : List (List (List Int))} (h : Lits N ls) : ∀ c ∈ ls.flatten, Qm.IsCl N c := by
 intro c hc
 obtain ⟨l, hl, hc⟩ := List.mem_flatten.1 hc
 exact h l hl c hc
def Head (cs : List (List Int)) (v vc : List Int) (k : Nat) (m : Bool) : Prop := if m then Qm.zeros vc < k ∧ Qm.spread cs vc = Qm.spread cs v else Qm.spread cs v = some vc
def InLists (ls : List (List (List Int))) (v1 vc : List Int) (m : Bool) (j : Nat) : Prop := (ls.take j).flatten.foldl Qm.passOne (some (v1, false)) = some (vc, m)
def InList (s : Option (List Int × Bool)) (l : List (List Int)) (vc : List Int) (m : Bool) (j : Nat) : Prop := (l.take j).foldl Qm.passOne s = some (vc, m)
def InScan (v c : List Int) (k : Nat) (l o : Int) : Prop := (c.take k).foldl (Qm.scanStep v) (0, 0) = (l, o) ∧ 0 ≤ o ∧ o ≤ k

theorem InScan.next {v c : List Int} {q : Nat} {l o x : Int} (h : InScan v c q l o) (hq : q < c.length) (hx : c.getD q 0 = x) : (c.take (q+1)).foldl (Qm.scanStep v) (0, 0) = Qm.scanStep v (l, o) x := by
 rw [Qm.foldl_take_succ _ _ _ _ 0 hq, h.1, hx]
theorem scanStep_hold {v : List Int} {l o x : Int} (ho : 0 ≤ o) (h : Qm.vof v x = 1) : Qm.scanStep v (l, o) x = (l, -1) := by
 unfold Qm.scanStep; rw [if_neg (by simp; omega), if_pos h]
theorem scanStep_new {v : List Int} {l o x : Int} (ho : 0 ≤ o) (h : Qm.vof v x = 0) (h1 : o = 0 ∨ o = 1 ∧ l ≠ x) : Qm.scanStep v (l, o) x = (x, o + 1) := by
 unfold Qm.scanStep; rw [if_neg (by simp; omega), if_neg (by omega), if_pos ⟨h, h1⟩]
theorem scanStep_old {v : List Int} {l o x : Int} (ho : 0 ≤ o) (h : Qm.vof v x = 0) (h1 : ¬ (o = 0 ∨ o = 1 ∧ l ≠ x)) : Qm.scanStep v (l, o) x = (l, o) := by
 unfold Qm.scanStep; rw [if_neg (by simp; omega), if_neg (by omega), if_neg (fun h => h1 h.2)]
theorem scanStep_fail {v : List Int} {l o x : Int} (ho : 0 ≤ o) (h : Qm.vof v x = -1) : Qm.scanStep v (l, o) x = (l, o) := by
 unfold Qm.scanStep; rw [if_neg (by simp; omega), if_neg (by omega), if_neg (fun h => by omega)]
theorem InScan.done {v c : List Int} {q : Nat} {l o : Int} (h : InScan v c q l o) (hq : q = c.length) : Qm.scan v c = (l, o) := by
 unfold Qm.scan; rw [← h.1, hq, List.take_length]
theorem InList.next_other {s : Option (List Int × Bool)} {l : List (List Int)} {vc : List Int} {m : Bool} {q : Nat} {c : List Int} (h : InList s l vc m q) (hq : q < l.length) (hc : l.getD q [] = c) (h0 : (Qm.scan vc c).2 ≠ 0) (h1 : (Qm.scan vc c).2 ≠ 1) :
  InList s l vc m (q + 1) := by
 unfold InList at h ⊢
 rw [Qm.foldl_take_succ _ _ _ _ [] hq, h, hc, Qm.passOne_other h0 h1]
theorem InList.next_unit {s : Option (List Int × Bool)} {l : List (List Int)} {vc : List Int} {m : Bool} {q : Nat} {c : List Int} {x : Int} (h : InList s l vc m q) (hq : q < l.length) (hc : l.getD q [] = c) (h0 : Qm.scan vc c = (x, 1)) :
  InList s l (Qm.vset vc x) true (q + 1) := by
 unfold InList at h ⊢
 rw [Qm.foldl_take_succ _ _ _ _ [] hq, h, hc, Qm.passOne_unit (by rw [h0]), h0]
theorem InLists.next {ls : List (List (List Int))} {v1 vc v3 : List Int} {m m3 : Bool} {j q : Nat} (h : InLists ls v1 vc m j) (hj : j < ls.length) (h6 : InList (some (vc, m)) (ls.getD j []) v3 m3 q) (hq : q = (ls.getD j []).length) :
  InLists ls v1 v3 m3 (j + 1) := by
 unfold InLists at h ⊢
 unfold InList at h6
 rw [hq, List.take_length] at h6
 rw [Qm.flatten_take_succ _ _ hj, List.foldl_append, h, h6]
theorem InLists.fails {ls : List (List (List Int))} {v1 vc v3 : List Int} {m m3 : Bool} {j q : Nat} {c : List Int} (h : InLists ls v1 vc m j) (hj : j < ls.length) (h6 : InList (some (vc, m)) (ls.getD j []) v3 m3 q) (hq : q < (ls.getD j []).length)
  (hc : (ls.getD j []).getD q [] = c) (h0 : (Qm.scan v3 c).2 = 0) : Qm.pass ls.flatten v1 = none := by
 have e : ls.flatten = (ls.take (j+1)).flatten ++ (ls.drop (j+1)).flatten := by rw [← List.flatten_append, List.take_append_drop]
 unfold InLists at h
 unfold InList at h6
 unfold Qm.pass
 rw [e, List.foldl_append, Qm.flatten_take_succ _ _ hj, List.foldl_append, h, Qm.foldl_take_drop _ _ (ls.getD j []) (q+1), Qm.foldl_take_succ _ _ _ _ [] hq, h6, hc, Qm.passOne_fails h0, Qm.passOne_none, Qm.passOne_none]
theorem InLists.all {ls : List (List (List Int))} {v1 vc : List Int} {m : Bool} {j : Nat} (h : InLists ls v1 vc m j) (hj : j = ls.length) : Qm.pass ls.flatten v1 = some (vc, m) := by
 unfold InLists at h
 rw [hj, List.take_length] at h
 exact h
theorem Head.next {N : Nat} {cs : List (List Int)} {v v1 v2 : List Int} {m : Bool} (hcs : ∀ c ∈ cs, Qm.IsCl N c) (hf : Qm.Fine N v1) (h : Qm.spread cs v1 = Qm.spread cs v) (hp : Qm.pass cs v1 = some (v2, m)) : Head cs v v2 (Qm.zeros v1) m := by
 cases m with
 | true =>
  refine ⟨?_, by rw [← h]; exact (Qm.spread_more hcs hf hp).symm⟩
  rcases (Qm.pass_ok hcs hf hp).2 with ⟨_, h⟩ | ⟨h, _⟩
  ·cases h
  ·exact h
 | false => exact (h.symm.trans (Qm.spread_done hcs hf hp) : Qm.spread cs v = some v2)
theorem getD_mem {α : Type} {l : List α} {k : Nat} {d : α} (h : k < l.length) : l.getD k d ∈ l := by
 rw [List.getD_eq_getElem?_getD, List.getElem?_eq_getElem h]; exact List.getElem_mem h
end
/- Walks: Values.Set, Values.Spread, with spare cells behind the values (a clone's). -/
section
open Go.RowKit
def ValsS (w wr : World) (b N : Nat) (sp : List Value) (vc : List Int) : Prop := Whole wr b 3 (vc.map (Value.int .i64) ++ sp) ∧ Qm.Fine N vc ∧ w.grownBy wr (some b) ∧ wr.heap.size = w.heap.size
theorem ValsS.keep0 {w wr : World} {b N : Nat} {sp : List Value} {S : Nat → Prop} {vc : List Int} (h : ValsS w wr b N sp vc) (hS : ∀ k, S k → k < w.heap.size ∧ k ≠ b) (p : Addr) (hp : S p.block) : wr.cell? p = w.cell? p :=
 World.cell?_of_block (h.2.2.1.block p.block (hS _ hp).1 (by intro e; injection e with e; exact (hS _ hp).2 e))
theorem ValsS.keepFrom {w wr wr' : World} {b N : Nat} {sp : List Value} {S : Nat → Prop} {vc vc' : List Int} (h : ValsS w wr b N sp vc) (h' : ValsS w wr' b N sp vc') (hS : ∀ k, S k → k < w.heap.size ∧ k ≠ b) (p : Addr) (hp : S p.block) : wr'.cell? p = wr.cell? p :=
 (h'.keep0 hS p hp).trans (h.keep0 hS p hp).symm
theorem wholeS_row {w : World} {S : Nat → Prop} {b n : Nat} {t : TypeId} {vs sp : List Value} (h : Whole w b t (vs ++ sp)) (hB : S b) (hn : vs.length = n) : Row w S (some ⟨b, 0, none⟩) n vs := by
 refine ⟨hn, fun _ => ⟨b, 0, rfl, hB, fun j hj => ?_⟩⟩
 rw [Nat.zero_add, h.cell j, List.getElem?_append_left (by omega)]
theorem wholeS_ints {w : World} {S : Nat → Prop} {b n : Nat} {t : TypeId} {xs : List Int} {sp : List Value} (h : Whole w b t (xs.map (Value.int .i64) ++ sp)) (hB : S b) (hn : xs.length = n) : RInts w S (some ⟨b, 0, none⟩) n xs :=
 wholeS_row h hB (by simpa using hn)
theorem own_whole {w : World} {base : Nat} {e : TypeId} {v : Value} {n : Nat} {vs : List Value} (h : w.ownsRow base e 1 v n vs) (hn : 0 < n) : ∃ g c sp, v = .slice (some ⟨g, 0, none⟩) n c ∧ base ≤ g ∧ n ≤ c ∧ c ≤ maxLen ∧ Whole w g e (vs ++ sp) := by
 rcases h.2 with ⟨_, h0⟩ | ⟨g, cap, cur, rfl, hb, hh, hc, hm, hs, ht⟩
 ·omega
 ·refine ⟨g, cap, cur.toList.drop (n * 1), rfl, hb, hc, hm, ?_⟩
  unfold Whole
  rw [hh, ← ht, List.take_append_drop]
set_option maxRecDepth 100000 in
set_option maxHeartbeats 400000 in
theorem setS_any (sp : List Value) (b : Nat) (t : TypeId) (n cap : Nat) (v : List Int) (x : Int) (w : World) (hl : v.length = n) (hw : Whole w b t (v.map (Value.int .i64) ++ sp)) (hn : n ≤ 401) (hx : -(n : Int) < x ∧ x < n) :
  Calls Tryz.prog 60 #[.slice (some ⟨b, 0, none⟩) n cap, .int .i64 x] w fun e w' => e = .returned (.tuple #[]) ∧ Whole w' b t ((Qm.vset v x).map (Value.int .i64) ++ sp) ∧ w.grownBy w' (some b) ∧ w'.heap.size = w.heap.size := by
 have Hl := qh hl; clear hl
 by_cases h0 : x < 0
 ·obtain ⟨k, rfl⟩ : ∃ k : Nat, x = -(k : Int) := ⟨(-x).toNat, by omega⟩
  have Hr : Hid (Qm.vset v (-(k : Int)) = v.set k (-1)) := by show _ = _; unfold Qm.vset; rw [if_pos h0]; congr 2; omega
  have hk : (k : Int) < n := by omega
  have hc := hw.cell k
  rw [List.getElem?_append_left (by rw [List.length_map, Hl.out]; omega), List.getElem?_map, List.getElem?_eq_getElem (by rw [Hl.out]; omega), Option.map_some] at hc
  have hf := hw.free k
  generalize v[k]'(by rw [Hl.out]; omega) = u at hc
  clear hx
  go_enter Tryz.func60, Tryz.ntmps60
  go_wp2
  go_end0
  refine ⟨rfl, ?_, grown_set (World.grownBy.refl w _) _ _, by simp [World.setCell]⟩
  rw [Hr.out, ← map_set_int, ← List.set_append_left _ _ (by rw [List.length_map, Hl.out]; omega)]
  exact hw.set_ k _
 ·obtain ⟨k, rfl⟩ : ∃ k : Nat, x = (k : Int) := ⟨x.toNat, by omega⟩
  have Hr : Hid (Qm.vset v (k : Int) = v.set k 1) := by show _ = _; unfold Qm.vset; rw [if_neg h0]; congr 1
  have hk : (k : Int) < n := by omega
  have hc := hw.cell k
  rw [List.getElem?_append_left (by rw [List.length_map, Hl.out]; omega), List.getElem?_map, List.getElem?_eq_getElem (by rw [Hl.out]; omega), Option.map_some] at hc
  have hf := hw.free k
  generalize v[k]'(by rw [Hl.out]; omega) = u at hc
  clear hx
  go_enter Tryz.func60, Tryz.ntmps60
  go_wp2
  go_end0
  refine ⟨rfl, ?_, grown_set (World.grownBy.refl w _) _ _, by simp [World.setCell]⟩
  rw [Hr.out, ← map_set_int, ← List.set_append_left _ _ (by rw [List.length_map, Hl.out]; omega)]
  exact hw.set_ k _
def SpreadPostS (cs : List (List Int)) (v : List Int) (b : Nat) (sp : List Value) (w : World) (e : Ending) (w' : World) : Prop :=
 e = .returned (.bool (Qm.spread cs v).isSome) ∧ (∀ v', Qm.spread cs v = some v' → Whole w' b 3 (v'.map (Value.int .i64) ++ sp)) ∧ w.grownBy w' (some b) ∧ w'.heap.size = w.heap.size

set_option maxRecDepth 100000 in
set_option maxHeartbeats 4000000 in
theorem spreadS_any (sp : List Value) (N : Nat) (b cap nl cl : Nat) (v : List Int) (Al : Option Addr) (ls : List (List (List Int))) (w : World) (S : Nat → Prop) (hN : N ≤ 400) (hv : Qm.Fine N v) (hw : Whole w b 3 (v.map (Value.int .i64) ++ sp))
  (hb : ∀ k, S k → k < w.heap.size ∧ k ≠ b) (hr : RLists w S Al nl ls) (hcl : nl ≤ maxLen) (hlit : Lits N ls) :
  Calls Tryz.prog 61 #[.slice (some ⟨b, 0, none⟩) (N + 1) cap, .slice Al nl cl] w (SpreadPostS ls.flatten v b sp w) := by
 unfold maxLen at hcl
 have hbw := hw.lt
 have Hr := qh hr; have Hlit := qh hlit; have Hv := qh hv; have Hw := qh hw
 clear hr hlit hv hw
 go_enter Tryz.func61, Tryz.ntmps61
 go_wp2_with fail
 go_loopg [5] (Qm.zeros v + 1) (fun k m wr => ∃ vc m', m = .bool m' ∧ ValsS w wr b N sp vc ∧ Head ls.flatten v vc k m')
 case atStart => exact ⟨v, true, rfl, ⟨Hw.out, Hv.out, World.grownBy.refl w _, rfl⟩, by omega, rfl⟩
 case round =>
  obtain ⟨v1, m1, rfl, H1, H2⟩ := hrel
  cases m1 with
  | false =>
   go_wp2_with fail
   go_ret
   obtain ⟨h1, h2, h3, h4⟩ := H1
   have h6 : Qm.spread ls.flatten v = some v1 := H2
   refine ⟨by rw [h6]; rfl, fun v' hv' => ?_, h3, h4⟩
   rw [h6] at hv'; injection hv' with hv'; subst hv'; exact h1
  | true =>
   go_wp2_with fail
   go_loopg [5, 17] nl (fun k m i wr2 => ∃ (j : Nat) (vc : List Int) (m' : Bool), j + k = nl ∧ i = .int .i64 j ∧ m = .bool m' ∧ ValsS w wr2 b N sp vc ∧ InLists ls v1 vc m' j)
   case atStart => exact ⟨0, v1, false, by omega, rfl, rfl, H1, rfl⟩
   case round =>
    obtain ⟨wr2, rfl⟩ : ∃ x : World, x = wr := ⟨_, rfl⟩
    obtain ⟨g2, rfl⟩ : ∃ x : Nat, x = gk := ⟨_, rfl⟩
    obtain ⟨j, v2, m2, hjk, rfl, rfl, H3, H4⟩ := hrel
    have Hjk := qh hjk; clear hjk
    by_cases hj : j < nl
    ·obtain ⟨bl, ol, A', n', c', rfl, hbl, hcell, hcs, hnc, hcm⟩ := (Hr.out.keep (H3.keep0 hb)).at_ hj
     unfold maxLen at hcm
     have Hcs := qh hcs; clear hcs
     go_wp2_with fail
     go_loopg [5, 23] n' (fun k m i wr3 => ∃ (q : Nat) (vc : List Int) (m' : Bool), Hid (q + k = n') ∧ i = .int .i64 q ∧ m = .bool m' ∧ ValsS w wr3 b N sp vc ∧ InList (some (v2, m2)) (ls.getD j []) vc m' q)
     case atStart => exact ⟨0, v2, m2, Nat.zero_add _, rfl, rfl, H3, rfl⟩
     case round =>
      obtain ⟨wr3, rfl⟩ : ∃ x : World, x = wr := ⟨_, rfl⟩
      obtain ⟨g3, rfl⟩ : ∃ x : Nat, x = gk := ⟨_, rfl⟩
      obtain ⟨q, v3, m3, Hqk, rfl, rfl, H5, H6⟩ := hrel
      by_cases hq : q < n'
      ·obtain ⟨bc, oc, A2, n2, c2, rfl, hbc, hcell2, hc, hnc2, hcm2⟩ := (Hcs.out.keep (ValsS.keepFrom H3 H5 hb)).at_ hq
       unfold maxLen at hcm2
       have Hc := qh hc; clear hc
       generalize hcc : (ls.getD j []).getD q [] = c at Hc
       have Hcc := qh hcc; clear hcc
       go_wp2_with fail
       go_loopg [10, 11, 29] n2 (fun k lf op i wr4 => ∃ (r : Nat) (l o : Int), Hid (r + k = n2) ∧ i = .int .i64 r ∧ lf = .int .i64 l ∧ op = .int .i64 o ∧ wr3 = wr4 ∧ InScan v3 c r l o)
       case atStart => exact ⟨0, 0, 0, Nat.zero_add _, rfl, rfl, rfl, rfl, rfl, by omega, by omega⟩
       case round =>
        obtain ⟨r, l, o, Hrk, rfl, rfl, rfl, hwr, H7⟩ := hrel
        subst hwr
        by_cases hrn : r < n2
        ·obtain ⟨bi, oi, rfl, hbi, hcell3⟩ := Hc.out.at_ hrn
         generalize hx : c.getD r 0 = x at hcell3
         have Hx := qh hx; clear hx
         have Hlc : Hid (r < c.length) := by rw [Hc.out.len]; exact hrn
         have Hn := H7.next Hlc.out Hx.out
         have hlx : Qm.IsLit N x := by
          have h1 := Hlit.out _ (getD_mem (d := []) (by rw [Hr.out.len]; exact hj)) _ (getD_mem (d := []) (by rw [Hcs.out.len]; exact hq))
          rw [Hcc.out] at h1
          have h2 := h1 _ (getD_mem (d := 0) Hlc.out)
          rwa [Hx.out] at h2
         have ho1 := H7.2.1
         have ho2 := H7.2.2
         have hd : -((N + 1 : Nat) : Int) < x ∧ x < ((N + 1 : Nat) : Int) := by have := hlx.1; have := hlx.2; omega
         have hcall := of_any (some ⟨b, 0, none⟩) (N + 1) cap v3 x wr3 (fun k => k = b) (wholeS_ints (S := fun k => k = b) H5.1 rfl H5.2.1.1) (by omega) hd (fine_bd H5.2.1)
         rcases Qm.vof_range H5.2.1 x with h0 | h0 | h0
         ·rw [h0] at hcall
          have H0 := qh h0; clear h0
          have Hcall := qh hcall; clear hcall hd hlx
          by_cases hnew : o = 0 ∨ o = 1 ∧ l ≠ x
          ·rw [scanStep_new ho1 H0.out hnew] at Hn
           have HN := qh Hn; clear Hn
           rcases hnew with h1 | ⟨h1, h2⟩
           ·obtain rfl : o = 0 := h1
            go_wp2_with fail
            refine Hcall.out.mono ?_
            rintro e w' ⟨rfl, rfl⟩
            go_wp2_with fail
            go_roundg (gk - 1)
            case measure => have := Hrk.out; omega
            case rel => exact ⟨r + 1, x, 1, by have := Hrk.out; show _ = _; omega, by go_num, rfl, rfl, rfl, HN.out, by omega, by omega⟩
           ·obtain rfl : o = 1 := h1
            have h3 : (l != x) = true := by simpa using h2
            clear h2
            go_wp2_with fail
            refine Hcall.out.mono ?_
            rintro e w' ⟨rfl, rfl⟩
            go_wp2_with fail
            go_roundg (gk - 1)
            case measure => have := Hrk.out; omega
            case rel => exact ⟨r + 1, x, 2, by have := Hrk.out; show _ = _; omega, by go_num, rfl, rfl, rfl, HN.out, by omega, by omega⟩
          ·rw [scanStep_old ho1 H0.out hnew] at Hn
           have HN := qh Hn; clear Hn
           have h1 : (o == 0) = false := by simp; omega
           by_cases ho : o = 1
           ·obtain rfl : o = 1 := ho
            have h3 : (l != x) = false := by simp; omega
            clear hnew
            go_wp2_with fail
            refine Hcall.out.mono ?_
            rintro e w' ⟨rfl, rfl⟩
            go_wp2_with fail
            go_roundg (gk - 1)
            case measure => have := Hrk.out; omega
            case rel => exact ⟨r + 1, l, 1, by have := Hrk.out; show _ = _; omega, by go_num, rfl, rfl, rfl, HN.out, by omega, by omega⟩
           ·have h3 : (o == 1) = false := by simp; omega
            clear hnew
            go_wp2_with fail
            refine Hcall.out.mono ?_
            rintro e w' ⟨rfl, rfl⟩
            go_wp2_with fail
            go_roundg (gk - 1)
            case measure => have := Hrk.out; omega
            case rel => exact ⟨r + 1, l, o, by have := Hrk.out; show _ = _; omega, by go_num, rfl, rfl, rfl, HN.out, by omega, by omega⟩
         ·rw [h0] at hcall
          have H0 := qh h0; clear h0
          have Hcall := qh hcall; clear hcall hd hlx
          rw [scanStep_hold ho1 H0.out] at Hn
          have Hsc := qh (Qm.scan_break Hn (by show (-1 : Int) < 0; omega)); clear Hn
          go_wp2_with fail
          refine Hcall.out.mono ?_
          rintro e w' ⟨rfl, rfl⟩
          go_wp2_with fail
          go_roundg (g3 - 1)
          case measure => have := Hqk.out; omega
          case rel => exact ⟨q + 1, v3, m3, by have := Hqk.out; show _ = _; omega, by go_num, rfl, H5, H6.next_other (by rw [(Hcs.out).len]; exact hq) Hcc.out (by rw [Hsc.out]; show (-1 : Int) ≠ 0; omega) (by rw [Hsc.out]; show (-1 : Int) ≠ 1; omega)⟩
         ·rw [h0] at hcall
          have H0 := qh h0; clear h0
          have Hcall := qh hcall; clear hcall hd hlx
          rw [scanStep_fail ho1 H0.out] at Hn
          have HN := qh Hn; clear Hn
          go_wp2_with fail
          refine Hcall.out.mono ?_
          rintro e w' ⟨rfl, rfl⟩
          go_wp2_with fail
          go_roundg (gk - 1)
          case measure => have := Hrk.out; omega
          case rel => exact ⟨r + 1, l, o, by have := Hrk.out; show _ = _; omega, by go_num, rfl, rfl, rfl, HN.out, by omega, by omega⟩
        ·have Hsc := qh (H7.done (by rw [Hc.out.len]; have := Hrk.out; omega))
         have ho1 := H7.2.1
         by_cases h0 : o = 0
         ·obtain rfl : o = 0 := h0
          go_wp2_with fail
          go_ret
          have hn : Qm.spread ls.flatten v = none := by
           rw [← H2.2]
           exact Qm.spread_none Hlit.out.flat H1.2.1 (InLists.fails H4 (by rw [Hr.out.len]; exact hj) H6 (by rw [Hcs.out.len]; exact hq) Hcc.out (by rw [Hsc.out]))
          exact ⟨by rw [hn]; rfl, (fun v' hv' => by rw [hn] at hv'; cases hv'), H5.2.2.1, H5.2.2.2⟩
         ·have h0' : (o == 0) = false := by simpa using h0
          by_cases h1 : o = 1
          ·obtain rfl : o = 1 := h1
           have hlx : Qm.IsLit N l := by
            have h1 := Hlit.out _ (getD_mem (d := []) (by rw [Hr.out.len]; exact hj)) _ (getD_mem (d := []) (by rw [Hcs.out.len]; exact hq))
            rw [Hcc.out] at h1
            have := Qm.scan_unit_mem (v := v3) (c := c) (by rw [Hsc.out])
            rw [Hsc.out] at this
            exact h1 _ this
           have hd : -((N + 1 : Nat) : Int) < l ∧ l < ((N + 1 : Nat) : Int) := by have := hlx.1; have := hlx.2; omega
           have hcall := setS_any sp b 3 (N + 1) cap v3 l wr3 H5.2.1.1 H5.1 (by omega) hd
           have Hcall := qh hcall; clear hcall hd hlx
           go_wp2_with fail
           refine Hcall.out.mono ?_
           rintro e w5 ⟨rfl, hw5⟩
           go_wp2_with fail
           go_roundg (g3 - 1)
           case measure => have := Hqk.out; omega
           case rel => exact ⟨q + 1, Qm.vset v3 l, true, by have := Hqk.out; show _ = _; omega, by go_num, rfl, ⟨hw5.1, Qm.vset_fine H5.2.1 _, grown_trans H5.2.2.1 hw5.2.1, hw5.2.2.trans H5.2.2.2⟩, H6.next_unit (by rw [Hcs.out.len]; exact hq) Hcc.out Hsc.out⟩
          ·have h1' : (o == 1) = false := by simpa using h1
           clear h0 h1
           go_wp2_with fail
           go_roundg (g3 - 1)
           case measure => have := Hqk.out; omega
           case rel => exact ⟨q + 1, v3, m3, by have := Hqk.out; show _ = _; omega, by go_num, rfl, H5, H6.next_other (by rw [(Hcs.out).len]; exact hq) Hcc.out (by rw [Hsc.out]; exact beq_eq_false_iff_ne.1 h0') (by rw [Hsc.out]; exact beq_eq_false_iff_ne.1 h1')⟩
      ·go_wp2_with fail
       go_roundg (g2 - 1)
       case measure => have := Hjk.out; omega
       case rel => exact ⟨j + 1, v3, m3, by have := Hjk.out; omega, by go_num, rfl, H5, InLists.next H4 (by rw [Hr.out.len]; exact hj) H6 (by rw [Hcs.out.len]; have := Hqk.out; omega)⟩
    ·go_wp2_with fail
     go_roundg (Qm.zeros v1)
     case measure => exact H2.1
     case rel => exact ⟨v2, m2, rfl, H3, Head.next Hlit.out.flat H1.2.1 H2.2 (InLists.all H4 (by rw [Hr.out.len]; have := Hjk.out; omega))⟩
end
/- Walks. -/
section
open Go.RowKit
def badLit (vars n : Int) : Bool := decide (vars < 0) || n == 0 || decide (n < -vars) || decide (n > vars)
def ckClause (c : List Int) (vars : Int) : Int := if 60 < c.length then 2 else if c.any (badLit vars) then 5 else 0
theorem any_take_succ (p : Int → Bool) (c : List Int) (k : Nat) (h : k < c.length) : (c.take (k+1)).any p = ((c.take k).any p || p (c.getD k 0)) := by
  rw [List.take_succ_eq_append_getElem h]; rw [List.any_append]; simp [List.getD, h]
theorem any_of_take (p : Int → Bool) (c : List Int) (k : Nat) (h : (c.take k).any p = true) : c.any p = true := by
  rw [List.any_eq_true] at h ⊢
  obtain ⟨x, hx, hp⟩ := h
  exact ⟨x, List.mem_of_mem_take hx, hp⟩
theorem ckClause_bad {c : List Int} {vars x : Int} {n k : Nat} (hn : c.length = n) (h60 : ¬ 60 < n) (hk : k < n) (hx : c.getD k 0 = x) (h : badLit vars x = true) : ckClause c vars = 5 := by
  subst hn hx
  unfold ckClause
  rw [if_neg h60, if_pos]
  exact any_of_take _ _ (k+1) (by rw [any_take_succ _ _ _ hk, h]; simp)
theorem ckClause_end {c : List Int} {vars : Int} {n k : Nat} (hn : c.length = n) (h60 : ¬ 60 < n) (hk : ¬ k < n) (h : (c.take k).any (badLit vars) = false) : ckClause c vars = 0 := by
  subst hn
  unfold ckClause
  rw [List.take_of_length_le (by omega)] at h
  rw [if_neg h60, if_neg]
  rw [h]; simp
theorem anyBad_step {c : List Int} {p : Int → Bool} {x : Int} {n k : Nat} (hn : c.length = n) (hk : k < n) (hx : c.getD k 0 = x) (h : (c.take k).any p = false) (h1 : p x = false) : (c.take (k+1)).any p = false := by
  subst hn hx
  rw [any_take_succ _ _ _ hk, h, h1]; rfl

theorem badLit_yes {vars x : Int} (h : vars < 0 ∨ x = 0 ∨ x < -vars ∨ vars < x) : badLit vars x = true := by
  simp only [badLit, Bool.or_eq_true, decide_eq_true_eq, beq_iff_eq]; omega
theorem badLit_no {vars x : Int} (h : ¬ (vars < 0 ∨ x = 0 ∨ x < -vars ∨ vars < x)) : badLit vars x = false := by
  rw [Bool.eq_false_iff]; intro h'; simp only [badLit, Bool.or_eq_true, decide_eq_true_eq, beq_iff_eq] at h'; omega

set_option maxHeartbeats 400000 in
theorem checkClause_any (A : Option Addr) (n cap : Nat) (c : List Int) (vars : Int) (w : World) (S : Nat → Prop) (hr : RInts w S A n c) (hn : n ≤ maxLen) (hv : -9223372036854775808 ≤ vars) (hv' : vars ≤ 9223372036854775807) :
    Calls Tryz.prog 69 #[.slice A n cap, .int .i64 vars] w fun e w' => e = .returned (.int .i64 (ckClause c vars)) ∧ w = w' := by
  unfold maxLen at hn
  have Hlen := qh hr.len
  by_cases h60 : 60 < n
  · have h60' : (60 : Int) < (n : Int) := by omega
    go_enter Tryz.func69, Tryz.ntmps69
    go_wp2
    go_ret
    exact ⟨ret_int (by unfold ckClause; rw [if_pos (by have := Hlen.out; omega)]), rfl⟩
  · have hd60 : decide ((60 : Int) < (n : Int)) = false := by simp; omega
    go_enter Tryz.func69, Tryz.ntmps69
    go_wp2
    go_loop [12] (fun i => ∃ k : Nat, k ≤ n ∧ i = .int .i64 k ∧ (c.take k).any (badLit vars) = false) (fun i => n - (intOf i).toNat)
    case atStart => exact ⟨0, Nat.zero_le _, rfl, rfl⟩
    case round =>
      obtain ⟨k, hk, rfl, hany⟩ := hrel
      have Hany := qh hany; clear hany
      by_cases hlt : k < n
      · obtain ⟨b, o, rfl, hb, hc⟩ := hr.at_ hlt
        generalize hx : c.getD k 0 = x at hc
        have Hx := qh hx; clear hx
        rcases Decidable.em (x = 0) with h0 | h0
        · have h1 : (x == 0) = true := by simpa using h0
          have h2 := qh h0; clear h0
          go_wp2
          all_goals (go_ret; exact ⟨ret_int (ckClause_bad Hlen.out h60 hlt Hx.out (badLit_yes (.inr (.inl h2.out)))).symm, rfl⟩)
        have h1 : (x == 0) = false := by simpa using h0
        go_wp2
        all_goals first
          | (go_ret; refine ⟨ret_int ?_, rfl⟩; exact (ckClause_bad Hlen.out h60 hlt Hx.out (badLit_yes (by omega))).symm)
          | (go_round
             case rel => refine ⟨k + 1, by omega, by go_num, anyBad_step Hlen.out hlt Hx.out Hany.out (badLit_no (by omega))⟩
             case measure => simp [intOf]; omega)
      · go_wp2
        go_ret
        exact ⟨ret_int (ckClause_end Hlen.out h60 hlt Hany.out).symm, rfl⟩
end
/- Walks: the checks of a formula and of a proof, the program's and the document's. -/
section
open Go.RowKit
def ckClauses (cs : List (List Int)) (vars : Int) : Int := match cs.find? (fun c => ckClause c vars != 0) with | some c => ckClause c vars | none => 0
def ckFormula (vars : Int) (cs : List (List Int)) : Int := if vars < 0 ∨ 400 < vars then 3 else if 4000 < cs.length then 2 else ckClauses cs vars
def ckProof (cs : List (List Int)) (vars : Int) : Int := if vars < 0 ∨ 400 < vars then 3 else if 40000 < cs.length then 2 else ckClauses cs vars
def NoneBad (cs : List (List Int)) (vars : Int) (k : Nat) : Prop := ∀ c ∈ cs.take k, ckClause c vars = 0
theorem ckClauses_bad {cs : List (List Int)} {vars : Int} {k : Nat} {c : List Int} (h : NoneBad cs vars k) (hk : k < cs.length) (hc : cs.getD k [] = c) (hb : (ckClause c vars != 0) = true) : ckClauses cs vars = ckClause c vars := by
 have e : cs = cs.take k ++ c :: cs.drop (k+1) := by
  rw [List.getD_eq_getElem?_getD, List.getElem?_eq_getElem hk, Option.getD_some] at hc
  rw [← hc, List.getElem_cons_drop, List.take_append_drop]
 unfold ckClauses
 rw [e, List.find?_append]
 have : (cs.take k).find? (fun c => ckClause c vars != 0) = none := by
  rw [List.find?_eq_none]; intro x hx; rw [h x hx]; simp
 rw [this, Option.none_or]; simp only [List.find?_cons, hb]
theorem NoneBad.next {cs : List (List Int)} {vars : Int} {k : Nat} {c : List Int} (h : NoneBad cs vars k) (hk : k < cs.length) (hc : cs.getD k [] = c) (hb : (ckClause c vars != 0) = false) : NoneBad cs vars (k+1) := by
 intro x hx
 rw [List.take_succ_eq_append_getElem hk] at hx
 rcases List.mem_append.1 hx with hx | hx
 ·exact h x hx
 ·rw [List.getD_eq_getElem?_getD, List.getElem?_eq_getElem hk, Option.getD_some] at hc
  simp at hx; subst hx; rw [hc]; simpa using hb
theorem ckClauses_good {cs : List (List Int)} {vars : Int} {k : Nat} (h : NoneBad cs vars k) (hk : k = cs.length) : ckClauses cs vars = 0 := by
 unfold ckClauses
 have : cs.find? (fun c => ckClause c vars != 0) = none := by
  rw [List.find?_eq_none]; intro x hx; rw [h x (by rw [hk, List.take_length]; exact hx)]; simp
 rw [this]

set_option maxHeartbeats 1000000 in
theorem checkFormula_any (A : Option Addr) (n cap : Nat) (cs : List (List Int)) (vars : Int) (w : World) (S : Nat → Prop) (hr : RClauses w S A n cs) (hS : ∀ k, S k → k < w.heap.size) (hn : n ≤ maxLen) (hv : -9223372036854775808 ≤ vars) (hv' : vars ≤ 9223372036854775807) :
  Calls Tryz.prog 23 #[.agg #[.int .i64 vars, .slice A n cap]] w fun e w' => e = .returned (.int .i64 (ckFormula vars cs)) ∧ Below w.heap.size w w' := by
 unfold maxLen at hn
 have Hlen := qh hr.len
 have Hr := qh hr; clear hr
 have Hw : Hid (∀ o, Below w.heap.size w (w.alloc o)) := fun o => (Below.refl _ _).alloc (qr _) o
 by_cases h0 : vars < 0
 ·go_enter Tryz.func23, Tryz.ntmps23
  go_wp2_with fail
  go_ret
  exact ⟨ret_int (by unfold ckFormula; rw [if_pos (.inl h0)]), Hw.out _⟩
 have h0' : decide (vars < 0) = false := by simpa using h0
 by_cases h4 : 400 < vars
 ·go_enter Tryz.func23, Tryz.ntmps23
  go_wp2_with fail
  go_ret
  exact ⟨ret_int (by unfold ckFormula; rw [if_pos (.inr h4)]), Hw.out _⟩
 have h4' : decide (400 < vars) = false := by simpa using h4
 have H3 : Hid (¬ (vars < 0 ∨ 400 < vars)) := by show ¬ _; omega
 by_cases hm : 4000 < n
 ·have hm' : decide ((4000 : Int) < (n : Int)) = true := by simp; omega
  go_enter Tryz.func23, Tryz.ntmps23
  go_wp2_with fail
  go_ret
  exact ⟨ret_int (by unfold ckFormula; rw [if_neg H3.out, if_pos (by rw [Hlen.out]; exact hm)]), Hw.out _⟩
 have hm' : decide ((4000 : Int) < (n : Int)) = false := by simp; omega
 have H5 : Hid (ckFormula vars cs = ckClauses cs vars) := by show _ = _; unfold ckFormula; rw [if_neg H3.out, if_neg (by rw [Hlen.out]; exact hm)]
 go_enter Tryz.func23, Tryz.ntmps23
 go_wp2_with fail
 go_loopg [21] n (fun g i wr => ∃ k : Nat, Hid (k + g = n) ∧ i = .int .i64 k ∧ NoneBad cs vars k ∧ Hid (w.alloc (.cells #[.int .i64 vars, .slice A n cap] 33) = wr))
 case atStart => exact ⟨0, Nat.zero_add _, rfl, fun c hc => by simp at hc, rfl⟩
 case round =>
  obtain ⟨k, Hk, rfl, hbad, Hwr⟩ := hrel
  obtain rfl := Hwr.out
  clear Hwr
  have Hbad := qh hbad; clear hbad
  by_cases hk : k < n
  ·obtain ⟨b, o, A', n', c', rfl, hb, hcell, hc, hnc, hcm⟩ := (Hr.out.below (Hw.out (.cells #[.int .i64 vars, .slice A n cap] 33)) hS).at_ hk
   unfold maxLen at hcm
   have hcall := checkClause_any A' n' c' _ vars _ _ hc (by unfold maxLen; omega) hv hv'
   generalize hcc : cs.getD k [] = c at hcall
   have Hcc := qh hcc; clear hcc hc
   generalize hx : ckClause c vars = x at hcall
   have Hx := qh hx; clear hx
   have Hcall := qh hcall; clear hcall
   by_cases hx0 : (x != 0) = true
   ·go_wp2_with fail
    refine Hcall.out.mono ?_
    rintro e w' ⟨rfl, rfl⟩
    go_wp2_with fail
    go_ret
    exact ⟨ret_int (by rw [H5.out, ckClauses_bad Hbad.out (by rw [Hlen.out]; exact hk) Hcc.out (by rw [Hx.out]; exact hx0), Hx.out]), Hw.out _⟩
   ·have hx1 : (x != 0) = false := by simpa using hx0
    clear hx0
    go_wp2_with fail
    refine Hcall.out.mono ?_
    rintro e w' ⟨rfl, rfl⟩
    go_wp2_with fail
    go_roundg (gk - 1)
    case measure => have := Hk.out; omega
    case rel => exact ⟨k + 1, by have := Hk.out; show _ = _; omega, by go_num, Hbad.out.next (by rw [Hlen.out]; exact hk) Hcc.out (by rw [Hx.out]; exact hx1), rfl⟩
  ·go_wp2_with fail
   go_ret
   exact ⟨ret_int (by rw [H5.out, ckClauses_good Hbad.out (by rw [Hlen.out]; have := Hk.out; omega)]), Hw.out _⟩
end
/- Walk: rup.step. -/
section
open Go.RowKit
def zeroObj (N : Nat) : Obj := .cells ((Qm.zeroVals N).map (Value.int .i64)).toArray 3
theorem int_info : (Tryz.prog.info? 3).map (fun i => (i.zero, i.size, i.bytes)) = some (some (.int .i64 0), 1, 8) := by kernel_rfl
theorem run_make_zeros (N : Nat) (hN : N ≤ 400) (w : World) : (Instr.makeSlice 113 (.int .i64 ((N : Int) + 1)) (.int .i64 ((N : Int) + 1))).run Tryz.prog w = .ok (.slice (some ⟨w.heap.size, 0, none⟩) (N + 1) (N + 1)) (w.alloc (zeroObj N)) := by
 obtain ⟨i, hi, hz, h1, h8⟩ := info_parts int_info
 have hr := run_make (P := Tryz.prog) w 113 3 i (.int .i64 0) Tryz.underlying113 hi hz .i64 .i64 ((N : Int) + 1) ((N : Int) + 1) (by omega) (by omega) (by rw [h8]; omega) (by omega)
 rw [hr]
 have e : ((N : Int) + 1).toNat = N + 1 := by omega
 rw [e, h1, Nat.mul_one]
 have : madeCells (Value.int .i64 0).cells (N + 1) = ((Qm.zeroVals N).map (Value.int .i64)).toArray := by
  apply Array.ext'
  have := toList_madeCells_one (Value.int .i64 0) (N + 1)
  show (madeCells #[Value.int .i64 0] (N + 1)).toList = _
  rw [this]; simp [Qm.zeroVals]
 rw [this]; rfl
theorem whole_zeros (w : World) (N b : Nat) (hb : b = w.heap.size) : Whole (w.alloc (zeroObj N)) b 3 ((Qm.zeroVals N).map (Value.int .i64)) := Whole.new w b 3 _ hb

theorem rlists1 {w : World} {S : Nat → Prop} {b : Nat} {t : TypeId} {A1 : Option Addr} {n1 c1 : Nat} {cs1 : List (List Int)} (hw : Whole w b t [.slice A1 n1 c1]) (hB : S b) (h1 : RClauses w S A1 n1 cs1)
  (hc1 : n1 ≤ c1 ∧ c1 ≤ maxLen) : RLists w S (some ⟨b, 0, none⟩) 1 [cs1] := by
 refine ⟨[(A1, n1, c1)], hw.row hB rfl, rfl, fun j h c hh hc => ?_⟩
 match j with
 | 0 => simp at hh hc; subst hh hc; exact ⟨h1, hc1⟩
 | j + 1 => simp at hh

end
/- Walks: the check of a proof, the program's and the document's. -/
section
open Go.RowKit
end
/- Walks: rup.Bad, rup.Refutes. -/
section
open Go.RowKit
def badFrom (N : Nat) (cs : List (List Int)) (pf : List (List Int)) : Nat → Nat → Int
 | _, 0 => -1
 | k, g + 1 => if Qm.rupStep N (cs ++ pf.take k) (pf.getD k []) then badFrom N cs pf (k + 1) g else k
def badOf (N : Nat) (cs pf : List (List Int)) : Int := badFrom N cs pf 0 pf.length
def badErr (vars : Int) (cs pf : List (List Int)) : Int := if ckFormula vars cs ≠ 0 then ckFormula vars cs else ckProof pf vars
def badK (vars : Int) (cs pf : List (List Int)) : Int := if badErr vars cs pf ≠ 0 then 0 else badOf vars.toNat cs pf
def refOk (vars : Int) (cs pf : List (List Int)) : Bool := decide (badErr vars cs pf = 0) && decide (badK vars cs pf < 0) && decide (0 < pf.length) && decide ((pf.getD (pf.length - 1) []).length = 0)

theorem ck_lits {vars : Int} {cs : List (List Int)} (h : ckClauses cs vars = 0) : ∀ c ∈ cs, ckClause c vars = 0 := by
 intro c hc
 unfold ckClauses at h
 split at h
 ·rename_i d hd
  have := List.find?_some hd
  simp at this; exact absurd h this
 ·rename_i hn
  have := List.find?_eq_none.1 hn c hc
  simpa using this
theorem ckClause_lit {N : Nat} {c : List Int} (h : ckClause c (N : Int) = 0) : Qm.IsCl N c ∧ c.length ≤ 60 := by
 unfold ckClause at h
 split at h
 ·omega
 ·split at h
  ·omega
  ·rename_i h1 h2
   refine ⟨fun x hx => ?_, by omega⟩
   have h3 : badLit (N : Int) x = false := by
    cases hb : badLit (N : Int) x
    ·rfl
    ·exact absurd (List.any_eq_true.2 ⟨x, hx, hb⟩) h2
   have h4 : ¬ ((N : Int) < 0 ∨ x = 0 ∨ x < -(N : Int) ∨ (N : Int) < x) := by
    intro h5
    rw [badLit_yes h5] at h3; cases h3
   exact ⟨by omega, by omega⟩
theorem ckFormula_ok {vars : Int} {cs : List (List Int)} (h : ckFormula vars cs = 0) : ∃ N : Nat, vars = N ∧ N ≤ 400 ∧ cs.length ≤ 4000 ∧ ∀ c ∈ cs, Qm.IsCl N c ∧ c.length ≤ 60 := by
 unfold ckFormula at h
 split at h
 ·omega
 ·split at h
  ·omega
  ·obtain ⟨N, rfl⟩ : ∃ N : Nat, vars = N := ⟨vars.toNat, by omega⟩
   exact ⟨N, rfl, by omega, by omega, fun c hc => ckClause_lit (ck_lits h c hc)⟩
end
/- Walk: cnf.checkLits. -/
section
open Go.RowKit
end
/- Laws: append of whatever row. -/
section
open Go.RowKit
theorem own_form {w : World} {base : Nat} {e : TypeId} {v : Value} {n : Nat} {vs : List Value} (h : w.ownsRow base e 1 v n vs) : ∃ (A : Option Addr) (c : Nat), v = .slice A n c ∧ n ≤ c ∧ c ≤ maxLen ∧ Row w (fun k => base ≤ k ∧ k < w.heap.size) A n vs := by
 have h' := h
 rcases h'.2 with ⟨rfl, rfl⟩ | ⟨g, cap, cur, rfl, hb, hh, hc, hm, _⟩
 ·exact ⟨none, 0, rfl, qr _, Nat.zero_le _, by have := h.1; simpa using this, fun h => absurd h (by omega)⟩
 ·exact ⟨_, cap, rfl, hc, hm, row_of_own h (fun g' e => by simp [Value.ownBlock] at e; subst e; exact ⟨hb, lt_of_block hh⟩)⟩
theorem own_formK {w : World} {base : Nat} {e : TypeId} {size : Nat} {v : Value} {n : Nat} {vs : List Value} (h : w.ownsRow base e size v n vs) : ∃ (A : Option Addr) (c : Nat), v = .slice A n c ∧ n ≤ c ∧ c ≤ maxLen ∧ Row w (fun k => v.ownBlock = some k) A (n * size) vs := by
 rcases h.2 with ⟨rfl, rfl⟩ | ⟨g, cap, cur, rfl, hb, hh, hc, hm, hs, ht⟩
 ·exact ⟨none, 0, rfl, qr _, Nat.zero_le _, by have := h.1; simpa using this, fun h => absurd h (by omega)⟩
 ·refine ⟨_, cap, rfl, hc, hm, h.1, fun hn => ⟨g, 0, rfl, rfl, fun j hj => ?_⟩⟩
  have hj' : j < cur.size := by rw [hs]; exact ql hj (Nat.mul_le_mul_right _ hc)
  rw [cell_of_row w g _ _ _ (0, 0) hh, Nat.zero_add, ← ht, List.getElem?_take_of_lt hj]
  simp
theorem news_of_row {w : World} {S : Nat → Prop} {b o n : Nat} {vs : List Value} (h : Row w S (some ⟨b, o, none⟩) n vs) : ∀ j u, vs[j]? = some u → w.cell? ((⟨b, o, none⟩ : Addr).add j) = some u := by
 intro j u hj
 have hjn : j < n := by have := (List.getElem?_eq_some_iff.1 hj).1; rw [h.len] at this; exact this
 obtain ⟨b', o', e, _, hc⟩ := h.at_ hjn
 injection e with e; injection e with e1 e2
 subst e1 e2
 have hadd : (⟨b, o, none⟩ : Addr).add j = ⟨b, o + j, none⟩ := by unfold Addr.add; split <;> simp_all
 rw [hadd, hc, hj]
theorem Row.some_lit {w : World} {S : Nat → Prop} {A : Option Addr} {n : Nat} {vs : List Value} (h : Row w S A n vs) (hn : 0 < n) : ∃ b o, A = some ⟨b, o, none⟩ ∧ S b := by
 obtain ⟨b, o, e, hS, _⟩ := h.at_ hn
 exact ⟨b, o, e, hS⟩
theorem run_append_row {P : Program} (w : World) (base : Nat) (t ty e : TypeId) (i : TypeInfo) (z : Value) (bytes : Nat) (ht : P.underlying t = some (.slice e)) (hi : P.info? e = some i) (hz : i.zero = some z)
  (hsize : i.size = 1) (hby : i.bytes = bytes) (hzs : z.cells.size = 1) (v : Value) (n : Nat) (xs : List Value) (hown : w.ownsRow base e 1 v n xs)
  (A : Option Addr) (m c : Nat) (news : List Value) (S : Nat → Prop) (hrow : Row w S A m news) (h1 : ∀ u ∈ news, u.oneCell' = true)
  (h63 : n + m ≤ maxLen) (hbytes : (n + m) * bytes ≤ 140737488355328) (hbase : base ≤ w.heap.size) :
  ∃ v' w', (Builtin.append_ #[t, t] ty #[v, .slice A m c]).run P w = .ok v' w' ∧ w'.ownsRow base e 1 v' (n + m) (xs ++ news) ∧ w.grownBy w' v.ownBlock := by
 cases A with
 | none =>
  obtain rfl : m = 0 := by
   by_cases h0 : 0 < m
   ·obtain ⟨b, o, e, _⟩ := hrow.some_lit h0; cases e
   ·omega
  obtain rfl : news = [] := List.eq_nil_of_length_eq_zero hrow.len
  refine ⟨v, w, ?_, by simpa using hown, World.grownBy.refl _ _⟩
  rcases hown.2 with ⟨rfl, rfl⟩ | ⟨g, cap, cur, rfl, _, _, hnc, _⟩
  ·simp [Builtin.append_, run_underlying ht, sizeOf, typeInfo, hi, Builtin.lenOf, Builtin.firstCells]
  ·simp [Builtin.append_, run_underlying ht, sizeOf, typeInfo, hi, Builtin.lenOf, Builtin.firstCells, hnc, storeCells]
 | some ad =>
  have hnews : ∀ j u, news[j]? = some u → w.cell? (ad.add j) = some u := by
   intro j u hj
   have hjn : j < m := by have := (List.getElem?_eq_some_iff.1 hj).1; rw [hrow.len] at this; exact this
   obtain ⟨b, o, e, _⟩ := hrow.some_lit (by omega)
   injection e with e
   subst e
   exact news_of_row hrow j u hj
  obtain ⟨v', w', hr, h2, h3, _⟩ := run_append_own (P := P) w base t ty e i z 1 bytes ht hi hz hsize hby hzs (by decide) v n xs hown ad m c news (by rw [hrow.len, Nat.mul_one]) hnews h1 h63 hbytes hbase
  exact ⟨v', w', hr, h2, h3⟩
theorem wpList_append_row {P : Program} {w : World} {ops : Array Oper} {rest : List Oper} {o : Oper} {a : Act} {Q : Exit → Act → World → Prop} (hgd : o.guard = none) (s x : Operand) (t : TypeId)
  (ho : o.op = .call { callee := .builtin .append, args := #[s, x], argTypes := #[t, t] })
  (base : Nat) (e : TypeId) (i : TypeInfo) (z : Value) (bytes : Nat) (ht : P.underlying t = some (.slice e)) (hi : P.info? e = some i) (hz : i.zero = some z)
  (hsize : i.size = 1) (hby : i.bytes = bytes) (hzs : z.cells.size = 1) (v : Value) (n : Nat) (xs : List Value) (hs : a.eval s = v) (hown : w.ownsRow base e 1 v n xs)
  (A : Option Addr) (m c : Nat) (news : List Value) (hx : a.eval x = .slice A m c) (S : Nat → Prop) (hrow : Row w S A m news) (h1 : ∀ u ∈ news, u.oneCell' = true)
  (h63 : n + m ≤ maxLen) (hbytes : (n + m) * bytes ≤ 140737488355328) (hbase : base ≤ w.heap.size)
  (h : ∀ A' c' w', n + m ≤ c' → c' ≤ maxLen → w'.ownsRow base e 1 (.slice A' (n + m) c') (n + m) (xs ++ news) → w.grownBy w' v.ownBlock → wpList P ops Q rest (a.put o.dst (.slice A' (n + m) c')) w') : wpList P ops Q (o :: rest) a w := by
 refine wpList_plain hgd fun K hK => ?_
 obtain ⟨v', w', hr, h2, h3⟩ := run_append_row (P := P) w base t o.type e i z bytes ht hi hz hsize hby hzs v n xs hown A m c news S hrow h1 h63 hbytes hbase
 obtain ⟨A', c', rfl, h4, h5, _⟩ := own_form h2
 unfold Oper.wp execOp
 simp only [ho, resolve, invoke, builtin, Sem.run_bind, Sem.run_pure, Result.andThen_ok, List.map_toArray, List.map_cons, List.map_nil, hs, hx, hr]
 exact hK _ _ (h A' c' w' h4 h5 h2 h3)
end
/- Walk: cnf.Follows. -/
section
open Go.RowKit
end
/- Walks: slices.Clone over []int, []api.Clause. -/
section
open Go.RowKit


theorem clause_info : (Tryz.prog.info? 117).map (fun i => (i.zero, i.size, i.bytes)) = some (some (.slice none 0 0), 1, 24) := by kernel_rfl
theorem int_info' : (Tryz.prog.info? 3).map (fun i => (i.zero, i.size, i.bytes)) = some (some (.int .i64 0), 1, 8) := by kernel_rfl
def ClonePost (w : World) (E : TypeId) (n : Nat) (vs : List Value) (e : Ending) (w' : World) : Prop :=
 ∃ (A : Option Addr) (c : Nat), e = .returned (.slice A n c) ∧ n ≤ c ∧ c ≤ maxLen ∧ w'.ownsRow w.heap.size E 1 (.slice A n c) n vs ∧ Below w.heap.size w w'
set_option maxRecDepth 100000 in
set_option maxHeartbeats 1000000 in
theorem cloneInts_any (A : Option Addr) (n c : Nat) (vs : List Value) (w : World) (S : Nat → Prop) (hr : Row w S A n vs) (hone : ∀ u ∈ vs, u.oneCell' = true) (hS : ∀ k, S k → k < w.heap.size) (hn : n * 8 ≤ 140737488355328) :
  Calls Tryz.prog 39 #[.slice A n c] w (ClonePost w 3 n vs) := by
 obtain ⟨i0, hi, hz0, hz1, hz2⟩ := info_parts int_info'
 have q : ∀ (w : World) (a : Option Addr) (n c n' c' : Nat), (binOp .eql 27 (.slice a n c) (.slice none n' c')).run Tryz.prog w = .ok (.bool a.isNone) w := fun w a n c n' c' => Lib.run_eql_slice_nil w _ _ a n c n' c' Tryz.underlying27
 have Hr := qh hr; have Hone := qh hone
 clear hr hone
 by_cases hA : A = none
 ·subst hA
  obtain rfl : n = 0 := by
   by_cases h0 : 0 < n
   ·obtain ⟨b, o, e, _⟩ := Hr.out.some_lit h0; cases e
   ·omega
  obtain rfl : vs = [] := List.eq_nil_of_length_eq_zero Hr.out.len
  go_enter Tryz.func39, Tryz.ntmps39
  go_wp2_with fail
  go_ret
  exact ⟨none, 0, rfl, qr _, Nat.zero_le _, World.ownsRow_nil _ _ _ _, Below.refl _ _⟩
 ·obtain ⟨ad, rfl⟩ : ∃ ad, A = some ad := by cases A with | none => exact absurd rfl hA | some a => exact ⟨a, rfl⟩
  clear hA
  have hb0 : Below w.heap.size w (w.alloc (.cells #[] 3)) := (Below.refl _ _).alloc (qr _) _
  have hnews : ∀ j u, vs[j]? = some u → (w.alloc (.cells #[] 3)).cell? (ad.add j) = some u := by
   intro j u hj
   have hjn : j < n := by have := (List.getElem?_eq_some_iff.1 hj).1; rw [Hr.out.len] at this; exact this
   obtain ⟨b, o, e, _⟩ := Hr.out.some_lit (by omega)
   injection e with e
   subst e
   exact news_of_row (Hr.out.below hb0 hS) j u hj
  have Hnews := qh hnews; clear hnews hb0
  have Hl := qh Hr.out.len
  go_enter Tryz.func39, Tryz.ntmps39
  go_wp2_with (at_builtin; refine wpList_append_own _ rfl _ _ 27 rfl w.heap.size 3 i0 (.int .i64 0) 1 8 Tryz.underlying27 hi hz0 hz1 hz2 rfl (by decide) _ _ _ rfl (World.ownsRow_made w #[] 0 (qr _) (Nat.zero_le _) rfl) ad n c vs rfl ?c1 Hnews.out Hone.out ?c3 ?c4 ?c5 ?_)
  case c1 => rw [Hl.out, Nat.mul_one]
  case c3 => unfold maxLen; omega
  case c4 => omega
  case c5 => simp
  intro v' w1 hown hgrow hnil
  go_wp2_with fail
  go_ret
  have hown' : w1.ownsRow w.heap.size 3 1 v' n vs := by simpa using hown
  obtain ⟨A', c', rfl, h1, h2, _⟩ := own_form hown'
  exact ⟨A', c', rfl, h1, h2, hown', ((Below.refl _ w).alloc (qr _) _).grown hgrow (by simp) (by intro k hk; simp [Value.ownBlock] at hk; omega)⟩
set_option maxRecDepth 100000 in
set_option maxHeartbeats 1000000 in
theorem cloneVals_any (A : Option Addr) (n c : Nat) (vs : List Value) (w : World) (S : Nat → Prop) (hr : Row w S A n vs) (hone : ∀ u ∈ vs, u.oneCell' = true) (hS : ∀ k, S k → k < w.heap.size) (hn : n * 8 ≤ 140737488355328) :
  Calls Tryz.prog 95 #[.slice A n c] w (ClonePost w 3 n vs) := by
 obtain ⟨i0, hi, hz0, hz1, hz2⟩ := info_parts int_info'
 have q : ∀ (w : World) (a : Option Addr) (n c n' c' : Nat), (binOp .eql 113 (.slice a n c) (.slice none n' c')).run Tryz.prog w = .ok (.bool a.isNone) w := fun w a n c n' c' => Lib.run_eql_slice_nil w _ _ a n c n' c' Tryz.underlying113
 have Hr := qh hr; have Hone := qh hone
 clear hr hone
 by_cases hA : A = none
 ·subst hA
  obtain rfl : n = 0 := by
   by_cases h0 : 0 < n
   ·obtain ⟨b, o, e, _⟩ := Hr.out.some_lit h0; cases e
   ·omega
  obtain rfl : vs = [] := List.eq_nil_of_length_eq_zero Hr.out.len
  go_enter Tryz.func95, Tryz.ntmps95
  go_wp2_with fail
  go_ret
  exact ⟨none, 0, rfl, qr _, Nat.zero_le _, World.ownsRow_nil _ _ _ _, Below.refl _ _⟩
 ·obtain ⟨ad, rfl⟩ : ∃ ad, A = some ad := by cases A with | none => exact absurd rfl hA | some a => exact ⟨a, rfl⟩
  clear hA
  have hb0 : Below w.heap.size w (w.alloc (.cells #[] 3)) := (Below.refl _ _).alloc (qr _) _
  have hnews : ∀ j u, vs[j]? = some u → (w.alloc (.cells #[] 3)).cell? (ad.add j) = some u := by
   intro j u hj
   have hjn : j < n := by have := (List.getElem?_eq_some_iff.1 hj).1; rw [Hr.out.len] at this; exact this
   obtain ⟨b, o, e, _⟩ := Hr.out.some_lit (by omega)
   injection e with e
   subst e
   exact news_of_row (Hr.out.below hb0 hS) j u hj
  have Hnews := qh hnews; clear hnews hb0
  have Hl := qh Hr.out.len
  go_enter Tryz.func95, Tryz.ntmps95
  go_wp2_with (at_builtin; refine wpList_append_own _ rfl _ _ 113 rfl w.heap.size 3 i0 (.int .i64 0) 1 8 Tryz.underlying113 hi hz0 hz1 hz2 rfl (by decide) _ _ _ rfl (World.ownsRow_made w #[] 0 (qr _) (Nat.zero_le _) rfl) ad n c vs rfl ?c1 Hnews.out Hone.out ?c3 ?c4 ?c5 ?_)
  case c1 => rw [Hl.out, Nat.mul_one]
  case c3 => unfold maxLen; omega
  case c4 => omega
  case c5 => simp
  intro v' w1 hown hgrow hnil
  go_wp2_with fail
  go_ret
  have hown' : w1.ownsRow w.heap.size 3 1 v' n vs := by simpa using hown
  obtain ⟨A', c', rfl, h1, h2, _⟩ := own_form hown'
  exact ⟨A', c', rfl, h1, h2, hown', ((Below.refl _ w).alloc (qr _) _).grown hgrow (by simp) (by intro k hk; simp [Value.ownBlock] at hk; omega)⟩
end
/- Lists of rows of ints by their headers: side by side. -/
section
open Go.RowKit
def hd (h : Option Addr × Nat × Nat) : Value := Value.slice h.1 h.2.1 h.2.2
def Heads (w : World) (S : Nat → Prop) (hs : List (Option Addr × Nat × Nat)) (cs : List (List Int)) : Prop :=
 cs.length = hs.length ∧ ∀ (j : Nat) (h : Option Addr × Nat × Nat) (c : List Int), hs[j]? = some h → cs[j]? = some c → RInts w S h.1 h.2.1 c ∧ h.2.1 ≤ h.2.2 ∧ h.2.2 ≤ maxLen
section
variable {w w' : World} {S S' : Nat → Prop} {A : Option Addr} {n : Nat} {cs ds : List (List Int)} {hs gs : List (Option Addr × Nat × Nat)}
theorem RClauses.of_ (hr : Row w S A n (hs.map hd)) (h : Heads w S hs cs) : RClauses w S A n cs := ⟨hs, hr, by have := hr.len; have := h.1; simp at *; omega, h.2⟩
theorem Heads.append (h : Heads w S hs cs) (g : Heads w S gs ds) : Heads w S (hs ++ gs) (cs ++ ds) := by
 refine ⟨by simp [h.1, g.1], fun j x c hx hc => ?_⟩
 by_cases hj : j < hs.length
 ·rw [List.getElem?_append_left hj] at hx
  rw [List.getElem?_append_left (by rw [h.1]; exact hj)] at hc
  exact h.2 j x c hx hc
 ·rw [List.getElem?_append_right (by omega)] at hx
  rw [List.getElem?_append_right (by rw [h.1]; omega), h.1] at hc
  exact g.2 _ x c hx hc
theorem Heads.one {A : Option Addr} {n c : Nat} {xs : List Int} (h : RInts w S A n xs) (hn : n ≤ c ∧ c ≤ maxLen) : Heads w S [(A, n, c)] [xs] := by
 refine ⟨rfl, fun j x y hx hy => ?_⟩
 match j with
 | 0 => simp at hx hy; subst hx hy; exact ⟨h, hn⟩
 | j + 1 => simp at hx
theorem Heads.nil_ : Heads w S [] [] := ⟨rfl, fun j x y hx _ => by simp at hx⟩
theorem Heads.more (h : Heads w S hs cs) (hS : ∀ k, S k → S' k) : Heads w S' hs cs := ⟨h.1, fun j x c hx hc => ⟨(h.2 j x c hx hc).1.more hS, (h.2 j x c hx hc).2⟩⟩
theorem Heads.keep (h : Heads w S hs cs) (hk : ∀ p : Addr, S p.block → w'.cell? p = w.cell? p) : Heads w' S hs cs := ⟨h.1, fun j x c hx hc => ⟨(h.2 j x c hx hc).1.keep hk, (h.2 j x c hx hc).2⟩⟩
end
end
/- Lists of clauses by their headers: side by side. -/
section
open Go.RowKit
theorem int_one (xs : List Int) : ∀ u ∈ xs.map (Value.int .i64), u.oneCell' = true := by
 intro u hu; obtain ⟨x, _, rfl⟩ := List.mem_map.1 hu; rfl
end
/- Laws and walks: append of whatever row; slices.Grow of nil, slices.Concat of two. -/
section
open Go.RowKit


end
end Go.Proofs.YtedbhlgjcnnknaaGreatDoor
