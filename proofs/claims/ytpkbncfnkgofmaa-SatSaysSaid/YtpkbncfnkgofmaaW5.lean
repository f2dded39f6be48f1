/- Walk: Values.Spread. -/
import Derived.Test.YtpkbncfnkgofmaaW4
import Derived.Deep.LoopGhost
namespace Go.Proofs.Ytpkbncfnkgofmaa
open Go.RowKit

theorem fine_bd {N : Nat} {v : List Int} (h : Qm.Fine N v) : ∀ y ∈ v, -1 ≤ y ∧ y ≤ 1 := fun y hy => by have := h.2 y hy; omega

def Lits (N : Nat) (ls : List (List (List Int))) : Prop := ∀ l ∈ ls, ∀ c ∈ l, Qm.IsCl N c
theorem Lits.flat {N : Nat} {ls : List (List (List Int))} (h : Lits N ls) : ∀ c ∈ ls.flatten, Qm.IsCl N c := by
  intro c hc
  obtain ⟨l, hl, hc⟩ := List.mem_flatten.1 hc
  exact h l hl c hc
/-- the block's values, as they are after some steps -/
def Vals (w wr : World) (b N : Nat) (vc : List Int) : Prop := Whole wr b 3 (vc.map (Value.int .i64)) ∧ Qm.Fine N vc ∧ w.grownBy wr (some b) ∧ wr.heap.size = w.heap.size
def Head (cs : List (List Int)) (v vc : List Int) (k : Nat) (m : Bool) : Prop := if m then Qm.zeros vc < k ∧ Qm.spread cs vc = Qm.spread cs v else Qm.spread cs v = some vc
/-- in the lists: so many lists are done -/
def InLists (ls : List (List (List Int))) (v1 vc : List Int) (m : Bool) (j : Nat) : Prop := (ls.take j).flatten.foldl Qm.passOne (some (v1, false)) = some (vc, m)
def InList (s : Option (List Int × Bool)) (l : List (List Int)) (vc : List Int) (m : Bool) (j : Nat) : Prop := (l.take j).foldl Qm.passOne s = some (vc, m)
def InScan (v c : List Int) (k : Nat) (l o : Int) : Prop := (c.take k).foldl (Qm.scanStep v) (0, 0) = (l, o) ∧ 0 ≤ o ∧ o ≤ k

theorem Vals.keep0 {w wr : World} {b N : Nat} {S : Nat → Prop} {vc : List Int} (h : Vals w wr b N vc) (hS : ∀ k, S k → k < w.heap.size ∧ k ≠ b) (p : Addr) (hp : S p.block) : wr.cell? p = w.cell? p :=
  World.cell?_of_block (h.2.2.1.block p.block (hS _ hp).1 (by intro e; injection e with e; exact (hS _ hp).2 e))
theorem Vals.keepFrom {w wr wr' : World} {b N : Nat} {S : Nat → Prop} {vc vc' : List Int} (h : Vals w wr b N vc) (h' : Vals w wr' b N vc') (hS : ∀ k, S k → k < w.heap.size ∧ k ≠ b) (p : Addr) (hp : S p.block) : wr'.cell? p = wr.cell? p :=
  (h'.keep0 hS p hp).trans (h.keep0 hS p hp).symm
theorem InScan.next {v c : List Int} {q : Nat} {l o x : Int} (h : InScan v c q l o) (hq : q < c.length) (hx : c.getD q 0 = x) : (c.take (q+1)).foldl (Qm.scanStep v) (0, 0) = Qm.scanStep v (l, o) x := by
  rw [Qm.foldl_take_succ _ _ _ _ 0 hq, h.1, hx]
theorem scanStep_hold {v : List Int} {l o x : Int} (ho : 0 ≤ o) (h : Qm.vof v x = 1) : Qm.scanStep v (l, o) x = (l, -1) := by
  unfold Qm.scanStep; rw [if_neg (by simp; omega), if_pos h]
theorem scanStep_new {v : List Int} {l o x : Int} (ho : 0 ≤ o) (h : Qm.vof v x = 0) (h1 : o = 0 ∨ o = 1 ∧ l ≠ x) : Qm.scanStep v (l, o) x = (x, o + 1) := by
  unfold Qm.scanStep; rw [if_neg (by simp; omega), if_neg (by omega), if_pos ⟨h, h1⟩]
theorem scanStep_old {v : List Int} {l o x : Int} (ho : 0 ≤ o) (h : Qm.vof v x = 0) (h1 : ¬ (o = 0 ∨ o = 1 ∧ l ≠ x)) : Qm.scanStep v (l, o) x = (l, o) := by
  unfold Qm.scanStep; rw [if_neg (by simp; omega), if_neg (by omega), if_neg (fun h => h1 h.2)]
theorem scanStep_fail {v : List Int} {l o x : Int} (ho : 0 ≤ o) (h : Qm.vof v x = -1) : Qm.scanStep v (l, o) x = (l, o) := by
  unfold Qm.scanStep; rw [if_neg (by simp; omega), if_neg (by omega), if_neg (fun h => by omega)]
theorem InScan.done {v c : List Int} {q : Nat} {l o : Int} (h : InScan v c q l o) (hq : q = c.length) : Qm.scan v c = (l, o) := by
  unfold Qm.scan; rw [← h.1, hq, List.take_length]
theorem InList.next_other {s : Option (List Int × Bool)} {l : List (List Int)} {vc : List Int} {m : Bool} {q : Nat} {c : List Int} (h : InList s l vc m q) (hq : q < l.length) (hc : l.getD q [] = c) (h0 : (Qm.scan vc c).2 ≠ 0) (h1 : (Qm.scan vc c).2 ≠ 1) :
    InList s l vc m (q + 1) := by
  unfold InList at h ⊢
  rw [Qm.foldl_take_succ _ _ _ _ [] hq, h, hc, Qm.passOne_other h0 h1]
theorem InList.next_unit {s : Option (List Int × Bool)} {l : List (List Int)} {vc : List Int} {m : Bool} {q : Nat} {c : List Int} {x : Int} (h : InList s l vc m q) (hq : q < l.length) (hc : l.getD q [] = c) (h0 : Qm.scan vc c = (x, 1)) :
    InList s l (Qm.vset vc x) true (q + 1) := by
  unfold InList at h ⊢
  rw [Qm.foldl_take_succ _ _ _ _ [] hq, h, hc, Qm.passOne_unit (by rw [h0]), h0]
theorem InLists.next {ls : List (List (List Int))} {v1 vc v3 : List Int} {m m3 : Bool} {j q : Nat} (h : InLists ls v1 vc m j) (hj : j < ls.length) (h6 : InList (some (vc, m)) (ls.getD j []) v3 m3 q) (hq : q = (ls.getD j []).length) :
    InLists ls v1 v3 m3 (j + 1) := by
  unfold InLists at h ⊢
  unfold InList at h6
  rw [hq, List.take_length] at h6
  rw [Qm.flatten_take_succ _ _ hj, List.foldl_append, h, h6]
theorem InLists.fails {ls : List (List (List Int))} {v1 vc v3 : List Int} {m m3 : Bool} {j q : Nat} {c : List Int} (h : InLists ls v1 vc m j) (hj : j < ls.length) (h6 : InList (some (vc, m)) (ls.getD j []) v3 m3 q) (hq : q < (ls.getD j []).length)
    (hc : (ls.getD j []).getD q [] = c) (h0 : (Qm.scan v3 c).2 = 0) : Qm.pass ls.flatten v1 = none := by
  have e : ls.flatten = (ls.take (j+1)).flatten ++ (ls.drop (j+1)).flatten := by rw [← List.flatten_append, List.take_append_drop]
  unfold InLists at h
  unfold InList at h6
  unfold Qm.pass
  rw [e, List.foldl_append, Qm.flatten_take_succ _ _ hj, List.foldl_append, h, Qm.foldl_take_drop _ _ (ls.getD j []) (q+1), Qm.foldl_take_succ _ _ _ _ [] hq, h6, hc, Qm.passOne_fails h0, Qm.passOne_none, Qm.passOne_none]
theorem InLists.all {ls : List (List (List Int))} {v1 vc : List Int} {m : Bool} {j : Nat} (h : InLists ls v1 vc m j) (hj : j = ls.length) : Qm.pass ls.flatten v1 = some (vc, m) := by
  unfold InLists at h
  rw [hj, List.take_length] at h
  exact h
theorem Head.next {N : Nat} {cs : List (List Int)} {v v1 v2 : List Int} {m : Bool} (hcs : ∀ c ∈ cs, Qm.IsCl N c) (hf : Qm.Fine N v1) (h : Qm.spread cs v1 = Qm.spread cs v) (hp : Qm.pass cs v1 = some (v2, m)) : Head cs v v2 (Qm.zeros v1) m := by
  cases m with
  | true =>
    refine ⟨?_, by rw [← h]; exact (Qm.spread_more hcs hf hp).symm⟩
    rcases (Qm.pass_ok hcs hf hp).2 with ⟨_, h⟩ | ⟨h, _⟩
    · cases h
    · exact h
  | false => exact (h.symm.trans (Qm.spread_done hcs hf hp) : Qm.spread cs v = some v2)
theorem getD_mem {α : Type} {l : List α} {k : Nat} {d : α} (h : k < l.length) : l.getD k d ∈ l := by
  rw [List.getD_eq_getElem?_getD, List.getElem?_eq_getElem h]; exact List.getElem_mem h
/-- what stands behind the scan of a clause -/
def Scanned (v c : List Int) (l o : Int) : Prop := Qm.scan v c = (l, o) ∧ -1 ≤ o ∧ o ≤ c.length

def SpreadPost (cs : List (List Int)) (v : List Int) (b : Nat) (w : World) (e : Ending) (w' : World) : Prop :=
  e = .returned (.bool (Qm.spread cs v).isSome) ∧ (∀ v', Qm.spread cs v = some v' → Whole w' b 3 (v'.map (Value.int .i64))) ∧ w.grownBy w' (some b) ∧ w'.heap.size = w.heap.size

set_option maxHeartbeats 4000000 in
theorem spread_any (N : Nat) (b cap nl cl : Nat) (v : List Int) (Al : Option Addr) (ls : List (List (List Int))) (w : World) (S : Nat → Prop) (hN : N ≤ 400) (hv : Qm.Fine N v) (hw : Whole w b 3 (v.map (Value.int .i64)))
    (hb : ∀ k, S k → k < w.heap.size ∧ k ≠ b) (hr : RLists w S Al nl ls) (hcl : nl ≤ maxLen) (hlit : Lits N ls) :
    Calls Try.prog 53 #[.slice (some ⟨b, 0, none⟩) (N + 1) cap, .slice Al nl cl] w (SpreadPost ls.flatten v b w) := by
  unfold maxLen at hcl
  have hbw := hw.lt
  have Hr := Lib.hid hr; have Hlit := Lib.hid hlit; have Hv := Lib.hid hv; have Hw := Lib.hid hw
  clear hr hlit hv hw
  go_enter Try.func53, Try.ntmps53
  go_wp2_with fail
  go_loopg [5] (Qm.zeros v + 1) (fun k m wr => ∃ vc m', m = .bool m' ∧ Vals w wr b N vc ∧ Head ls.flatten v vc k m')
  case atStart => exact ⟨v, true, rfl, ⟨Hw.out, Hv.out, World.grownBy.refl w _, rfl⟩, by omega, rfl⟩
  case round =>
    obtain ⟨v1, m1, rfl, H1, H2⟩ := hrel
    cases m1 with
    | false =>
      go_wp2_with fail
      go_ret
      obtain ⟨h1, h2, h3, h4⟩ := H1
      have h6 : Qm.spread ls.flatten v = some v1 := H2
      refine ⟨by rw [h6]; rfl, fun v' hv' => ?_, h3, h4⟩
      rw [h6] at hv'; injection hv' with hv'; subst hv'; exact h1
    | true =>
      go_wp2_with fail
      go_loopg [5, 17] nl (fun k m i wr2 => ∃ (j : Nat) (vc : List Int) (m' : Bool), j + k = nl ∧ i = .int .i64 j ∧ m = .bool m' ∧ Vals w wr2 b N vc ∧ InLists ls v1 vc m' j)
      case atStart => exact ⟨0, v1, false, by omega, rfl, rfl, H1, rfl⟩
      case round =>
        obtain ⟨wr2, rfl⟩ : ∃ x : World, x = wr := ⟨_, rfl⟩
        obtain ⟨g2, rfl⟩ : ∃ x : Nat, x = gk := ⟨_, rfl⟩
        obtain ⟨j, v2, m2, hjk, rfl, rfl, H3, H4⟩ := hrel
        have Hjk := Lib.hid hjk; clear hjk
        by_cases hj : j < nl
        · obtain ⟨bl, ol, A', n', c', rfl, hbl, hcell, hcs, hnc, hcm⟩ := (Hr.out.keep (H3.keep0 hb)).at_ hj
          unfold maxLen at hcm
          have Hcs := Lib.hid hcs; clear hcs
          go_wp2_with fail
          go_loopg [5, 23] n' (fun k m i wr3 => ∃ (q : Nat) (vc : List Int) (m' : Bool), Hid (q + k = n') ∧ i = .int .i64 q ∧ m = .bool m' ∧ Vals w wr3 b N vc ∧ InList (some (v2, m2)) (ls.getD j []) vc m' q)
          case atStart => exact ⟨0, v2, m2, Nat.zero_add _, rfl, rfl, H3, rfl⟩
          case round =>
            obtain ⟨wr3, rfl⟩ : ∃ x : World, x = wr := ⟨_, rfl⟩
            obtain ⟨g3, rfl⟩ : ∃ x : Nat, x = gk := ⟨_, rfl⟩
            obtain ⟨q, v3, m3, Hqk, rfl, rfl, H5, H6⟩ := hrel
            by_cases hq : q < n'
            · obtain ⟨bc, oc, A2, n2, c2, rfl, hbc, hcell2, hc, hnc2, hcm2⟩ := (Hcs.out.keep (Vals.keepFrom H3 H5 hb)).at_ hq
              unfold maxLen at hcm2
              have Hc := Lib.hid hc; clear hc
              generalize hcc : (ls.getD j []).getD q [] = c at Hc
              have Hcc := Lib.hid hcc; clear hcc
              go_wp2_with fail
              go_loopg [10, 11, 29] n2 (fun k lf op i wr4 => ∃ (r : Nat) (l o : Int), Hid (r + k = n2) ∧ i = .int .i64 r ∧ lf = .int .i64 l ∧ op = .int .i64 o ∧ wr3 = wr4 ∧ InScan v3 c r l o)
              case atStart => exact ⟨0, 0, 0, Nat.zero_add _, rfl, rfl, rfl, rfl, rfl, by omega, by omega⟩
              case round =>
                obtain ⟨r, l, o, Hrk, rfl, rfl, rfl, hwr, H7⟩ := hrel
                subst hwr
                by_cases hrn : r < n2
                · obtain ⟨bi, oi, rfl, hbi, hcell3⟩ := Hc.out.at_ hrn
                  generalize hx : c.getD r 0 = x at hcell3
                  have Hx := Lib.hid hx; clear hx
                  have Hlc : Hid (r < c.length) := by rw [Hc.out.len]; exact hrn
                  have Hn := H7.next Hlc.out Hx.out
                  have hlx : Qm.IsLit N x := by
                    have h1 := Hlit.out _ (getD_mem (d := []) (by rw [Hr.out.len]; exact hj)) _ (getD_mem (d := []) (by rw [Hcs.out.len]; exact hq))
                    rw [Hcc.out] at h1
                    have h2 := h1 _ (getD_mem (d := 0) Hlc.out)
                    rwa [Hx.out] at h2
                  have ho1 := H7.2.1
                  have ho2 := H7.2.2
                  have hd : -((N + 1 : Nat) : Int) < x ∧ x < ((N + 1 : Nat) : Int) := by have := hlx.1; have := hlx.2; omega
                  have hcall := of_any (some ⟨b, 0, none⟩) (N + 1) cap v3 x wr3 (fun k => k = b) (Whole.ints (S := fun k => k = b) H5.1 rfl H5.2.1.1) (by omega) hd (fine_bd H5.2.1)
                  rcases Qm.vof_range H5.2.1 x with h0 | h0 | h0
                  · rw [h0] at hcall
                    have H0 := Lib.hid h0; clear h0
                    have Hcall := Lib.hid hcall; clear hcall hd hlx
                    by_cases hnew : o = 0 ∨ o = 1 ∧ l ≠ x
                    · rw [scanStep_new ho1 H0.out hnew] at Hn
                      have HN := Lib.hid Hn; clear Hn
                      rcases hnew with h1 | ⟨h1, h2⟩
                      · obtain rfl : o = 0 := h1
                        go_wp2_with fail
                        refine Hcall.out.mono ?_
                        rintro e w' ⟨rfl, rfl⟩
                        go_wp2_with fail
                        go_roundg (gk - 1)
                        case measure => have := Hrk.out; omega
                        case rel => exact ⟨r + 1, x, 1, by have := Hrk.out; show _ = _; omega, by go_num, rfl, rfl, rfl, HN.out, by omega, by omega⟩
                      · obtain rfl : o = 1 := h1
                        have h3 : (l != x) = true := by simpa using h2
                        clear h2
                        go_wp2_with fail
                        refine Hcall.out.mono ?_
                        rintro e w' ⟨rfl, rfl⟩
                        go_wp2_with fail
                        go_roundg (gk - 1)
                        case measure => have := Hrk.out; omega
                        case rel => exact ⟨r + 1, x, 2, by have := Hrk.out; show _ = _; omega, by go_num, rfl, rfl, rfl, HN.out, by omega, by omega⟩
                    · rw [scanStep_old ho1 H0.out hnew] at Hn
                      have HN := Lib.hid Hn; clear Hn
                      have h1 : (o == 0) = false := by simp; omega
                      by_cases ho : o = 1
                      · obtain rfl : o = 1 := ho
                        have h3 : (l != x) = false := by simp; omega
                        clear hnew
                        go_wp2_with fail
                        refine Hcall.out.mono ?_
                        rintro e w' ⟨rfl, rfl⟩
                        go_wp2_with fail
                        go_roundg (gk - 1)
                        case measure => have := Hrk.out; omega
                        case rel => exact ⟨r + 1, l, 1, by have := Hrk.out; show _ = _; omega, by go_num, rfl, rfl, rfl, HN.out, by omega, by omega⟩
                      · have h3 : (o == 1) = false := by simp; omega
                        clear hnew
                        go_wp2_with fail
                        refine Hcall.out.mono ?_
                        rintro e w' ⟨rfl, rfl⟩
                        go_wp2_with fail
                        go_roundg (gk - 1)
                        case measure => have := Hrk.out; omega
                        case rel => exact ⟨r + 1, l, o, by have := Hrk.out; show _ = _; omega, by go_num, rfl, rfl, rfl, HN.out, by omega, by omega⟩
                  · rw [h0] at hcall
                    have H0 := Lib.hid h0; clear h0
                    have Hcall := Lib.hid hcall; clear hcall hd hlx
                    rw [scanStep_hold ho1 H0.out] at Hn
                    have Hsc := Lib.hid (Qm.scan_break Hn (by show (-1 : Int) < 0; omega)); clear Hn
                    go_wp2_with fail
                    refine Hcall.out.mono ?_
                    rintro e w' ⟨rfl, rfl⟩
                    go_wp2_with fail
                    go_roundg (g3 - 1)
                    case measure => have := Hqk.out; omega
                    case rel => exact ⟨q + 1, v3, m3, by have := Hqk.out; show _ = _; omega, by go_num, rfl, H5, H6.next_other (by rw [(Hcs.out).len]; exact hq) Hcc.out (by rw [Hsc.out]; show (-1 : Int) ≠ 0; omega) (by rw [Hsc.out]; show (-1 : Int) ≠ 1; omega)⟩
                  · rw [h0] at hcall
                    have H0 := Lib.hid h0; clear h0
                    have Hcall := Lib.hid hcall; clear hcall hd hlx
                    rw [scanStep_fail ho1 H0.out] at Hn
                    have HN := Lib.hid Hn; clear Hn
                    go_wp2_with fail
                    refine Hcall.out.mono ?_
                    rintro e w' ⟨rfl, rfl⟩
                    go_wp2_with fail
                    go_roundg (gk - 1)
                    case measure => have := Hrk.out; omega
                    case rel => exact ⟨r + 1, l, o, by have := Hrk.out; show _ = _; omega, by go_num, rfl, rfl, rfl, HN.out, by omega, by omega⟩
                · have Hsc := Lib.hid (H7.done (by rw [Hc.out.len]; have := Hrk.out; omega))
                  have ho1 := H7.2.1
                  by_cases h0 : o = 0
                  · obtain rfl : o = 0 := h0
                    go_wp2_with fail
                    go_ret
                    have hn : Qm.spread ls.flatten v = none := by
                      rw [← H2.2]
                      exact Qm.spread_none Hlit.out.flat H1.2.1 (InLists.fails H4 (by rw [Hr.out.len]; exact hj) H6 (by rw [Hcs.out.len]; exact hq) Hcc.out (by rw [Hsc.out]))
                    exact ⟨by rw [hn]; rfl, (fun v' hv' => by rw [hn] at hv'; cases hv'), H5.2.2.1, H5.2.2.2⟩
                  · have h0' : (o == 0) = false := by simpa using h0
                    by_cases h1 : o = 1
                    · obtain rfl : o = 1 := h1
                      have hlx : Qm.IsLit N l := by
                        have h1 := Hlit.out _ (getD_mem (d := []) (by rw [Hr.out.len]; exact hj)) _ (getD_mem (d := []) (by rw [Hcs.out.len]; exact hq))
                        rw [Hcc.out] at h1
                        have := Qm.scan_unit_mem (v := v3) (c := c) (by rw [Hsc.out])
                        rw [Hsc.out] at this
                        exact h1 _ this
                      have hd : -((N + 1 : Nat) : Int) < l ∧ l < ((N + 1 : Nat) : Int) := by have := hlx.1; have := hlx.2; omega
                      have hcall := set_any b 3 (N + 1) cap v3 l wr3 H5.2.1.1 H5.1 (by omega) hd
                      have Hcall := Lib.hid hcall; clear hcall hd hlx
                      go_wp2_with fail
                      refine Hcall.out.mono ?_
                      rintro e w5 ⟨rfl, hw5⟩
                      go_wp2_with fail
                      go_roundg (g3 - 1)
                      case measure => have := Hqk.out; omega
                      case rel => exact ⟨q + 1, Qm.vset v3 l, true, by have := Hqk.out; show _ = _; omega, by go_num, rfl, ⟨hw5.1, Qm.vset_fine H5.2.1 _, grown_trans H5.2.2.1 hw5.2.1, hw5.2.2.trans H5.2.2.2⟩, H6.next_unit (by rw [Hcs.out.len]; exact hq) Hcc.out Hsc.out⟩
                    · have h1' : (o == 1) = false := by simpa using h1
                      clear h0 h1
                      go_wp2_with fail
                      go_roundg (g3 - 1)
                      case measure => have := Hqk.out; omega
                      case rel => exact ⟨q + 1, v3, m3, by have := Hqk.out; show _ = _; omega, by go_num, rfl, H5, H6.next_other (by rw [(Hcs.out).len]; exact hq) Hcc.out (by rw [Hsc.out]; exact beq_eq_false_iff_ne.1 h0') (by rw [Hsc.out]; exact beq_eq_false_iff_ne.1 h1')⟩
            · go_wp2_with fail
              go_roundg (g2 - 1)
              case measure => have := Hjk.out; omega
              case rel => exact ⟨j + 1, v3, m3, by have := Hjk.out; omega, by go_num, rfl, H5, InLists.next H4 (by rw [Hr.out.len]; exact hj) H6 (by rw [Hcs.out.len]; have := Hqk.out; omega)⟩
        · go_wp2_with fail
          go_roundg (Qm.zeros v1)
          case measure => exact H2.1
          case rel => exact ⟨v2, m2, rfl, H3, Head.next Hlit.out.flat H1.2.1 H2.2 (InLists.all H4 (by rw [Hr.out.len]; have := Hjk.out; omega))⟩
end Go.Proofs.Ytpkbncfnkgofmaa
