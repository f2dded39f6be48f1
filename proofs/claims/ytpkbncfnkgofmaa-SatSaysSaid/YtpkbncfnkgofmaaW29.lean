/- Walks: Values.Set, Values.Spread, with spare cells behind the values (a clone's). -/
import Derived.Test.YtpkbncfnkgofmaaW5
namespace Go.Proofs.Ytpkbncfnkgofmaa
open Go.RowKit
def ValsS (w wr : World) (b N : Nat) (sp : List Value) (vc : List Int) : Prop := Whole wr b 3 (vc.map (Value.int .i64) ++ sp) ∧ Qm.Fine N vc ∧ w.grownBy wr (some b) ∧ wr.heap.size = w.heap.size
theorem ValsS.keep0 {w wr : World} {b N : Nat} {sp : List Value} {S : Nat → Prop} {vc : List Int} (h : ValsS w wr b N sp vc) (hS : ∀ k, S k → k < w.heap.size ∧ k ≠ b) (p : Addr) (hp : S p.block) : wr.cell? p = w.cell? p :=
  World.cell?_of_block (h.2.2.1.block p.block (hS _ hp).1 (by intro e; injection e with e; exact (hS _ hp).2 e))
theorem ValsS.keepFrom {w wr wr' : World} {b N : Nat} {sp : List Value} {S : Nat → Prop} {vc vc' : List Int} (h : ValsS w wr b N sp vc) (h' : ValsS w wr' b N sp vc') (hS : ∀ k, S k → k < w.heap.size ∧ k ≠ b) (p : Addr) (hp : S p.block) : wr'.cell? p = wr.cell? p :=
  (h'.keep0 hS p hp).trans (h.keep0 hS p hp).symm
theorem wholeS_row {w : World} {S : Nat → Prop} {b n : Nat} {t : TypeId} {vs sp : List Value} (h : Whole w b t (vs ++ sp)) (hB : S b) (hn : vs.length = n) : Row w S (some ⟨b, 0, none⟩) n vs := by
  refine ⟨hn, fun _ => ⟨b, 0, rfl, hB, fun j hj => ?_⟩⟩
  rw [Nat.zero_add, h.cell j, List.getElem?_append_left (by omega)]
theorem wholeS_ints {w : World} {S : Nat → Prop} {b n : Nat} {t : TypeId} {xs : List Int} {sp : List Value} (h : Whole w b t (xs.map (Value.int .i64) ++ sp)) (hB : S b) (hn : xs.length = n) : RInts w S (some ⟨b, 0, none⟩) n xs :=
  wholeS_row h hB (by simpa using hn)
/-- what is owned, with its spare -/
theorem own_whole {w : World} {base : Nat} {e : TypeId} {v : Value} {n : Nat} {vs : List Value} (h : w.ownsRow base e 1 v n vs) (hn : 0 < n) : ∃ g c sp, v = .slice (some ⟨g, 0, none⟩) n c ∧ base ≤ g ∧ n ≤ c ∧ c ≤ maxLen ∧ Whole w g e (vs ++ sp) := by
  rcases h.2 with ⟨_, h0⟩ | ⟨g, cap, cur, rfl, hb, hh, hc, hm, hs, ht⟩
  · omega
  · refine ⟨g, cap, cur.toList.drop (n * 1), rfl, hb, hc, hm, ?_⟩
    unfold Whole
    rw [hh, ← ht, List.take_append_drop]
set_option maxHeartbeats 400000 in
theorem setS_any (sp : List Value) (b : Nat) (t : TypeId) (n cap : Nat) (v : List Int) (x : Int) (w : World) (hl : v.length = n) (hw : Whole w b t (v.map (Value.int .i64) ++ sp)) (hn : n ≤ 401) (hx : -(n : Int) < x ∧ x < n) :
    Calls Try.prog 52 #[.slice (some ⟨b, 0, none⟩) n cap, .int .i64 x] w fun e w' => e = .returned (.tuple #[]) ∧ Whole w' b t ((Qm.vset v x).map (Value.int .i64) ++ sp) ∧ w.grownBy w' (some b) ∧ w'.heap.size = w.heap.size := by
  have Hl := Lib.hid hl; clear hl
  by_cases h0 : x < 0
  · obtain ⟨k, rfl⟩ : ∃ k : Nat, x = -(k : Int) := ⟨(-x).toNat, by omega⟩
    have Hr : Hid (Qm.vset v (-(k : Int)) = v.set k (-1)) := by show _ = _; unfold Qm.vset; rw [if_pos h0]; congr 2; omega
    have hk : (k : Int) < n := by omega
    have hc := hw.cell k
    rw [List.getElem?_append_left (by rw [List.length_map, Hl.out]; omega), List.getElem?_map, List.getElem?_eq_getElem (by rw [Hl.out]; omega), Option.map_some] at hc
    have hf := hw.free k
    generalize v[k]'(by rw [Hl.out]; omega) = u at hc
    clear hx
    go_enter Try.func52, Try.ntmps52
    go_wp2
    go_end0
    refine ⟨rfl, ?_, grown_set (World.grownBy.refl w _) _ _, by simp [World.setCell]⟩
    rw [Hr.out, ← map_set_int, ← List.set_append_left _ _ (by rw [List.length_map, Hl.out]; omega)]
    exact hw.set_ k _
  · obtain ⟨k, rfl⟩ : ∃ k : Nat, x = (k : Int) := ⟨x.toNat, by omega⟩
    have Hr : Hid (Qm.vset v (k : Int) = v.set k 1) := by show _ = _; unfold Qm.vset; rw [if_neg h0]; congr 1
    have hk : (k : Int) < n := by omega
    have hc := hw.cell k
    rw [List.getElem?_append_left (by rw [List.length_map, Hl.out]; omega), List.getElem?_map, List.getElem?_eq_getElem (by rw [Hl.out]; omega), Option.map_some] at hc
    have hf := hw.free k
    generalize v[k]'(by rw [Hl.out]; omega) = u at hc
    clear hx
    go_enter Try.func52, Try.ntmps52
    go_wp2
    go_end0
    refine ⟨rfl, ?_, grown_set (World.grownBy.refl w _) _ _, by simp [World.setCell]⟩
    rw [Hr.out, ← map_set_int, ← List.set_append_left _ _ (by rw [List.length_map, Hl.out]; omega)]
    exact hw.set_ k _
def SpreadPostS (cs : List (List Int)) (v : List Int) (b : Nat) (sp : List Value) (w : World) (e : Ending) (w' : World) : Prop :=
  e = .returned (.bool (Qm.spread cs v).isSome) ∧ (∀ v', Qm.spread cs v = some v' → Whole w' b 3 (v'.map (Value.int .i64) ++ sp)) ∧ w.grownBy w' (some b) ∧ w'.heap.size = w.heap.size

set_option maxHeartbeats 4000000 in
theorem spreadS_any (sp : List Value) (N : Nat) (b cap nl cl : Nat) (v : List Int) (Al : Option Addr) (ls : List (List (List Int))) (w : World) (S : Nat → Prop) (hN : N ≤ 400) (hv : Qm.Fine N v) (hw : Whole w b 3 (v.map (Value.int .i64) ++ sp))
    (hb : ∀ k, S k → k < w.heap.size ∧ k ≠ b) (hr : RLists w S Al nl ls) (hcl : nl ≤ maxLen) (hlit : Lits N ls) :
    Calls Try.prog 53 #[.slice (some ⟨b, 0, none⟩) (N + 1) cap, .slice Al nl cl] w (SpreadPostS ls.flatten v b sp w) := by
  unfold maxLen at hcl
  have hbw := hw.lt
  have Hr := Lib.hid hr; have Hlit := Lib.hid hlit; have Hv := Lib.hid hv; have Hw := Lib.hid hw
  clear hr hlit hv hw
  go_enter Try.func53, Try.ntmps53
  go_wp2_with fail
  go_loopg [5] (Qm.zeros v + 1) (fun k m wr => ∃ vc m', m = .bool m' ∧ ValsS w wr b N sp vc ∧ Head ls.flatten v vc k m')
  case atStart => exact ⟨v, true, rfl, ⟨Hw.out, Hv.out, World.grownBy.refl w _, rfl⟩, by omega, rfl⟩
  case round =>
    obtain ⟨v1, m1, rfl, H1, H2⟩ := hrel
    cases m1 with
    | false =>
      go_wp2_with fail
      go_ret
      obtain ⟨h1, h2, h3, h4⟩ := H1
      have h6 : Qm.spread ls.flatten v = some v1 := H2
      refine ⟨by rw [h6]; rfl, fun v' hv' => ?_, h3, h4⟩
      rw [h6] at hv'; injection hv' with hv'; subst hv'; exact h1
    | true =>
      go_wp2_with fail
      go_loopg [5, 17] nl (fun k m i wr2 => ∃ (j : Nat) (vc : List Int) (m' : Bool), j + k = nl ∧ i = .int .i64 j ∧ m = .bool m' ∧ ValsS w wr2 b N sp vc ∧ InLists ls v1 vc m' j)
      case atStart => exact ⟨0, v1, false, by omega, rfl, rfl, H1, rfl⟩
      case round =>
        obtain ⟨wr2, rfl⟩ : ∃ x : World, x = wr := ⟨_, rfl⟩
        obtain ⟨g2, rfl⟩ : ∃ x : Nat, x = gk := ⟨_, rfl⟩
        obtain ⟨j, v2, m2, hjk, rfl, rfl, H3, H4⟩ := hrel
        have Hjk := Lib.hid hjk; clear hjk
        by_cases hj : j < nl
        · obtain ⟨bl, ol, A', n', c', rfl, hbl, hcell, hcs, hnc, hcm⟩ := (Hr.out.keep (H3.keep0 hb)).at_ hj
          unfold maxLen at hcm
          have Hcs := Lib.hid hcs; clear hcs
          go_wp2_with fail
          go_loopg [5, 23] n' (fun k m i wr3 => ∃ (q : Nat) (vc : List Int) (m' : Bool), Hid (q + k = n') ∧ i = .int .i64 q ∧ m = .bool m' ∧ ValsS w wr3 b N sp vc ∧ InList (some (v2, m2)) (ls.getD j []) vc m' q)
          case atStart => exact ⟨0, v2, m2, Nat.zero_add _, rfl, rfl, H3, rfl⟩
          case round =>
            obtain ⟨wr3, rfl⟩ : ∃ x : World, x = wr := ⟨_, rfl⟩
            obtain ⟨g3, rfl⟩ : ∃ x : Nat, x = gk := ⟨_, rfl⟩
            obtain ⟨q, v3, m3, Hqk, rfl, rfl, H5, H6⟩ := hrel
            by_cases hq : q < n'
            · obtain ⟨bc, oc, A2, n2, c2, rfl, hbc, hcell2, hc, hnc2, hcm2⟩ := (Hcs.out.keep (ValsS.keepFrom H3 H5 hb)).at_ hq
              unfold maxLen at hcm2
              have Hc := Lib.hid hc; clear hc
              generalize hcc : (ls.getD j []).getD q [] = c at Hc
              have Hcc := Lib.hid hcc; clear hcc
              go_wp2_with fail
              go_loopg [10, 11, 29] n2 (fun k lf op i wr4 => ∃ (r : Nat) (l o : Int), Hid (r + k = n2) ∧ i = .int .i64 r ∧ lf = .int .i64 l ∧ op = .int .i64 o ∧ wr3 = wr4 ∧ InScan v3 c r l o)
              case atStart => exact ⟨0, 0, 0, Nat.zero_add _, rfl, rfl, rfl, rfl, rfl, by omega, by omega⟩
              case round =>
                obtain ⟨r, l, o, Hrk, rfl, rfl, rfl, hwr, H7⟩ := hrel
                subst hwr
                by_cases hrn : r < n2
                · obtain ⟨bi, oi, rfl, hbi, hcell3⟩ := Hc.out.at_ hrn
                  generalize hx : c.getD r 0 = x at hcell3
                  have Hx := Lib.hid hx; clear hx
                  have Hlc : Hid (r < c.length) := by rw [Hc.out.len]; exact hrn
                  have Hn := H7.next Hlc.out Hx.out
                  have hlx : Qm.IsLit N x := by
                    have h1 := Hlit.out _ (getD_mem (d := []) (by rw [Hr.out.len]; exact hj)) _ (getD_mem (d := []) (by rw [Hcs.out.len]; exact hq))
                    rw [Hcc.out] at h1
                    have h2 := h1 _ (getD_mem (d := 0) Hlc.out)
                    rwa [Hx.out] at h2
                  have ho1 := H7.2.1
                  have ho2 := H7.2.2
                  have hd : -((N + 1 : Nat) : Int) < x ∧ x < ((N + 1 : Nat) : Int) := by have := hlx.1; have := hlx.2; omega
                  have hcall := of_any (some ⟨b, 0, none⟩) (N + 1) cap v3 x wr3 (fun k => k = b) (wholeS_ints (S := fun k => k = b) H5.1 rfl H5.2.1.1) (by omega) hd (fine_bd H5.2.1)
                  rcases Qm.vof_range H5.2.1 x with h0 | h0 | h0
                  · rw [h0] at hcall
                    have H0 := Lib.hid h0; clear h0
                    have Hcall := Lib.hid hcall; clear hcall hd hlx
                    by_cases hnew : o = 0 ∨ o = 1 ∧ l ≠ x
                    · rw [scanStep_new ho1 H0.out hnew] at Hn
                      have HN := Lib.hid Hn; clear Hn
                      rcases hnew with h1 | ⟨h1, h2⟩
                      · obtain rfl : o = 0 := h1
                        go_wp2_with fail
                        refine Hcall.out.mono ?_
                        rintro e w' ⟨rfl, rfl⟩
                        go_wp2_with fail
                        go_roundg (gk - 1)
                        case measure => have := Hrk.out; omega
                        case rel => exact ⟨r + 1, x, 1, by have := Hrk.out; show _ = _; omega, by go_num, rfl, rfl, rfl, HN.out, by omega, by omega⟩
                      · obtain rfl : o = 1 := h1
                        have h3 : (l != x) = true := by simpa using h2
                        clear h2
                        go_wp2_with fail
                        refine Hcall.out.mono ?_
                        rintro e w' ⟨rfl, rfl⟩
                        go_wp2_with fail
                        go_roundg (gk - 1)
                        case measure => have := Hrk.out; omega
                        case rel => exact ⟨r + 1, x, 2, by have := Hrk.out; show _ = _; omega, by go_num, rfl, rfl, rfl, HN.out, by omega, by omega⟩
                    · rw [scanStep_old ho1 H0.out hnew] at Hn
                      have HN := Lib.hid Hn; clear Hn
                      have h1 : (o == 0) = false := by simp; omega
                      by_cases ho : o = 1
                      · obtain rfl : o = 1 := ho
                        have h3 : (l != x) = false := by simp; omega
                        clear hnew
                        go_wp2_with fail
                        refine Hcall.out.mono ?_
                        rintro e w' ⟨rfl, rfl⟩
                        go_wp2_with fail
                        go_roundg (gk - 1)
                        case measure => have := Hrk.out; omega
                        case rel => exact ⟨r + 1, l, 1, by have := Hrk.out; show _ = _; omega, by go_num, rfl, rfl, rfl, HN.out, by omega, by omega⟩
                      · have h3 : (o == 1) = false := by simp; omega
                        clear hnew
                        go_wp2_with fail
                        refine Hcall.out.mono ?_
                        rintro e w' ⟨rfl, rfl⟩
                        go_wp2_with fail
                        go_roundg (gk - 1)
                        case measure => have := Hrk.out; omega
                        case rel => exact ⟨r + 1, l, o, by have := Hrk.out; show _ = _; omega, by go_num, rfl, rfl, rfl, HN.out, by omega, by omega⟩
                  · rw [h0] at hcall
                    have H0 := Lib.hid h0; clear h0
                    have Hcall := Lib.hid hcall; clear hcall hd hlx
                    rw [scanStep_hold ho1 H0.out] at Hn
                    have Hsc := Lib.hid (Qm.scan_break Hn (by show (-1 : Int) < 0; omega)); clear Hn
                    go_wp2_with fail
                    refine Hcall.out.mono ?_
                    rintro e w' ⟨rfl, rfl⟩
                    go_wp2_with fail
                    go_roundg (g3 - 1)
                    case measure => have := Hqk.out; omega
                    case rel => exact ⟨q + 1, v3, m3, by have := Hqk.out; show _ = _; omega, by go_num, rfl, H5, H6.next_other (by rw [(Hcs.out).len]; exact hq) Hcc.out (by rw [Hsc.out]; show (-1 : Int) ≠ 0; omega) (by rw [Hsc.out]; show (-1 : Int) ≠ 1; omega)⟩
                  · rw [h0] at hcall
                    have H0 := Lib.hid h0; clear h0
                    have Hcall := Lib.hid hcall; clear hcall hd hlx
                    rw [scanStep_fail ho1 H0.out] at Hn
                    have HN := Lib.hid Hn; clear Hn
                    go_wp2_with fail
                    refine Hcall.out.mono ?_
                    rintro e w' ⟨rfl, rfl⟩
                    go_wp2_with fail
                    go_roundg (gk - 1)
                    case measure => have := Hrk.out; omega
                    case rel => exact ⟨r + 1, l, o, by have := Hrk.out; show _ = _; omega, by go_num, rfl, rfl, rfl, HN.out, by omega, by omega⟩
                · have Hsc := Lib.hid (H7.done (by rw [Hc.out.len]; have := Hrk.out; omega))
                  have ho1 := H7.2.1
                  by_cases h0 : o = 0
                  · obtain rfl : o = 0 := h0
                    go_wp2_with fail
                    go_ret
                    have hn : Qm.spread ls.flatten v = none := by
                      rw [← H2.2]
                      exact Qm.spread_none Hlit.out.flat H1.2.1 (InLists.fails H4 (by rw [Hr.out.len]; exact hj) H6 (by rw [Hcs.out.len]; exact hq) Hcc.out (by rw [Hsc.out]))
                    exact ⟨by rw [hn]; rfl, (fun v' hv' => by rw [hn] at hv'; cases hv'), H5.2.2.1, H5.2.2.2⟩
                  · have h0' : (o == 0) = false := by simpa using h0
                    by_cases h1 : o = 1
                    · obtain rfl : o = 1 := h1
                      have hlx : Qm.IsLit N l := by
                        have h1 := Hlit.out _ (getD_mem (d := []) (by rw [Hr.out.len]; exact hj)) _ (getD_mem (d := []) (by rw [Hcs.out.len]; exact hq))
                        rw [Hcc.out] at h1
                        have := Qm.scan_unit_mem (v := v3) (c := c) (by rw [Hsc.out])
                        rw [Hsc.out] at this
                        exact h1 _ this
                      have hd : -((N + 1 : Nat) : Int) < l ∧ l < ((N + 1 : Nat) : Int) := by have := hlx.1; have := hlx.2; omega
                      have hcall := setS_any sp b 3 (N + 1) cap v3 l wr3 H5.2.1.1 H5.1 (by omega) hd
                      have Hcall := Lib.hid hcall; clear hcall hd hlx
                      go_wp2_with fail
                      refine Hcall.out.mono ?_
                      rintro e w5 ⟨rfl, hw5⟩
                      go_wp2_with fail
                      go_roundg (g3 - 1)
                      case measure => have := Hqk.out; omega
                      case rel => exact ⟨q + 1, Qm.vset v3 l, true, by have := Hqk.out; show _ = _; omega, by go_num, rfl, ⟨hw5.1, Qm.vset_fine H5.2.1 _, grown_trans H5.2.2.1 hw5.2.1, hw5.2.2.trans H5.2.2.2⟩, H6.next_unit (by rw [Hcs.out.len]; exact hq) Hcc.out Hsc.out⟩
                    · have h1' : (o == 1) = false := by simpa using h1
                      clear h0 h1
                      go_wp2_with fail
                      go_roundg (g3 - 1)
                      case measure => have := Hqk.out; omega
                      case rel => exact ⟨q + 1, v3, m3, by have := Hqk.out; show _ = _; omega, by go_num, rfl, H5, H6.next_other (by rw [(Hcs.out).len]; exact hq) Hcc.out (by rw [Hsc.out]; exact beq_eq_false_iff_ne.1 h0') (by rw [Hsc.out]; exact beq_eq_false_iff_ne.1 h1')⟩
            · go_wp2_with fail
              go_roundg (g2 - 1)
              case measure => have := Hjk.out; omega
              case rel => exact ⟨j + 1, v3, m3, by have := Hjk.out; omega, by go_num, rfl, H5, InLists.next H4 (by rw [Hr.out.len]; exact hj) H6 (by rw [Hcs.out.len]; have := Hqk.out; omega)⟩
        · go_wp2_with fail
          go_roundg (Qm.zeros v1)
          case measure => exact H2.1
          case rel => exact ⟨v2, m2, rfl, H3, Head.next Hlit.out.flat H1.2.1 H2.2 (InLists.all H4 (by rw [Hr.out.len]; have := Hjk.out; omega))⟩
end Go.Proofs.Ytpkbncfnkgofmaa
