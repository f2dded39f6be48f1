/- Walk: the document's FollowsFrom. -/
import Derived.Test.YtpkbncfnkgofmaaW12
import Derived.Test.YtpkbncfnkgofmaaW18
namespace Go.Proofs.Ytpkbncfnkgofmaa
open Go.RowKit
def ffL (N : Nat) (cs : List (List Int)) (asm : List Int) : List Int := match Qm.followsV N cs asm with | none => [] | some v => Qm.litsTo v N
def FfPost (N : Nat) (cs : List (List Int)) (asm : List Int) (w : World) (e : Ending) (w' : World) : Prop :=
  ∃ (A : Option Addr) (n c : Nat), e = .returned (.tuple #[.slice A n c, .bool (Qm.followsV N cs asm).isSome]) ∧ RInts w' (fun k => w.heap.size ≤ k ∧ k < w'.heap.size) A n (ffL N cs asm) ∧ n ≤ c ∧ c ≤ maxLen ∧ Below w.heap.size w w'
theorem FfPost.no {N : Nat} {cs : List (List Int)} {asm : List Int} {w w' : World} (h : Qm.followsV N cs asm = none) (hb : Below w.heap.size w w') : FfPost N cs asm w (.returned (.tuple #[.slice none 0 0, .bool false])) w' := by
  refine ⟨none, 0, 0, by rw [h]; rfl, by unfold ffL; rw [h]; exact RInts.nil_, Nat.le_refl _, Nat.zero_le _, hb⟩
theorem RelK.at_ {N : Nat} {v : List Int} {K : Int → Bool} {m : Nat} (h : RelK N v K m) {j : Nat} (hj : j < N) : K ((j : Int) + 1) = (v.getD (j + 1) 0 == 1) ∧ K (-((j : Int) + 1)) = (v.getD (j + 1) 0 == -1) := by
  have hv : Qm.vof v ((j : Int) + 1) = v.getD (j + 1) 0 := by unfold Qm.vof; rw [if_neg (by omega)]; congr 1
  have hl : Qm.IsLit N ((j : Int) + 1) := ⟨by omega, by omega⟩
  exact ⟨by rw [h.1 _ hl, hv], by rw [h.neg hl, hv]⟩

theorem cell_one_at (w : World) (x : Value) (t : TypeId) (b : Nat) (h : b = w.heap.size) : ∀ j u, [x][j]? = some u → (w.alloc (.cells #[x] t)).cell? ((⟨b, 0, none⟩ : Addr).add j) = some u := by subst h; exact cell_one_new w x t

set_option maxRecDepth 100000 in
set_option maxHeartbeats 4000000 in
theorem rfollows_any (A A' : Option Addr) (n cap n' cap' N : Nat) (cs : List (List Int)) (asm : List Int) (w : World) (S : Nat → Prop) (hS : ∀ k, S k → k < w.heap.size)
    (hr : RClauses w S A n cs) (hr' : RInts w S A' n' asm) (hn : n ≤ cap ∧ cap ≤ maxLen) (hn' : n' ≤ 400) (hN : N ≤ 400) (hcs : ∀ c ∈ cs, Qm.IsCl N c) (hls : ∀ x ∈ asm, Qm.IsLit N x) :
    Calls Try.prog 30 #[.agg #[.int .i64 (N : Int), .slice A n cap], .slice A' n' cap'] w (FfPost N cs asm w) := by
  have Hr := Lib.hid hr; have Hr' := Lib.hid hr'; have Hn := Lib.hid hn; have Hcs := Lib.hid hcs; have Hls := Lib.hid hls
  clear hr hr' hn hcs hls
  obtain ⟨w1, hw1⟩ : ∃ x, x = w.alloc (.cells #[.int .i64 (N : Int), .slice A n cap] 29) := ⟨_, rfl⟩
  have hb1 : Below w.heap.size w w1 := by rw [hw1]; exact (Below.refl _ _).alloc (Nat.le_refl _) _
  have hW1 : Whole w1 w.heap.size 29 [.int .i64 (N : Int), .slice A n cap] := by rw [hw1]; exact Whole.new w _ _ _ rfl
  have Hz1 : Hid (w1.heap.size = w.heap.size + 1) := by rw [hw1]; simp [Hid]
  have Hb1 := Lib.hid hb1; have HW1 := Lib.hid hW1; have Hw1 := Lib.hid hw1
  clear hb1 hW1 hw1
  have hmm := @run_makeMap Try.prog
  go_enter Try.func30, Try.ntmps30
  go_wp2_with fail
  clear hmm
  go_loopg [16] n' (fun g i wr => ∃ (k : Nat) (vc : List Int) (K : Int → Bool) (m : Nat), Hid (k + g = n') ∧ i = .int .i64 k ∧ IntSet Try.prog wr (w.heap.size + 1) K m ∧ RelK N vc K m ∧ Qm.Fine N vc ∧ Below w1.heap.size w1 wr ∧ Hid ((asm.take k).foldl Qm.assume1 (some (Qm.zeroVals N)) = some vc))
  case atStart =>
    refine ⟨0, Qm.zeroVals N, fun _ => false, 0, Nat.zero_add _, rfl, ?_, relK_zero N, Qm.zeroVals_fine N, ?_, rfl⟩
    · rw [← Hw1.out, ← Hz1.out]; exact IntSet.made _ w1
    · rw [← Hw1.out]; exact (Below.refl _ _).alloc (Nat.le_refl _) _
  case round =>
    obtain ⟨k, vc, K, m, Hk, rfl, hset, hrel2, hfine, hbr, Hfold⟩ := hrel
    have hbw : Below w.heap.size w wr := Hb1.out.trans (hbr.mono Hb1.out.size)
    have hW := HW1.out.below hbr HW1.out.lt
    have hf0 := hW.cell 0
    have hf1 := hW.cell 1
    simp only [List.getElem?_cons_zero, List.getElem?_cons_succ] at hf0 hf1
    have HWr := Lib.hid hW; have Hbr := Lib.hid hbr; have Hbw := Lib.hid hbw
    clear hW hbr hbw
    by_cases hk : k < n'
    · obtain ⟨b, o, rfl, hb, hcell⟩ := (Hr'.out.below Hbw.out hS).at_ hk
      have hlc : k < asm.length := by rw [Hr'.out.len]; exact hk
      generalize hx : asm.getD k 0 = x at hcell
      have hlx : Qm.IsLit N x := by have := Hls.out _ (getD_mem (d := 0) hlc); rwa [hx] at this
      have hxb : -400 ≤ x ∧ x ≤ 400 := by have := hlx.2; omega
      have hwx : (Lit.int .i64 x).wf = true := wf_of (by omega) (by omega)
      have hwn : (Lit.int .i64 (-x)).wf = true := wf_of (by omega) (by omega)
      have hnext := Qm.assume_take Hfold.out hlc hx
      have hl1 := hset.look Try.underlying3 Try.underlying4 (zeroBool _) Try.underlying67 hwn
      have hKn := hrel2.neg hlx
      have Hx := Lib.hid hx; clear hx
      by_cases hvv : Qm.vof vc x = -1
      · rw [if_pos hvv] at hnext
        rw [hKn, hvv] at hl1
        have Hnext := Lib.hid hnext
        clear hnext hvv hlx hlc hKn hwx hwn
        go_wp2_with fail
        go_ret2
        exact FfPost.no (by unfold Qm.followsV; rw [Qm.assume_stop Hnext.out]) Hbw.out
      · rw [if_neg hvv] at hnext
        have hKf : K (-x) = false := by rw [hKn]; simpa using hvv
        rw [hKf] at hl1
        have hms := hrel2.2
        obtain ⟨w5, hput, hset5, hg5, hs5⟩ := hset.put Try.underlying3 Try.underlying4 Try.underlying67 hwx (by unfold maxLen; omega)
        have hrel5 := RelK.set hrel2 hfine hlx hvv
        have Hnext := Lib.hid hnext; have Hset5 := Lib.hid hset5; have Hrel5 := Lib.hid hrel5
        have Hb5 : Hid (Below w1.heap.size w1 w5) := Hbr.out.trans (below_of_grown hg5 Hbr.out.size (fun k e => by injection e with e; have := Hz1.out; omega))
        clear hnext hvv hlx hlc hKn hKf hwx hwn hset5 hrel5 hg5 hs5 hms
        go_wp2_with fail
        go_roundg (gk - 1)
        case measure => have := Hk.out; omega
        case rel => exact ⟨k + 1, Qm.vset vc x, _, _, by have := Hk.out; show _ = _; omega, by go_num, Hset5.out, Hrel5.out, Qm.vset_fine hfine _, Hb5.out, Hnext.out⟩
    · have hb2 : ∀ o : Obj, Below wr.heap.size wr (wr.alloc o) := fun o => (Below.refl _ _).alloc (Nat.le_refl _) o
      have hbs := Hbw.out.size
      have hlt := hset.lt
      have hcall := fails_any N (w.heap.size + 1) 1 1 m K vc (some ⟨wr.heap.size, 0, none⟩) [cs] (wr.alloc (.cells #[.slice A n cap] 27)) (fun k => S k ∨ k = wr.heap.size) hN
        ⟨hset.kept (World.grownBy_alloc _ _ none) (by simp), hrel2, hfine, World.grownBy.refl _ _⟩
        (fun k hk => by rcases hk with hk | hk <;> first | (have := hS k hk; simp; omega) | (simp; omega))
        (rlists1 (Whole.new wr _ 27 [.slice A n cap] rfl) (.inr rfl) (((Hr.out.below Hbw.out hS).below (hb2 _) (fun k hk => by have := hS k hk; omega)).more (fun k hk => .inl hk)) Hn.out) (by unfold maxLen; omega)
        (fun l hl c hc => by rw [List.mem_singleton] at hl; subst hl; exact Hcs.out c hc)
      rw [List.flatten_singleton] at hcall
      have hass := Qm.assume_all Hfold.out (by rw [Hr'.out.len]; have := Hk.out; omega)
      have hres : Qm.followsV N cs asm = Qm.spread cs vc := by unfold Qm.followsV; rw [hass]
      have Hcall := Lib.hid hcall; have Hres := Lib.hid hres
      clear hcall hres hass hb2
      go_wp2_with fail
      refine Hcall.out.mono ?_
      rintro e w5 ⟨he, hv2, hg5⟩
      have hb5 : Below w.heap.size w w5 := (Hbw.out.alloc hbs _).trans (below_of_grown hg5 (by simp; omega) (fun k e => by injection e with e; omega))
      have Hb5 := Lib.hid hb5
      have hW5 : Whole w5 w.heap.size 29 [.int .i64 (N : Int), .slice A n cap] := (HWr.out.alloc _).grown hg5 (by intro e; injection e with e; omega)
      have HW5 := Lib.hid hW5
      clear hf0 hf1 hb5 hW5 hg5
      generalize hsp : Qm.spread cs vc = sp at he hv2
      cases sp with
      | none =>
        obtain rfl : e = .returned (.bool true) := he
        clear hv2
        have Hsp := Lib.hid hsp; clear hsp
        go_wp2_with fail
        go_ret2
        exact FfPost.no (by rw [Hres.out, Hsp.out]) Hb5.out
      | some v2 =>
        obtain rfl : e = .returned (.bool false) := he
        obtain ⟨K2, m2, hset2, hrel5, hfine2⟩ := hv2 v2 rfl
        have Hsp := Lib.hid hsp
        clear hv2 hsp
        have hf0 := HW5.out.cell 0
        simp only [List.getElem?_cons_zero] at hf0
        obtain ⟨i0, hi, hz0, hz1, hz2⟩ := info_parts int_info
        go_wp2_with fail
        go_loopg [9, 10] N (fun g lv kv wr => ∃ (j : Nat), Hid (j + g = N) ∧ kv = .int .i64 ((j : Int) + 1) ∧ wr.ownsRow w5.heap.size 3 1 lv (Qm.litsTo v2 j).length ((Qm.litsTo v2 j).map (Value.int .i64)) ∧ Below w5.heap.size w5 wr)
        case atStart => exact ⟨0, Nat.zero_add _, rfl, World.ownsRow_nil _ _ _ _, Below.refl _ _⟩
        case round =>
          obtain ⟨j, Hj, rfl, hown, hbel⟩ := hrel
          have hb0 := (HW5.out.below hbel HW5.out.lt).cell 0
          simp only [List.getElem?_cons_zero] at hb0
          have hll := Qm.litsTo_len v2 j
          clear hf0
          by_cases hj : j < N
          · skip
            have hsetr : IntSet Try.prog wr (w.heap.size + 1) K2 m2 := hset2.kept (grown_of_below hbel none) (by simp)
            have hwp : (Lit.int .i64 ((j : Int) + 1)).wf = true := wf_of (by omega) (by omega)
            have hwn : (Lit.int .i64 (-((j : Int) + 1))).wf = true := wf_of (by omega) (by omega)
            obtain ⟨hk1, hk2⟩ := hrel5.at_ hj
            have hu : v2.getD (j + 1) 0 = v2[j + 1]'(by have := hfine2.1; omega) := by rw [List.getD_eq_getElem?_getD, List.getElem?_eq_getElem]; rfl
            have hur := hfine2.2 _ (List.getElem_mem (l := v2) (n := j + 1) (by have := hfine2.1; omega))
            generalize v2[j + 1]'(by have := hfine2.1; omega) = u at hu hur
            have Hu := Lib.hid hu
            rw [hu] at hk1 hk2
            clear hu
            have hl1 := (hsetr.kept (World.grownBy_alloc wr (.cells #[.int .i64 ((j : Int) + 1), .int .i64 (-((j : Int) + 1))] 3) none) (by simp)).look Try.underlying3 Try.underlying4 (zeroBool _) Try.underlying67 hwp
            have hl2 := (hsetr.kept (World.grownBy_alloc wr (.cells #[.int .i64 ((j : Int) + 1), .int .i64 (-((j : Int) + 1))] 3) none) (by simp)).look Try.underlying3 Try.underlying4 (zeroBool _) Try.underlying67 hwn
            rw [hk1] at hl1
            rw [hk2] at hl2
            rcases hur with rfl | rfl | rfl
            · have Hln : Hid (Qm.litsTo v2 (j + 1) = Qm.litsTo v2 j) := Qm.litsTo_zero Hu.out
              have Hown := Lib.hid (hown.alloc (.cells #[.int .i64 ((j : Int) + 1), .int .i64 (-((j : Int) + 1))] 3)); have Hbel := Lib.hid (hbel.alloc hbel.size (.cells #[.int .i64 ((j : Int) + 1), .int .i64 (-((j : Int) + 1))] 3))
              clear hown hbel hk1 hk2 hwp hwn hsetr
              have e1 : ((0 : Int) == 1) = false := rfl
              have e2 : ((0 : Int) == -1) = false := rfl
              rw [e1] at hl1
              rw [e2] at hl2
              clear e1 e2
              go_wp2_with fail
              refine wp_loop_rounds 3 ?_
              rw [rounds_succ]
              go_wp2_with fail
              rw [rounds_succ]
              go_wp2_with fail
              rw [rounds_succ]
              go_wp2_with fail
              go_roundg (gk - 1)
              case measure => have := Hj.out; omega
              case rel => exact ⟨j + 1, by have := Hj.out; show _ = _; omega, by go_num, by rw [Hln.out]; exact Hown.out, Hbel.out⟩
            · have Hln : Hid (Qm.litsTo v2 (j + 1) = Qm.litsTo v2 j ++ [(j : Int) + 1]) := Qm.litsTo_one Hu.out
              have e1 : ((1 : Int) == 1) = true := rfl
              have e2 : ((1 : Int) == -1) = false := rfl
              rw [e1] at hl1 hk1
              rw [e2] at hl2 hk2
              clear e1 e2 hl2
              have Hk2 := Lib.hid hk2; have Hset := Lib.hid hsetr; have Hown := Lib.hid hown; have Hbel := Lib.hid hbel; clear hk2 hk1 hwp hwn hsetr hown hbel
              go_wp2_with fail
              refine wp_loop_rounds 3 ?_
              rw [rounds_succ]
              go_wp2_with (at_builtin; refine wpList_append_own _ rfl _ _ 24 rfl w5.heap.size 3 i0 (.int .i64 0) 1 8 Try.underlying24 hi hz0 hz1 hz2 rfl (by decide) _ _ _ rfl ((Hown.out.alloc _).alloc _) ⟨wr.heap.size + 1, 0, none⟩ 1 1 [.int .i64 ((j : Int) + 1)] rfl rfl ?c1 ?c2 ?c3 ?c4 ?c5 ?_)
              case c1 => exact cell_one_at _ _ _ _ (by simp)
              case c2 => simp [Value.oneCell']
              case c3 => unfold maxLen; omega
              case c4 => omega
              case c5 => have := Hbel.out.size; simp; omega
              intro lv' w6 hown6 hg6 _
              have hbel6 : Below w5.heap.size w5 w6 := ((Hbel.out.alloc Hbel.out.size _).alloc (by have := Hbel.out.size; simp; omega) _).trans (below_of_grown hg6 (by have := Hbel.out.size; simp; omega) (fun k e => (Hown.out.lt k e).1))
              have hset6 : IntSet Try.prog w6 (w.heap.size + 1) K2 m2 := ((Hset.out.kept (World.grownBy_alloc _ _ none) (by simp)).kept (World.grownBy_alloc _ _ none) (by simp)).kept hg6 (by intro e; have := (Hown.out.lt _ e.symm).1; have := hset2.lt; omega)
              have hc6 : Whole w6 wr.heap.size 3 [.int .i64 ((j : Int) + 1), .int .i64 (-((j : Int) + 1))] := ((Whole.new wr _ 3 [.int .i64 ((j : Int) + 1), .int .i64 (-((j : Int) + 1))] rfl).alloc _).grown hg6 (by intro e; have := (Hown.out.lt _ e.symm).2; omega)
              have hc61 := hc6.cell 1
              simp only [List.getElem?_cons_zero, List.getElem?_cons_succ] at hc61
              have hl26 := hset6.look (x := -((j : Int) + 1)) Try.underlying3 Try.underlying4 (zeroBool _) Try.underlying67 (wf_of (by omega) (by omega))
              rw [Hk2.out] at hl26
              have hown7 : w6.ownsRow w5.heap.size 3 1 lv' (Qm.litsTo v2 (j + 1)).length ((Qm.litsTo v2 (j + 1)).map (Value.int .i64)) := by
                rw [Hln.out, List.length_append, List.map_append]; exact hown6
              have Hown7 := Lib.hid hown7; have Hbel6 := Lib.hid hbel6
              clear hown6 hg6 hown7 hbel6 hset6 hc6
              go_wp2_with fail
              rw [rounds_succ]
              go_wp2_with fail
              rw [rounds_succ]
              go_wp2_with fail
              go_roundg (gk - 1)
              case measure => have := Hj.out; omega
              case rel => exact ⟨j + 1, by have := Hj.out; show _ = _; omega, by go_num, Hown7.out, Hbel6.out⟩
            · have Hln : Hid (Qm.litsTo v2 (j + 1) = Qm.litsTo v2 j ++ [-((j : Int) + 1)]) := Qm.litsTo_neg Hu.out
              have e1 : ((-1 : Int) == 1) = false := rfl
              have e2 : ((-1 : Int) == -1) = true := rfl
              rw [e1] at hl1 hk1
              rw [e2] at hl2 hk2
              clear e1 e2
              have Hk2 := Lib.hid hk2; have Hset := Lib.hid hsetr; have Hown := Lib.hid hown; have Hbel := Lib.hid hbel; clear hk2 hk1 hwp hwn hsetr hown hbel
              go_wp2_with fail
              refine wp_loop_rounds 3 ?_
              rw [rounds_succ]
              go_wp2_with fail
              rw [rounds_succ]
              go_wp2_with (at_builtin; refine wpList_append_own _ rfl _ _ 24 rfl w5.heap.size 3 i0 (.int .i64 0) 1 8 Try.underlying24 hi hz0 hz1 hz2 rfl (by decide) _ _ _ rfl ((Hown.out.alloc _).alloc _) ⟨wr.heap.size + 1, 0, none⟩ 1 1 [.int .i64 (-((j : Int) + 1))] rfl rfl ?c1 ?c2 ?c3 ?c4 ?c5 ?_)
              case c1 => exact cell_one_at _ _ _ _ (by simp)
              case c2 => simp [Value.oneCell']
              case c3 => unfold maxLen; omega
              case c4 => omega
              case c5 => have := Hbel.out.size; simp; omega
              intro lv' w6 hown6 hg6 _
              have hbel6 : Below w5.heap.size w5 w6 := ((Hbel.out.alloc Hbel.out.size _).alloc (by have := Hbel.out.size; simp; omega) _).trans (below_of_grown hg6 (by have := Hbel.out.size; simp; omega) (fun k e => (Hown.out.lt k e).1))
              have hset6 : IntSet Try.prog w6 (w.heap.size + 1) K2 m2 := ((Hset.out.kept (World.grownBy_alloc _ _ none) (by simp)).kept (World.grownBy_alloc _ _ none) (by simp)).kept hg6 (by intro e; have := (Hown.out.lt _ e.symm).1; have := hset2.lt; omega)
              have hc6 : Whole w6 wr.heap.size 3 [.int .i64 ((j : Int) + 1), .int .i64 (-((j : Int) + 1))] := ((Whole.new wr _ 3 [.int .i64 ((j : Int) + 1), .int .i64 (-((j : Int) + 1))] rfl).alloc _).grown hg6 (by intro e; have := (Hown.out.lt _ e.symm).2; omega)
              have hc61 := hc6.cell 1
              simp only [List.getElem?_cons_zero, List.getElem?_cons_succ] at hc61
              have hl26 := hset6.look (x := -((j : Int) + 1)) Try.underlying3 Try.underlying4 (zeroBool _) Try.underlying67 (wf_of (by omega) (by omega))
              rw [Hk2.out] at hl26
              have hown7 : w6.ownsRow w5.heap.size 3 1 lv' (Qm.litsTo v2 (j + 1)).length ((Qm.litsTo v2 (j + 1)).map (Value.int .i64)) := by
                rw [Hln.out, List.length_append, List.map_append]; exact hown6
              have Hown7 := Lib.hid hown7; have Hbel6 := Lib.hid hbel6
              clear hown6 hg6 hown7 hbel6 hset6 hc6
              go_wp2_with fail
              rw [rounds_succ]
              go_wp2_with fail
              go_roundg (gk - 1)
              case measure => have := Hj.out; omega
              case rel => exact ⟨j + 1, by have := Hj.out; show _ = _; omega, by go_num, Hown7.out, Hbel6.out⟩
          · go_wp2_with fail
            go_ret2
            obtain rfl : j = N := by have := Hj.out; omega
            obtain ⟨A9, c9, rfl, hc1, hc2, hrow⟩ := own_form hown
            refine ⟨A9, _, c9, by rw [Hres.out, Hsp.out]; rfl, ?_, hc1, hc2, Hb5.out.trans (hbel.mono Hb5.out.size)⟩
            unfold ffL
            rw [Hres.out, Hsp.out]
            exact hrow.more (fun k hk => ⟨Nat.le_trans Hb5.out.size hk.1, hk.2⟩)
end Go.Proofs.Ytpkbncfnkgofmaa
