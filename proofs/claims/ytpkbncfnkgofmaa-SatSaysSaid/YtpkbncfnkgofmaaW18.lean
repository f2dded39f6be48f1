/- Walk: cnf.Follows. -/
import Derived.Test.YtpkbncfnkgofmaaW6
import Derived.Test.YtpkbncfnkgofmaaW9
import Derived.Test.YtpkbncfnkgofmaaW10
import Derived.Test.YtpkbncfnkgofmaaW17
import Derived.Test.YtpkbncfnkgofmaaPlain4
import Derived.Maps.AppendAt
namespace Go.Proofs.Ytpkbncfnkgofmaa
open Go.RowKit
def folErr (vars : Int) (cs : List (List Int)) (asm : List Int) : Int := if ckFormula vars cs ≠ 0 then ckFormula vars cs else if 400 < asm.length then 2 else ckLits asm vars
def folV (vars : Int) (cs : List (List Int)) (asm : List Int) : Option (List Int) := if folErr vars cs asm ≠ 0 then none else Qm.followsV vars.toNat cs asm
def folOk (vars : Int) (cs : List (List Int)) (asm : List Int) : Bool := (folV vars cs asm).isSome
def folL (vars : Int) (cs : List (List Int)) (asm : List Int) : List Int := match folV vars cs asm with | none => [] | some v => Qm.litsTo v vars.toNat
def FolPost (vars : Int) (cs : List (List Int)) (asm : List Int) (w : World) (e : Ending) (w' : World) : Prop :=
  ∃ (A : Option Addr) (n c : Nat), e = .returned (.tuple #[.slice A n c, .bool (folOk vars cs asm), .int .i64 (folErr vars cs asm)]) ∧ RInts w' (fun k => w.heap.size ≤ k ∧ k < w'.heap.size) A n (folL vars cs asm) ∧ n ≤ c ∧ c ≤ maxLen ∧ Below w.heap.size w w'
theorem FolPost.no {vars : Int} {cs : List (List Int)} {asm : List Int} {w w' : World} {E : Int} (h : folV vars cs asm = none) (he : folErr vars cs asm = E) (hb : Below w.heap.size w w') :
    FolPost vars cs asm w (.returned (.tuple #[.slice none 0 0, .bool false, .int .i64 E])) w' := by
  refine ⟨none, 0, 0, ?_, ?_, Nat.le_refl _, Nat.zero_le _, hb⟩
  · unfold folOk; rw [h, he]; rfl
  · unfold folL; rw [h]; exact RInts.nil_
theorem folV_err {vars : Int} {cs : List (List Int)} {asm : List Int} (h : folErr vars cs asm ≠ 0) : folV vars cs asm = none := by unfold folV; rw [if_pos h]
theorem ckLits_ok {N : Nat} {asm : List Int} (h : ckLits asm (N : Int) = 0) : ∀ x ∈ asm, Qm.IsLit N x := by
  intro x hx
  unfold ckLits at h
  split at h
  · omega
  · rename_i h2
    have h3 : badLit (N : Int) x = false := by
      cases hb : badLit (N : Int) x
      · rfl
      · exact absurd (List.any_eq_true.2 ⟨x, hx, hb⟩) h2
    have h4 : ¬ ((N : Int) < 0 ∨ x = 0 ∨ x < -(N : Int) ∨ (N : Int) < x) := by
      intro h5
      rw [badLit_yes h5] at h3; cases h3
    exact ⟨by omega, by omega⟩

theorem own_form {w : World} {base : Nat} {e : TypeId} {v : Value} {n : Nat} {vs : List Value} (h : w.ownsRow base e 1 v n vs) : ∃ (A : Option Addr) (c : Nat), v = .slice A n c ∧ n ≤ c ∧ c ≤ maxLen ∧ Row w (fun k => base ≤ k ∧ k < w.heap.size) A n vs := by
  have h' := h
  rcases h'.2 with ⟨rfl, rfl⟩ | ⟨g, cap, cur, rfl, hb, hh, hc, hm, _⟩
  · exact ⟨none, 0, rfl, Nat.le_refl _, Nat.zero_le _, by have := h.1; simpa using this, fun h => absurd h (by omega)⟩
  · exact ⟨_, cap, rfl, hc, hm, row_of_own h (fun g' e => by simp [Value.ownBlock] at e; subst e; exact ⟨hb, lt_of_block hh⟩)⟩

set_option maxHeartbeats 4000000 in
theorem follows_any (A A' : Option Addr) (n cap n' cap' : Nat) (vars : Int) (cs : List (List Int)) (asm : List Int) (w : World) (S : Nat → Prop) (hS : ∀ k, S k → k < w.heap.size)
    (hr : RClauses w S A n cs) (hr' : RInts w S A' n' asm) (hn : n ≤ cap ∧ cap ≤ maxLen) (hn' : n' ≤ maxLen) (hv : -9223372036854775808 ≤ vars) (hv' : vars ≤ 9223372036854775807) :
    Calls Try.prog 22 #[.agg #[.int .i64 vars, .slice A n cap], .slice A' n' cap'] w (FolPost vars cs asm w) := by
  have Hr := Lib.hid hr; have Hr' := Lib.hid hr'; have Hn := Lib.hid hn; have Hnm := Lib.hid hn'
  unfold maxLen at hn'
  clear hr hr' hn
  have hb0 : Below w.heap.size w (w.alloc (.cells #[.int .i64 vars, .slice A n cap] 29)) := (Below.refl _ _).alloc (Nat.le_refl _) _
  have hck := checkFormula_any A n cap cs vars _ S (Hr.out.below hb0 hS) (fun k hk => by have := hS k hk; simp; omega) (Nat.le_trans Hn.out.1 Hn.out.2) hv hv'
  generalize he : ckFormula vars cs = E at hck
  have He := Lib.hid he; clear he
  have Hck := Lib.hid hck
  clear hck hb0
  go_enter Try.func22, Try.ntmps22
  go_wp2_with fail
  refine Hck.out.mono ?_
  rintro e w1 ⟨rfl, hb1⟩
  have hb1' : Below w.heap.size w w1 := ((Below.refl _ _).alloc (Nat.le_refl _) _).trans (hb1.mono (by simp))
  have hW1 : Whole w1 w.heap.size 29 [.int .i64 vars, .slice A n cap] := Whole.below (Whole.new w _ _ _ rfl) hb1 (by simp)
  have Hb1 := Lib.hid hb1'; have HW1 := Lib.hid hW1
  have hf0 := hW1.cell 0
  have hf1 := hW1.cell 1
  simp only [List.getElem?_cons_zero, List.getElem?_cons_succ] at hf0 hf1
  clear hW1 hb1 hb1'
  by_cases hE : E = 0
  · subst hE
    by_cases hl : 400 < n'
    · have hl' : decide ((400 : Int) < (n' : Int)) = true := by simp; omega
      have HE : Hid (folErr vars cs asm = 2) := by show _ = _; unfold folErr; rw [if_neg (by rw [He.out]; simp), if_pos (by rw [Hr'.out.len]; exact hl)]
      go_wp2_with fail
      go_ret3
      exact FolPost.no (folV_err (by rw [HE.out]; omega)) HE.out Hb1.out
    · have hl' : decide ((400 : Int) < (n' : Int)) = false := by simp; omega
      have hck2 := checkLits_any A' n' cap' asm vars w1 S (Hr'.out.below Hb1.out hS) Hnm.out hv hv'
      generalize he2 : ckLits asm vars = E2 at hck2
      have He2 := Lib.hid he2; clear he2
      have Hck2 := Lib.hid hck2; clear hck2
      have HE : Hid (folErr vars cs asm = E2) := by show _ = _; unfold folErr; rw [if_neg (by rw [He.out]; simp), if_neg (by rw [Hr'.out.len]; exact hl), He2.out]
      by_cases hE2 : E2 = 0
      · subst hE2
        obtain ⟨N, rfl, hN, hcl, hcs⟩ := ckFormula_ok He.out
        have hls := ckLits_ok He2.out
        have Hcs := Lib.hid hcs; have Hls := Lib.hid hls; clear hcs hls
        have HV : Hid (folV (N : Int) cs asm = Qm.followsV N cs asm) := by show _ = _; unfold folV; rw [if_neg (by rw [HE.out]; simp)]; rfl
        have hmk := fun w => run_make_zeros N hN w
        go_wp2_with fail
        refine Hck2.out.mono ?_
        rintro e w' ⟨rfl, rfl⟩
        go_wp2_with fail
        clear hmk hf0 hf1
        have hsz := Hb1.out.size
        go_loopg [35] n' (fun g i wr => ∃ (k : Nat) (vc : List Int), Hid (k + g = n') ∧ i = .int .i64 k ∧ Whole wr w1.heap.size 3 (vc.map (Value.int .i64)) ∧ Qm.Fine N vc ∧ (w1.alloc (zeroObj N)).grownBy wr (some w1.heap.size) ∧ wr.heap.size = w1.heap.size + 1 ∧ Hid ((asm.take k).foldl Qm.assume1 (some (Qm.zeroVals N)) = some vc))
        case atStart => exact ⟨0, Qm.zeroVals N, Nat.zero_add _, rfl, whole_zeros _ N _ rfl, Qm.zeroVals_fine N, World.grownBy.refl _ _, by simp, rfl⟩
        case round =>
          obtain ⟨k, vc, Hk, rfl, hwv, hfine, hgr, hszr, Hfold⟩ := hrel
          have hbr : Below w1.heap.size w1 wr := ((Below.refl _ _).alloc (Nat.le_refl _) _).trans (below_of_grown hgr (by simp) (fun k e => by injection e with e; omega))
          have hbw : Below w.heap.size w wr := Hb1.out.trans (hbr.mono hsz)
          have hW := HW1.out.below hbr HW1.out.lt
          have hf0 := hW.cell 0
          have hf1 := hW.cell 1
          simp only [List.getElem?_cons_zero, List.getElem?_cons_succ] at hf0 hf1
          have HWr := Lib.hid hW; have Hbr := Lib.hid hbr; have Hbw := Lib.hid hbw
          have Hwv := Lib.hid hwv; have Hgr := Lib.hid hgr; have Hszr := Lib.hid hszr
          clear hW hbr hbw hwv hgr
          by_cases hk : k < n'
          · obtain ⟨b, o, rfl, hb, hcell⟩ := (Hr'.out.below Hbw.out hS).at_ hk
            have hlc : k < asm.length := by rw [Hr'.out.len]; exact hk
            generalize hx : asm.getD k 0 = x at hcell
            have hlx : Qm.IsLit N x := by have := Hls.out _ (getD_mem (d := 0) hlc); rwa [hx] at this
            have hd : -((N + 1 : Nat) : Int) < x ∧ x < ((N + 1 : Nat) : Int) := by have := hlx.1; have := hlx.2; omega
            have hnext := Qm.assume_take Hfold.out hlc hx
            have hcall := of_any (some ⟨w1.heap.size, 0, none⟩) (N + 1) (N + 1) vc x wr (fun k => k = w1.heap.size) (Whole.ints (S := fun k => k = w1.heap.size) Hwv.out rfl hfine.1) (by omega) hd (fine_bd hfine)
            have Hx := Lib.hid hx; clear hx hszr
            by_cases hvv : Qm.vof vc x = -1
            · rw [if_pos hvv] at hnext
              rw [hvv] at hcall
              have Hcall := Lib.hid hcall; have Hnext := Lib.hid hnext
              clear hcall hnext hvv hlx hd hlc
              go_wp2_with fail
              refine Hcall.out.mono ?_
              rintro e w' ⟨rfl, rfl⟩
              go_wp2_with fail
              go_ret3
              exact FolPost.no (by rw [HV.out]; unfold Qm.followsV; rw [Qm.assume_stop Hnext.out]) HE.out Hbw.out
            · rw [if_neg hvv] at hnext
              have hlt : decide (Qm.vof vc x < 0) = false := by
                rcases Qm.vof_range hfine x with h | h | h
                · rw [h]; rfl
                · rw [h]; rfl
                · exact absurd h hvv
              generalize Qm.vof vc x = u at hcall hlt
              have hcall2 := set_any w1.heap.size 3 (N + 1) (N + 1) vc x wr hfine.1 Hwv.out (by omega) hd
              have Hcall := Lib.hid hcall; have Hnext := Lib.hid hnext; have Hcall2 := Lib.hid hcall2
              clear hcall hnext hvv hlx hd hcall2 hlc
              go_wp2_with fail
              refine Hcall.out.mono ?_
              rintro e w' ⟨rfl, rfl⟩
              go_wp2_with fail
              refine Hcall2.out.mono ?_
              rintro e w5 ⟨rfl, hw5⟩
              go_wp2_with fail
              go_roundg (gk - 1)
              case measure => have := Hk.out; omega
              case rel => exact ⟨k + 1, Qm.vset vc x, by have := Hk.out; show _ = _; omega, by go_num, hw5.1, Qm.vset_fine hfine _, grown_trans Hgr.out hw5.2.1, hw5.2.2.trans Hszr.out, Hnext.out⟩
          · have hb2 : ∀ o : Obj, Below wr.heap.size wr (wr.alloc o) := fun o => (Below.refl _ _).alloc (Nat.le_refl _) o
            have hbs := Hbw.out.size
            have hcall := spread_any N w1.heap.size (N + 1) 1 1 vc (some ⟨wr.heap.size, 0, none⟩) [cs] (wr.alloc (.cells #[.slice A n cap] 27)) (fun k => S k ∨ k = wr.heap.size) hN hfine (Hwv.out.alloc _)
              (fun k hk => by rcases hk with hk | hk <;> first | (have := hS k hk; simp; omega) | (simp; omega))
              (rlists1 (Whole.new wr _ 27 [.slice A n cap] rfl) (.inr rfl) (((Hr.out.below Hbw.out hS).below (hb2 _) (fun k hk => by have := hS k hk; omega)).more (fun k hk => .inl hk)) Hn.out) (by unfold maxLen; omega)
              (fun l hl c hc => by rw [List.mem_singleton] at hl; subst hl; exact (Hcs.out c hc).1)
            rw [List.flatten_singleton] at hcall
            have hass := Qm.assume_all Hfold.out (by rw [Hr'.out.len]; have := Hk.out; omega)
            have hres : Qm.followsV N cs asm = Qm.spread cs vc := by unfold Qm.followsV; rw [hass]
            have Hcall := Lib.hid hcall; have Hres := Lib.hid hres
            clear hcall hres hass hb2 hszr
            go_wp2_with fail
            refine Hcall.out.mono ?_
            rintro e w5 ⟨he, hv2, hg5, hs5⟩
            have hb5 : Below w.heap.size w w5 := (Hbw.out.alloc hbs _).trans (below_of_grown hg5 (by simp; omega) (fun k e => by injection e with e; omega))
            have Hb5 := Lib.hid hb5
            have hsp5 : w.heap.size ≤ w5.heap.size := hb5.size
            have hW5 : Whole w5 w.heap.size 29 [.int .i64 (N : Int), .slice A n cap] := (HWr.out.alloc _).grown hg5 (by intro e; injection e with e; have := HW1.out.lt; omega)
            have HW5 := Lib.hid hW5
            clear hf0 hf1 hb5 hW5 hg5 hs5
            generalize hsp : Qm.spread cs vc = sp at he hv2
            cases sp with
            | none =>
              obtain rfl : e = .returned (.bool false) := he
              clear hv2
              have Hsp := Lib.hid hsp; clear hsp
              go_wp2_with fail
              go_ret3
              exact FolPost.no (by rw [HV.out, Hres.out, Hsp.out]) HE.out Hb5.out
            | some v2 =>
              obtain rfl : e = .returned (.bool true) := he
              have hw2 := hv2 v2 rfl
              have hfine2 : Qm.Fine N v2 := (Qm.spread_fine (fun c hc => (Hcs.out c hc).1) hfine hsp)
              have Hsp := Lib.hid hsp; have Hw2 := Lib.hid hw2
              clear hv2 hsp hw2
              have hf0 := HW5.out.cell 0
              simp only [List.getElem?_cons_zero] at hf0
              obtain ⟨i0, hi, hz0, hz1, hz2⟩ := info_parts int_info
              go_wp2_with fail
              go_loopg [12, 13] N (fun g lv kv wr => ∃ (j : Nat), Hid (j + g = N) ∧ kv = .int .i64 ((j : Int) + 1) ∧ wr.ownsRow w5.heap.size 3 1 lv (Qm.litsTo v2 j).length ((Qm.litsTo v2 j).map (Value.int .i64)) ∧ Below w5.heap.size w5 wr)
              case atStart => exact ⟨0, Nat.zero_add _, rfl, World.ownsRow_nil _ _ _ _, Below.refl _ _⟩
              case round =>
                obtain ⟨j, Hj, rfl, hown, hbel⟩ := hrel
                have hw := Hw2.out.below hbel Hw2.out.lt
                have hb0 := (HW5.out.below hbel HW5.out.lt).cell 0
                simp only [List.getElem?_cons_zero] at hb0
                have hll := Qm.litsTo_len v2 j
                clear hf0
                by_cases hj : j < N
                · have hc := hw.cell (j + 1)
                  rw [List.getElem?_map, List.getElem?_eq_getElem (by have := hfine2.1; omega), Option.map_some] at hc
                  have hu : v2.getD (j + 1) 0 = v2[j + 1]'(by have := hfine2.1; omega) := by rw [List.getD_eq_getElem?_getD, List.getElem?_eq_getElem]; rfl
                  have hur := hfine2.2 _ (List.getElem_mem (l := v2) (n := j + 1) (by have := hfine2.1; omega))
                  generalize v2[j + 1]'(by have := hfine2.1; omega) = u at hc hu hur
                  have Hu := Lib.hid hu
                  clear hu hw
                  rcases hur with rfl | rfl | rfl
                  · have Hln : Hid (Qm.litsTo v2 (j + 1) = Qm.litsTo v2 j) := by
                      exact Qm.litsTo_zero Hu.out
                    have Hown := Lib.hid hown; have Hbel := Lib.hid hbel
                    clear hown hbel
                    go_wp2_with fail
                    go_roundg (gk - 1)
                    case measure => have := Hj.out; omega
                    case rel => exact ⟨j + 1, by have := Hj.out; show _ = _; omega, by go_num, by rw [Hln.out]; exact Hown.out, Hbel.out⟩
                  · skip
                    have hnz : ((1 : Int) != (0 : Int)) = true := by decide
                    have Hln : Hid (Qm.litsTo v2 (j + 1) = Qm.litsTo v2 j ++ [(j : Int) + 1]) := by
                      exact Qm.litsTo_one Hu.out
                    go_wp2_with (at_builtin; refine wpList_append_own _ rfl _ _ 24 rfl w5.heap.size 3 i0 (.int .i64 0) 1 8 Try.underlying24 hi hz0 hz1 hz2 rfl (by decide) _ _ _ rfl (hown.alloc _) ⟨wr.heap.size, 0, none⟩ 1 1 [.int .i64 ((j : Int) + 1)] rfl rfl ?c1 ?c2 ?c3 ?c4 ?c5 ?_)
                    case c1 => exact cell_one_new _ _ _
                    case c2 => simp [Value.oneCell']
                    case c3 => unfold maxLen; omega
                    case c4 => omega
                    case c5 => have := hbel.size; simp; omega
                    intro lv' w6 hown6 hg6 _
                    have hbel6 : Below w5.heap.size w5 w6 := (hbel.alloc hbel.size _).trans (below_of_grown hg6 (by have := hbel.size; simp; omega) (fun k e => (hown.lt k e).1))
                    have hown7 : w6.ownsRow w5.heap.size 3 1 lv' (Qm.litsTo v2 (j + 1)).length ((Qm.litsTo v2 (j + 1)).map (Value.int .i64)) := by
                      rw [Hln.out, List.length_append, List.map_append]; exact hown6
                    have Hown7 := Lib.hid hown7; have Hbel6 := Lib.hid hbel6
                    clear hown6 hg6 hown7 hbel6 hown hbel
                    go_wp2_with fail
                    go_roundg (gk - 1)
                    case measure => have := Hj.out; omega
                    case rel => exact ⟨j + 1, by have := Hj.out; show _ = _; omega, by go_num, Hown7.out, Hbel6.out⟩
                  · skip
                    have hnz : ((-1 : Int) != (0 : Int)) = true := by decide
                    have Hln : Hid (Qm.litsTo v2 (j + 1) = Qm.litsTo v2 j ++ [-((j : Int) + 1)]) := by
                      exact Qm.litsTo_neg Hu.out
                    go_wp2_with (at_builtin; refine wpList_append_own _ rfl _ _ 24 rfl w5.heap.size 3 i0 (.int .i64 0) 1 8 Try.underlying24 hi hz0 hz1 hz2 rfl (by decide) _ _ _ rfl (hown.alloc _) ⟨wr.heap.size, 0, none⟩ 1 1 [.int .i64 (-((j : Int) + 1))] rfl rfl ?c1 ?c2 ?c3 ?c4 ?c5 ?_)
                    case c1 => exact cell_one_new _ _ _
                    case c2 => simp [Value.oneCell']
                    case c3 => unfold maxLen; omega
                    case c4 => omega
                    case c5 => have := hbel.size; simp; omega
                    intro lv' w6 hown6 hg6 _
                    have hbel6 : Below w5.heap.size w5 w6 := (hbel.alloc hbel.size _).trans (below_of_grown hg6 (by have := hbel.size; simp; omega) (fun k e => (hown.lt k e).1))
                    have hown7 : w6.ownsRow w5.heap.size 3 1 lv' (Qm.litsTo v2 (j + 1)).length ((Qm.litsTo v2 (j + 1)).map (Value.int .i64)) := by
                      rw [Hln.out, List.length_append, List.map_append]; exact hown6
                    have Hown7 := Lib.hid hown7; have Hbel6 := Lib.hid hbel6
                    clear hown6 hg6 hown7 hbel6 hown hbel
                    go_wp2_with fail
                    go_roundg (gk - 1)
                    case measure => have := Hj.out; omega
                    case rel => exact ⟨j + 1, by have := Hj.out; show _ = _; omega, by go_num, Hown7.out, Hbel6.out⟩
                · go_wp2_with fail
                  go_ret3
                  obtain rfl : j = N := by have := Hj.out; omega
                  obtain ⟨A9, c9, rfl, hc1, hc2, hrow⟩ := own_form hown
                  refine ⟨A9, _, c9, ?_, ?_, hc1, hc2, Hb5.out.trans (hbel.mono Hb5.out.size)⟩
                  · unfold folOk; rw [HV.out, Hres.out, Hsp.out, HE.out]; rfl
                  · unfold folL; rw [HV.out, Hres.out, Hsp.out]
                    exact hrow.more (fun k hk => ⟨Nat.le_trans Hb5.out.size hk.1, hk.2⟩)
      · have hE2' : (E2 != 0) = true := by simpa using hE2
        have HV : Hid (folV vars cs asm = none) := folV_err (by rw [HE.out]; exact hE2)
        clear hE2
        go_wp2_with fail
        refine Hck2.out.mono ?_
        rintro e w' ⟨rfl, rfl⟩
        go_wp2_with fail
        go_ret3
        exact FolPost.no HV.out HE.out Hb1.out
  · have hE' : (E != 0) = true := by simpa using hE
    have HE : Hid (folErr vars cs asm = E) := by show _ = _; unfold folErr; rw [if_pos (by rw [He.out]; exact hE), He.out]
    have HV : Hid (folV vars cs asm = none) := folV_err (by rw [HE.out]; exact hE)
    clear hE
    go_wp2_with fail
    go_ret3
    exact FolPost.no HV.out HE.out Hb1.out
end Go.Proofs.Ytpkbncfnkgofmaa
