/- The walk of SatNext. -/
import Derived.Test.YtpkbncfnkgofmaaW36
import Derived.Test.YtpkbncfnkgofmaaPlain13
import Derived.Test.YtpkbncfnkgofmaaW18
import Derived.Deep.QuietTactic
import Derived.BigQuiet
namespace Go.Proofs.Ytpkbncfnkgofmaa
open Go.RowKit
set_option maxRecDepth 100000 in
set_option maxHeartbeats 16000000 in
theorem satNext_any (A A2 : Option Addr) (n cap n2 cap2 : Nat) (vars : Int) (cs : List (List Int)) (c : List Int) (w : World) (S : Nat → Prop) (hS : ∀ k, S k → k < w.heap.size)
    (hr : RClauses w S A n cs) (hr2 : RInts w S A2 n2 c) (hn : n ≤ cap ∧ cap ≤ maxLen) (hn2 : n2 ≤ cap2 ∧ cap2 ≤ maxLen) (hv : -9223372036854775808 ≤ vars) (hv' : vars ≤ 9223372036854775807) :
    Calls Try.prog 11 #[.agg #[.int .i64 vars, .slice A n cap], .slice A2 n2 cap2] w fun e w' => e = .returned (.bool true) ∧ Below w.heap.size w w' := by
  obtain ⟨i0, hi, hz0, hz1, hz2⟩ := info_parts clause_info
  obtain ⟨j0, hj, hj0, hj1, hj2⟩ := info_parts int_info'
  have Hi := Lib.hid hi; have Hz0 := Lib.hid hz0; have Hz1 := Lib.hid hz1; have Hz2 := Lib.hid hz2
  have Hj := Lib.hid hj; have Hj0 := Lib.hid hj0; have Hj1 := Lib.hid hj1; have Hj2 := Lib.hid hj2
  have Hr := Lib.hid hr; have Hr2 := Lib.hid hr2; have Hn := Lib.hid hn; have Hn2 := Lib.hid hn2
  clear hi hz0 hz1 hz2 hj hj0 hj1 hj2 hr hr2 hn hn2
  obtain ⟨hs, hrow, hheads⟩ := Hr.out.open_
  have Hrow := Lib.hid hrow; have Hheads := Lib.hid hheads; clear hrow hheads
  go_enter Try.func11, Try.ntmps11
  go_wp2_with fail
  have hb0 : Below w.heap.size w (w.alloc (.cells #[.int .i64 vars, .slice A n cap] 29)) := (Below.refl _ _).alloc (Nat.le_refl _) _
  refine (solve_any A n cap vars 2000 cs _ S (fun k hk => by have := hS k hk; simp; omega) (Hr.out.below hb0 hS) Hn.out hv hv' (by omega) (by omega)).mono ?_
  rintro e w1 ⟨AM, nM, cM, AP, nP, cP, he, hrM, hM, hrP, hP, hb1⟩
  subst he
  generalize hE : solveErr vars cs 2000 = E
  generalize hLM : solveM vars cs 2000 = LM at hrM
  generalize hLP : solveP vars cs 2000 = LP at hrP
  have HE := Lib.hid hE; have HLM := Lib.hid hLM; have HLP := Lib.hid hLP; clear hE hLM hLP
  have Hb1 := Lib.hid (hb0.trans (hb1.mono hb0.size))
  have hF1 : Whole w1 w.heap.size 29 [.int .i64 vars, .slice A n cap] := Whole.below (Whole.new w _ _ _ rfl) hb1 (by simp)
  have HF1 := Lib.hid hF1
  have HrM := Lib.hid hrM; have HrP := Lib.hid hrP; have HM := Lib.hid hM; have HP := Lib.hid hP
  have hwlt : w.heap.size < w1.heap.size := hF1.lt
  clear hb0 hb1 hF1 hrM hrP hM hP
  go_wp2_with fail
  have hbx : Below w1.heap.size w1 (w1.alloc (.cells #[.slice AM nM cM, .slice AP nP cP] 57)) := (Below.refl _ _).alloc (Nat.le_refl _) _
  refine (solved_any _).mono ?_
  rintro e w2 ⟨rfl, hb2⟩
  have hb12 : Below w1.heap.size w1 w2 := hbx.trans (hb2.mono hbx.size)
  have hA2 : Whole w2 w1.heap.size 57 [.slice AM nM cM, .slice AP nP cP] := Whole.below (Whole.new w1 _ _ _ rfl) hb2 (by simp)
  have HA2 := Lib.hid hA2
  have HF2 := Lib.hid (HF1.out.below hb12 HF1.out.lt)
  have Hb2 := Lib.hid (Hb1.out.trans (hb12.mono Hb1.out.size))
  have HrM2 : Hid (RBools w2 (fun k => k < w1.heap.size) AM nM LM) := (HrM.out.more (fun k hk => hk.2)).below hb12 (fun k hk => hk)
  have hw12 : w1.heap.size < w2.heap.size := hA2.lt
  clear hbx hb2 hb12 hA2
  have hf0 := HF2.out.cell 0
  have hf1 := HF2.out.cell 1
  have ha0 := HA2.out.cell 0
  have ha1 := HA2.out.cell 1
  simp only [List.getElem?_cons_zero, List.getElem?_cons_succ] at hf0 hf1 ha0 ha1
  -- the tests that let it go
  have Hgo : Hid (E = 0 → nP = 0 → nM ≤ 60 → (n : Int) ≠ 4000 → ∃ N : Nat, vars = N ∧ N ≤ 400 ∧ ckFormula vars cs = 0 ∧ cs.length < 4000 ∧ nM = N ∧ LM.length = N ∧ Qm.holdsF LM cs = true ∧ ∀ m' : List Bool, m'.length = N → Qm.holdsF m' cs = true → Qm.LexLe LM m') := by
    intro h1 h2 h3 h4
    have hE0 := HE.out
    rw [h1] at hE0
    obtain ⟨N, rfl, hN, hck, hcl, hcs, htell⟩ := solve_tells hE0
    rw [HLM.out, HLP.out] at htell
    rcases htell with ⟨_, hMl, hMh, hMle⟩ | ⟨hPl, _⟩
    · exact ⟨N, rfl, hN, hck, by rw [Hr.out.len] at hcl ⊢; omega, by rw [← HrM.out.len]; exact hMl, hMl, hMh, hMle⟩
    · have := HrP.out.len; omega
  by_cases hE0 : E = 0
  · subst hE0
    by_cases hP0 : nP = 0
    · subst hP0
      by_cases hM60 : nM ≤ 60
      · by_cases hn4 : (n : Int) = 4000
        · have hn4' : ((n : Int) == 4000) = true := by simpa using hn4
          have hm60 : decide ((60 : Int) < (nM : Int)) = false := by simp; omega
          clear hn4
          go_wp2_with fail
          refine (solved_any _).mono ?_
          rintro e w5 ⟨rfl, hb5⟩
          go_wp2_with fail
          go_ret
          exact ⟨rfl, Hb2.out.trans (hb5.mono Hb2.out.size)⟩
        · have hn4' : ((n : Int) == 4000) = false := by simpa using hn4
          have hm60 : decide ((60 : Int) < (nM : Int)) = false := by simp; omega
          obtain ⟨N, rfl, hN, hck, hcl, rfl, hMl, hMh, hMle⟩ := Hgo.out rfl rfl hM60 hn4
          have Hck := Lib.hid hck; have Hcl := Lib.hid hcl; have HMl := Lib.hid hMl; have HMh := Lib.hid hMh; have HMle := Lib.hid hMle
          have hn40 : n ≤ 4000 := by rw [← Hr.out.len]; omega
          clear hn4 hck hcl hMl hMh hMle Hgo
          go_wp2_with fail
          clear hn4' hm60
          go_loopg [7, 49] nM (fun g v i wr => ∃ k : Nat, Hid (k + g = nM) ∧ i = .int .i64 k ∧ wr.ownsRow w2.heap.size 3 1 v k ((noTo LM k).map (.int .i64)) ∧ Below w2.heap.size w2 wr)
          case atStart => exact ⟨0, Nat.zero_add _, rfl, World.ownsRow_made w2 #[] 0 (Nat.le_refl _) (Nat.zero_le _) rfl, (Below.refl _ _).alloc (Nat.le_refl _) _⟩
          case round =>
            obtain ⟨k, Hk, rfl, hown, hbel⟩ := hrel
            have Hown := Lib.hid hown; have Hbel := Lib.hid hbel
            have hwr : w2.heap.size ≤ wr.heap.size := hbel.size
            clear hown hbel hf0 hf1 ha0 ha1
            by_cases hk : k < nM
            · obtain ⟨b1, o1, rfl, _, hc1⟩ := (HrM2.out.below Hbel.out (fun k hk => by omega)).at_ hk
              have hsn := noTo_succ LM k
              unfold noLit at hsn
              generalize LM.getD k false = x at hc1 hsn
              have Hsn := Lib.hid hsn
              clear hsn
              cases x
              all_goals
                go_wp2_with (at_builtin; refine wpList_append_own _ rfl _ _ 37 rfl w2.heap.size 3 j0 (.int .i64 0) 1 8 Try.underlying37 Hj.out Hj0.out Hj1.out Hj2.out rfl (by decide) _ _ _ rfl (Hown.out.alloc _) ⟨wr.heap.size, 0, none⟩ 1 1 [.int .i64 _] rfl rfl (cell_one_new _ _ _) (by simp [Value.oneCell']) (by unfold maxLen; omega) (by omega) (by simp; omega) ?_)
                intro v' w5 hown5 hg5 _
                have Hown5 : Hid (w5.ownsRow w2.heap.size 3 1 v' (k + 1) ((noTo LM (k + 1)).map (.int .i64))) := by rw [Hsn.out, List.map_append]; exact hown5
                have Hbel5 : Hid (Below w2.heap.size w2 w5) := (Hbel.out.alloc hwr _).grown hg5 (by simp; omega) (fun k e => (Hown.out.lt k e).1)
                clear hown5 hg5
                go_wp2_with fail
                go_roundg (gk - 1)
                case measure => have := Hk.out; omega
                case rel => exact ⟨k + 1, by have := Hk.out; show _ = _; omega, by go_num, Hown5.out, Hbel5.out⟩
            · obtain rfl : k = nM := by have := Hk.out; omega
              obtain ⟨Ac, capc, rfl, hc1, hc2, hrowc⟩ := own_form Hown.out
              have Hrc0 : Hid (RInts wr (fun j => w2.heap.size ≤ j ∧ j < wr.heap.size) Ac k (noTo LM k)) := hrowc
              have Hnc : Hid (k ≤ capc ∧ capc ≤ maxLen) := ⟨hc1, hc2⟩
              have HFr := Lib.hid (HF2.out.below Hbel.out HF2.out.lt)
              have HAr := Lib.hid (HA2.out.below Hbel.out HA2.out.lt)
              have HrMr := Lib.hid (HrM2.out.below Hbel.out (fun k hk => by omega))
              have Hbr := Lib.hid (Hb2.out.trans (Hbel.out.mono Hb2.out.size))
              have hf0 := HFr.out.cell 0
              have hf1 := HFr.out.cell 1
              simp only [List.getElem?_cons_zero, List.getElem?_cons_succ] at hf0 hf1
              have hwltr : w.heap.size < wr.heap.size := HFr.out.lt
              clear hrowc hc1 hc2
              go_wp2_with fail
              have Hbp : Hid (Below w.heap.size w (wr.alloc (.cells #[.int .i64 (k : Int), .slice A n cap] 29))) := Hbr.out.alloc Hbr.out.size _
              have Hbrp : Hid (Below wr.heap.size wr (wr.alloc (.cells #[.int .i64 (k : Int), .slice A n cap] 29))) := (Below.refl _ _).alloc (Nat.le_refl _) _
              have HGp : Hid (Whole (wr.alloc (.cells #[.int .i64 (k : Int), .slice A n cap] 29)) wr.heap.size 29 [.int .i64 (k : Int), .slice A n cap]) := Whole.new wr _ _ _ rfl
              generalize wr.alloc (.cells #[.int .i64 (k : Int), .slice A n cap] 29) = wp at *
              obtain ⟨bG, hbGe⟩ : ∃ x, x = wr.heap.size := ⟨_, rfl⟩
              have hbG : w.heap.size ≤ bG := by omega
              have HScG : Hid (∀ j, (w2.heap.size ≤ j ∧ j < wr.heap.size) → j < wp.heap.size ∧ j ≠ bG) := fun j hj => ⟨by have := Hbrp.out.size; omega, by omega⟩
              have Hrcc := Lib.hid (Hrc0.out.below Hbrp.out (fun j hj => hj.2))
              have hwbG : w.heap.size ≠ bG := by omega
              have haG : w1.heap.size ≠ bG := by omega
              have HFp := Lib.hid (HFr.out.below Hbrp.out hwltr)
              have HAp := Lib.hid (HAr.out.below Hbrp.out (by omega))
              have HrMp := Lib.hid (HrMr.out.below Hbrp.out (fun k hk => by omega))
              have Hbge := Lib.hid hbGe
              rw [← hbGe] at HGp ⊢
              clear hbGe hf0 hf1
              refine (cloneClauses_any A n cap (hs.map hd) wp S (Hrow.out.below Hbp.out hS) (hd_one hs) (fun k hk => by have := hS k hk; have := Hbp.out.size; omega) (by omega)).mono ?_
              rintro e wq ⟨A3, c3, rfl, hn3, hc3, hown, hbq⟩
              have HGq := Lib.hid (HGp.out.below hbq HGp.out.lt)
              have Hown := Lib.hid hown; have Hbq := Lib.hid hbq
              have hpq : wp.heap.size ≤ wq.heap.size := hbq.size
              have hGlt : bG < wp.heap.size := HGp.out.lt
              clear hown hbq
              go_wp2_with (at_builtin; refine wpList_append_own _ rfl _ _ 27 rfl wp.heap.size 37 i0 (.slice none 0 0) 1 24 Try.underlying27 Hi.out Hz0.out Hz1.out Hz2.out rfl (by decide) _ _ _ rfl (Hown.out.alloc _) ⟨wq.heap.size, 0, none⟩ 1 1 [.slice Ac k capc] rfl rfl (cell_one_new _ _ _) (by simp [Value.oneCell']) (by unfold maxLen; omega) (by omega) (by simp; omega) ?_)
              intro v3 wr hown3 hg3 _
              obtain ⟨A4, c4, rfl, hn4, hc4, hrow4⟩ := own_form hown3
              have hbr : Below wp.heap.size wp wr := (Hbq.out.trans ((Below.refl _ _).alloc (by omega) _)).trans (below_of_grown hg3 (by simp; omega) (fun k e => (Hown.out.lt k e).1))
              have hGr := HGp.out.below hbr HGp.out.lt
              have hg30 := hGr.cell 0
              have hg31 := hGr.cell 1
              have hgf := hGr.free 1
              simp only [List.getElem?_cons_zero, List.getElem?_cons_succ] at hg30 hg31
              have hGs := hGr.set_ 1 (.slice A4 (n + 1) c4)
              simp only [List.set_cons_succ, List.set_cons_zero] at hGs
              have Hfs : Hid (Far (fun i => i = bG) wr (wr.setCell ⟨bG, 1, none⟩ (.slice A4 (n + 1) c4))) := Far.set_ (D := fun i => i = bG) rfl 1 _
              have Hfp : Hid (Far (fun i => i = bG) wp (wr.setCell ⟨bG, 1, none⟩ (.slice A4 (n + 1) c4))) := (Far.of_below (fun i => i = bG) hbr).trans Hfs.out (fun i _ h => h)
              have HGs := Lib.hid hGs
              have Hn4 : Hid (n + 1 ≤ c4 ∧ c4 ≤ maxLen) := ⟨hn4, hc4⟩
              have Hrc : Hid (RClauses (wr.setCell ⟨bG, 1, none⟩ (.slice A4 (n + 1) c4)) (fun k => k < wr.heap.size ∧ k ≠ bG) A4 (n + 1) (cs ++ [(noTo LM k)])) := by
                have hSG : ∀ k, S k → k < wp.heap.size ∧ k ≠ bG := fun k hk => by have := hS k hk; have := Hbp.out.size; omega
                have hScG := HScG.out
                have hin : Heads wr (fun k => k < wr.heap.size ∧ k ≠ bG) hs cs := ((Hheads.out.below Hbp.out hS).below hbr (fun k hk => (hSG k hk).1)).more (fun k hk => ⟨by have := (hSG k hk).1; have := hbr.size; omega, (hSG k hk).2⟩)
                have hin2 : RInts wr (fun k => k < wr.heap.size ∧ k ≠ bG) Ac k (noTo LM k) := (Hrcc.out.below hbr (fun k hk => (hScG k hk).1)).more (fun k hk => ⟨by have := (hScG k hk).1; have := hbr.size; omega, (hScG k hk).2⟩)
                refine Hfs.out.clauses (RClauses.of_ (hs := hs ++ [(Ac, k, capc)]) ?_ ?_) (fun k hk => hk)
                · rw [List.map_append]
                  exact Row.more hrow4 (fun k hk => ⟨hk.2, by omega⟩)
                · exact hin.append (Heads.one hin2 Hnc.out)
              have hax := (HAp.out.below hbr HAp.out.lt).cell 0
              simp only [List.getElem?_cons_zero, List.getElem?_cons_succ] at hax
              clear hown3 hg3 hrow4 hGr hGs hn4 hc4 hbr
              go_wp2_with fail
              have hzr : (wr.setCell ⟨bG, 1, none⟩ (.slice A4 (n + 1) c4)).heap.size = wr.heap.size := by simp [World.setCell]
              generalize hws : wr.setCell ⟨bG, 1, none⟩ (.slice A4 (n + 1) c4) = ws at HGs Hrc Hfp hzr ⊢
              have Hzr := Lib.hid hzr
              clear hws hg30 hg31 hgf hzr Hfs hax
              have Hrcs : Hid (RClauses ws (fun k => k < ws.heap.size ∧ k ≠ bG) A4 (n + 1) (cs ++ [(noTo LM k)])) := Hrc.out.more (fun k hk => by rw [Hzr.out]; exact hk)
              have Hbs : Hid (Below w.heap.size w ws) := Hbp.out.trans (Hfp.out.below Hbp.out.size (fun i h => by rw [h]; exact hbG))
              have hps : wp.heap.size ≤ ws.heap.size := Hfp.out.size
              have HFs := Lib.hid (Hfp.out.whole HFp.out (fun e => hwbG e))
              have HAs := Lib.hid (Hfp.out.whole HAp.out (fun e => haG e))
              have HrMs := Lib.hid (Hfp.out.bools HrMp.out (fun j hj => ⟨by have := HAp.out.lt; omega, by have := Hbge.out; omega⟩))
              have hck2 := ck_snoc Hck.out Hcl.out (noTo_cl (m := LM) (N := k)) (by rw [noTo_len]; omega)
              have Hck2 := Lib.hid hck2; clear hck2
              refine (solve_any A4 (n + 1) c4 (k : Int) 40000 (cs ++ [noTo LM k]) ws (fun j => j < ws.heap.size) (fun j hj => hj) (Hrcs.out.more (fun j hj => hj.1)) Hn4.out hv hv' (by omega) (by omega)).mono ?_
              rintro e w7 ⟨BM, mM, dM, BP, mP, dP, he, hsM, hM7, hsP, hP7, hb7⟩
              subst he
              have h08 := solveErr_01 Hck2.out (steps := 40000) (by omega)
              generalize hE7 : solveErr (k : Int) (cs ++ [noTo LM k]) 40000 = E7 at h08
              generalize hLM7 : solveM (k : Int) (cs ++ [noTo LM k]) 40000 = L7 at hsM
              generalize hLP7 : solveP (k : Int) (cs ++ [noTo LM k]) 40000 = P7 at hsP
              have HE7 := Lib.hid hE7; have HLM7 := Lib.hid hLM7; have HLP7 := Lib.hid hLP7; clear hE7 hLM7 hLP7
              have HF7 := Lib.hid (HFs.out.below hb7 HFs.out.lt)
              have HA7 := Lib.hid (HAs.out.below hb7 HAs.out.lt)
              have HG7 := Lib.hid (HGs.out.below hb7 HGs.out.lt)
              have HrM7 := Lib.hid (HrMs.out.below hb7 (fun j hj => by have := HAs.out.lt; omega))
              have Hb7 := Lib.hid (Hbs.out.trans (hb7.mono Hbs.out.size))
              have HsM := Lib.hid hsM; have HsP := Lib.hid hsP; have HM7 := Lib.hid hM7
              have hw7 : w1.heap.size < w7.heap.size := HA7.out.lt
              have hG7lt : bG < w7.heap.size := HG7.out.lt
              have hF7lt : w.heap.size < w7.heap.size := HF7.out.lt
              have hbG2 := hbG
              clear hb7 hsM hM7 hsP hP7 Hrc0 Hrcs Hrc Hfp HScG Hrcc Hnc Hn4 HGs HGp HGq Hbq Hown Hbp
              rcases h08 with rfl | rfl
              · have hf0 := HF7.out.cell 0
                have hf1 := HF7.out.cell 1
                have ha0 := HA7.out.cell 0
                simp only [List.getElem?_cons_zero, List.getElem?_cons_succ] at hf0 hf1 ha0
                obtain ⟨N7, e7, _, _, _, _, htell⟩ := solve_tells HE7.out
                obtain rfl := Int.ofNat.inj e7
                rw [HLM7.out, HLP7.out] at htell
                rcases htell with ⟨hP0, hMl7, hMh7, _⟩ | ⟨hPl7, _⟩
                · subst hP0
                  obtain rfl : mP = 0 := HsP.out.len.symm
                  obtain ⟨kd, hkd, hkd1, hkd2, hkd3⟩ := next_model (vars := 0) HMl.out HMle.out hMl7 hMh7
                  obtain rfl : mM = k := by rw [← HsM.out.len]; exact hMl7
                  have Hkd := Lib.hid hkd1; have Hkd2 := Lib.hid hkd2; have Hkd3 := Lib.hid hkd3
                  clear hMl7 hMh7 hkd1 hkd2 hkd3 e7
                  go_wp2_with fail
                  have Hb78 : Hid (Below w7.heap.size w7 (w7.alloc (.cells #[.slice BM mM dM, .slice BP 0 dP] 57))) := (Below.refl _ _).alloc (Nat.le_refl _) _
                  have hB8 : Whole (w7.alloc (.cells #[.slice BM mM dM, .slice BP 0 dP] 57)) w7.heap.size 57 [.slice BM mM dM, .slice BP 0 dP] := Whole.new w7 _ _ _ rfl
                  generalize w7.alloc (.cells #[.slice BM mM dM, .slice BP 0 dP] 57) = w8 at *
                  have HA8 := Lib.hid (HA7.out.below Hb78.out HA7.out.lt)
                  have HF8 := Lib.hid (HF7.out.below Hb78.out HF7.out.lt)
                  have HG8 := Lib.hid (HG7.out.below Hb78.out HG7.out.lt)
                  have HrM8 := Lib.hid (HrM7.out.below Hb78.out (fun j hj => by omega))
                  have HsM8 := Lib.hid ((HsM.out.more (fun j hj => hj.2)).below Hb78.out (fun j hj => hj))
                  have Hb8 := Lib.hid (Hb7.out.trans (Hb78.out.mono Hb7.out.size))
                  have HB8 := Lib.hid hB8
                  clear hf0 hf1 ha0 hB8
                  have ha0 := HA8.out.cell 0
                  have hb0 := HB8.out.cell 0
                  simp only [List.getElem?_cons_zero, List.getElem?_cons_succ] at ha0 hb0
                  go_loopg [12] kd (fun g i wr => ∃ q d : Nat, Hid (q + g = kd) ∧ i = .int .i64 q ∧ wr = w8.drewN d)
                  case atStart => exact ⟨0, 0, Nat.zero_add _, rfl, rfl⟩
                  case round =>
                    obtain ⟨q, d, Hq, rfl, rfl⟩ := hrel
                    have hqk : q ≤ kd := by have := Hq.out; omega
                    have hqm : decide ((q : Int) < (mM : Int)) = true := by simp; omega
                    have hqm' : (q : Int) < (mM : Int) := by omega
                    have hqm0 : (0 : Int) ≤ (q : Int) := by omega
                    obtain ⟨b1, o1, rfl, _, hc1⟩ := HrM8.out.at_ (k := q) (by omega)
                    obtain ⟨b2, o2, rfl, _, hc2⟩ := HsM8.out.at_ (k := q) (by omega)
                    by_cases hlt : q < kd
                    · have heq := Hkd.out q hlt
                      rw [← heq] at hc2
                      clear heq
                      generalize LM.getD q false = x at hc1 hc2
                      cases x
                      all_goals
                        go_wp2_with fail
                        go_quiet (fail)
                        go_wp2_with fail
                        go_roundg (gk - 1)
                        case measure => have := Hq.out; omega
                        case rel => exact ⟨q + 1, _, by have := Hq.out; show _ = _; omega, by go_num, by first | rfl | exact drewN_drewN _ _ _⟩
                    · obtain rfl : q = kd := by omega
                      rw [Hkd2.out] at hc1
                      rw [Hkd3.out] at hc2
                      have hqe : ((q : Int) == (mM : Int)) = false := by simp; omega
                      have hf1 := HF8.out.cell 1
                      simp only [List.getElem?_cons_zero, List.getElem?_cons_succ] at hf1
                      go_wp2_with fail
                      go_quiet (fail)
                      go_wp2_with fail
                      generalize hwp : w8.drewN _ = wp
                      have HFp : Hid (Whole wp w.heap.size 29 [.int .i64 (mM : Int), .slice A n cap]) := by rw [← hwp]; exact HF8.out.drewN _
                      have HAp : Hid (Whole wp w1.heap.size 57 [.slice (some ⟨b1, o1, none⟩) mM cM, .slice AP 0 cP]) := by rw [← hwp]; exact HA8.out.drewN _
                      have HGp : Hid (Whole wp bG 29 [.int .i64 (mM : Int), .slice A4 (n + 1) c4]) := by rw [← hwp]; exact HG8.out.drewN _
                      have HrMp : Hid (RBools wp (fun j => j < w1.heap.size) (some ⟨b1, o1, none⟩) mM LM) := by rw [← hwp]; exact HrM8.out.keep (fun _ _ => rfl)
                      have Hbp : Hid (Below w.heap.size w wp) := by rw [← hwp]; exact below_drewN Hb8.out _
                      have hbG := hbG2
                      clear hwp hc1 hc2 hqe hqm hqm' hqm0 hf1 ha0 hb0
                      have HScG : Hid (∀ j, S j → j < wp.heap.size ∧ j ≠ bG) := fun j hj => ⟨by have := hS j hj; have := Hbp.out.size; omega, by have := hS j hj; omega⟩
                      have Hrcc := Lib.hid (Hr2.out.below Hbp.out hS)
                      have Hnc := Hn2
                      refine (cloneClauses_any A n cap (hs.map hd) wp S (Hrow.out.below Hbp.out hS) (hd_one hs) (fun k hk => by have := hS k hk; have := Hbp.out.size; omega) (by omega)).mono ?_
                      rintro e wq ⟨A3, c3, rfl, hn3, hc3, hown, hbq⟩
                      have HGq := Lib.hid (HGp.out.below hbq HGp.out.lt)
                      have Hown := Lib.hid hown; have Hbq := Lib.hid hbq
                      have hpq : wp.heap.size ≤ wq.heap.size := hbq.size
                      have hGlt : bG < wp.heap.size := HGp.out.lt
                      clear hown hbq
                      go_wp2_with (at_builtin; refine wpList_append_own _ rfl _ _ 27 rfl wp.heap.size 37 i0 (.slice none 0 0) 1 24 Try.underlying27 Hi.out Hz0.out Hz1.out Hz2.out rfl (by decide) _ _ _ rfl (Hown.out.alloc _) ⟨wq.heap.size, 0, none⟩ 1 1 [.slice A2 n2 cap2] rfl rfl (cell_one_new _ _ _) (by simp [Value.oneCell']) (by unfold maxLen; omega) (by omega) (by simp; omega) ?_)
                      intro v3 wr hown3 hg3 _
                      obtain ⟨A4, c4, rfl, hn4, hc4, hrow4⟩ := own_form hown3
                      have hbr : Below wp.heap.size wp wr := (Hbq.out.trans ((Below.refl _ _).alloc (by omega) _)).trans (below_of_grown hg3 (by simp; omega) (fun k e => (Hown.out.lt k e).1))
                      have hGr := HGp.out.below hbr HGp.out.lt
                      have hg30 := hGr.cell 0
                      have hg31 := hGr.cell 1
                      have hgf := hGr.free 1
                      simp only [List.getElem?_cons_zero, List.getElem?_cons_succ] at hg30 hg31
                      have hGs := hGr.set_ 1 (.slice A4 (n + 1) c4)
                      simp only [List.set_cons_succ, List.set_cons_zero] at hGs
                      have Hfs : Hid (Far (fun i => i = bG) wr (wr.setCell ⟨bG, 1, none⟩ (.slice A4 (n + 1) c4))) := Far.set_ (D := fun i => i = bG) rfl 1 _
                      have Hfp : Hid (Far (fun i => i = bG) wp (wr.setCell ⟨bG, 1, none⟩ (.slice A4 (n + 1) c4))) := (Far.of_below (fun i => i = bG) hbr).trans Hfs.out (fun i _ h => h)
                      have HGs := Lib.hid hGs
                      have Hn4 : Hid (n + 1 ≤ c4 ∧ c4 ≤ maxLen) := ⟨hn4, hc4⟩
                      have Hrc : Hid (RClauses (wr.setCell ⟨bG, 1, none⟩ (.slice A4 (n + 1) c4)) (fun k => k < wr.heap.size ∧ k ≠ bG) A4 (n + 1) (cs ++ [c])) := by
                        have hSG : ∀ k, S k → k < wp.heap.size ∧ k ≠ bG := fun k hk => by have := hS k hk; have := Hbp.out.size; omega
                        have hScG := HScG.out
                        have hin : Heads wr (fun k => k < wr.heap.size ∧ k ≠ bG) hs cs := ((Hheads.out.below Hbp.out hS).below hbr (fun k hk => (hSG k hk).1)).more (fun k hk => ⟨by have := (hSG k hk).1; have := hbr.size; omega, (hSG k hk).2⟩)
                        have hin2 : RInts wr (fun k => k < wr.heap.size ∧ k ≠ bG) A2 n2 c := (Hrcc.out.below hbr (fun k hk => (hScG k hk).1)).more (fun k hk => ⟨by have := (hScG k hk).1; have := hbr.size; omega, (hScG k hk).2⟩)
                        refine Hfs.out.clauses (RClauses.of_ (hs := hs ++ [(A2, n2, cap2)]) ?_ ?_) (fun k hk => hk)
                        · rw [List.map_append]
                          exact Row.more hrow4 (fun k hk => ⟨hk.2, by omega⟩)
                        · exact hin.append (Heads.one hin2 Hnc.out)
                      have hax := (HAp.out.below hbr HAp.out.lt).cell 0
                      simp only [List.getElem?_cons_zero, List.getElem?_cons_succ] at hax
                      clear hown3 hg3 hrow4 hGr hGs hn4 hc4 hbr
                      go_wp2_with fail
                      have hzr : (wr.setCell ⟨bG, 1, none⟩ (.slice A4 (n + 1) c4)).heap.size = wr.heap.size := by simp [World.setCell]
                      generalize hws : wr.setCell ⟨bG, 1, none⟩ (.slice A4 (n + 1) c4) = ws at HGs Hrc Hfp hzr ⊢
                      have Hzr := Lib.hid hzr
                      clear hws hg30 hg31 hgf hzr Hfs hax
                      have Hrcs : Hid (RClauses ws (fun k => k < ws.heap.size ∧ k ≠ bG) A4 (n + 1) (cs ++ [c])) := Hrc.out.more (fun k hk => by rw [Hzr.out]; exact hk)
                      have Hbs : Hid (Below w.heap.size w ws) := Hbp.out.trans (Hfp.out.below Hbp.out.size (fun i h => by rw [h]; exact hbG))
                      have hps : wp.heap.size ≤ ws.heap.size := Hfp.out.size
                      have HFs := Lib.hid (Hfp.out.whole HFp.out (fun e => hwbG e))
                      have HAs := Lib.hid (Hfp.out.whole HAp.out (fun e => haG e))
                      have HrMs := Lib.hid (Hfp.out.bools HrMp.out (fun j hj => ⟨by have := HAp.out.lt; omega, by have := Hbge.out; omega⟩))
                      have ha0 := HAs.out.cell 0
                      have hg0 := HGs.out.cell 0
                      have hg1 := HGs.out.cell 1
                      simp only [List.getElem?_cons_zero, List.getElem?_cons_succ] at ha0 hg0 hg1
                      refine (holds_any A4 (some ⟨b1, o1, none⟩) (n + 1) c4 mM cM (mM : Int) (cs ++ [c]) LM ws (fun j => j < ws.heap.size) (fun j hj => hj) (Hrcs.out.more (fun j hj => hj.1)) (HrMs.out.more (fun j hj => by have := HAs.out.lt; omega)) Hn4.out (Nat.le_trans HM.out.1 HM.out.2) hv hv').mono ?_
                      generalize hO : holdsOk (mM : Int) (cs ++ [c]) LM = O
                      generalize hQ : holdsErr (mM : Int) (cs ++ [c]) LM = Q
                      have HO := Lib.hid hO; have HQ := Lib.hid hQ; clear hO hQ
                      rintro e w9 ⟨rfl, hb9⟩
                      have HA9 := Lib.hid (HAs.out.below hb9 HAs.out.lt)
                      have HG9 := Lib.hid (HGs.out.below hb9 HGs.out.lt)
                      have HrM9 := Lib.hid (HrMs.out.below hb9 (fun j hj => by have := HAs.out.lt; omega))
                      have Hb9 := Lib.hid (Hbs.out.trans (hb9.mono Hbs.out.size))
                      have Hrc9 := Lib.hid (Hrcs.out.below hb9 (fun j hj => hj.1))
                      have hs9 : ws.heap.size ≤ w9.heap.size := hb9.size
                      clear hb9 ha0 hg0 hg1
                      by_cases hQ0 : Q = 0
                      · subst hQ0
                        cases O with
                        | false =>
                          go_wp2_with fail
                          go_ret
                          exact ⟨rfl, Hb9.out⟩
                        | true =>
                          have hck9 : ckFormula (mM : Int) (cs ++ [c]) = 0 := by
                            have := HQ.out; unfold holdsErr at this
                            split at this
                            · omega
                            · rename_i h; simpa using h
                          have hh9 : Qm.holdsF LM (cs ++ [c]) = true := by
                            have := HO.out; unfold holdsOk at this; rw [HQ.out] at this; simpa using this
                          have h08 := solveErr_01 hck9 (steps := 40000) (by omega)
                          have Hck9 := Lib.hid hck9; have Hh9 := Lib.hid hh9
                          have hg0 := HG9.out.cell 0
                          have hg1 := HG9.out.cell 1
                          simp only [List.getElem?_cons_zero, List.getElem?_cons_succ] at hg0 hg1
                          clear hck9 hh9
                          go_wp2_with fail
                          refine (solve_any A4 (n + 1) c4 (mM : Int) 40000 (cs ++ [c]) w9 (fun j => j < ws.heap.size ∧ j ≠ bG) (fun j hj => by have := hj.1; omega) Hrc9.out Hn4.out hv hv' (by omega) (by omega)).mono ?_
                          rintro e wx ⟨CM, lM, eM, CP, lP, eP, he, hsM9, hM9, hsP9, hP9, hbx⟩
                          subst he
                          generalize hE9 : solveErr (mM : Int) (cs ++ [c]) 40000 = E9 at h08
                          generalize hLM9 : solveM (mM : Int) (cs ++ [c]) 40000 = L9 at hsM9
                          generalize hLP9 : solveP (mM : Int) (cs ++ [c]) 40000 = P9 at hsP9
                          have HE9 := Lib.hid hE9; have HLM9 := Lib.hid hLM9; have HLP9 := Lib.hid hLP9; clear hE9 hLM9 hLP9
                          have HAx := Lib.hid (HA9.out.below hbx HA9.out.lt)
                          have HrMx := Lib.hid (HrM9.out.below hbx (fun j hj => by have := HA9.out.lt; omega))
                          have Hbx := Lib.hid (Hb9.out.trans (hbx.mono Hb9.out.size))
                          have HsM9 := Lib.hid (hsM9.more (S' := fun j => j < wx.heap.size) (fun j hj => hj.2)); have HM9 := Lib.hid hM9
                          have hA9lt : w1.heap.size < wx.heap.size := HAx.out.lt
                          clear hbx hsM9 hsP9 hM9 hP9 hg0 hg1
                          have ha0 := HAx.out.cell 0
                          simp only [List.getElem?_cons_zero, List.getElem?_cons_succ] at ha0
                          rcases h08 with rfl | rfl
                          · obtain ⟨N9, e9, _, _, _, _, htell9⟩ := solve_tells HE9.out
                            obtain rfl := Int.ofNat.inj e9
                            rw [HLM9.out, HLP9.out] at htell9
                            have heq : L9 = LM := by
                              rcases htell9 with ⟨_, hMl9, hMh9, hMle9⟩ | ⟨_, _, _, _, _, hno9⟩
                              · exact lex_eq (by rw [hMl9, HMl.out]) (hMle9 LM HMl.out Hh9.out) (HMle.out L9 hMl9 (holdsF_snoc hMh9).1)
                              · exact absurd (hno9 LM HMl.out Hh9.out) id
                            have Heq := Lib.hid heq
                            clear heq htell9 e9
                            have hex : ∀ o : Obj, Below wx.heap.size wx (wx.alloc o) := fun o => (Below.refl _ _).alloc (Nat.le_refl _) o
                            have Hequ := Lib.hid (fun o => equal_bool CM (some ⟨b1, o1, none⟩) lM mM eM cM L9 LM (wx.alloc o) (fun j => j < wx.heap.size) (Row.below HsM9.out (hex o) (fun j hj => hj)) ((HrMx.out.below (hex o) (fun j hj => by omega)).more (fun j hj => by omega)) (Nat.le_trans HM9.out.1 HM9.out.2) (Nat.le_trans HM.out.1 HM.out.2))
                            clear hex
                            go_wp2_with fail
                            refine (Hequ.out _).mono ?_
                            rintro e wy ⟨he, qy, rfl⟩
                            obtain rfl : e = .returned (.bool true) := he.trans (by rw [Heq.out, beq_self_eq_true])
                            go_wp2_with fail
                            go_ret
                            exact ⟨rfl, below_drewN (Hbx.out.alloc Hbx.out.size _) _⟩
                          · go_wp2_with fail
                            go_ret
                            exact ⟨rfl, Hbx.out.alloc Hbx.out.size _⟩
                      · have hQ1 : (Q != 0) = true := by simpa using hQ0
                        clear hQ0
                        go_wp2_with fail
                        go_ret
                        exact ⟨rfl, Hb9.out⟩
                · have hmP : (0 : Int) < (mP : Int) := by have := HsP.out.len; omega
                  have hmP0 : ((mP : Int) == 0) = false := by simp; omega
                  clear e7 hPl7
                  go_wp2_with fail
                  have Hb78 : Hid (Below w7.heap.size w7 (w7.alloc (.cells #[.slice BM mM dM, .slice BP mP dP] 57))) := (Below.refl _ _).alloc (Nat.le_refl _) _
                  generalize w7.alloc (.cells #[.slice BM mM dM, .slice BP mP dP] 57) = wp at *
                  have HFp := Lib.hid (HF7.out.below Hb78.out HF7.out.lt)
                  have HAp := Lib.hid (HA7.out.below Hb78.out HA7.out.lt)
                  have HGp := Lib.hid (HG7.out.below Hb78.out HG7.out.lt)
                  have HrMp := Lib.hid (HrM7.out.below Hb78.out (fun j hj => by omega))
                  have Hbp := Lib.hid (Hb7.out.trans (Hb78.out.mono Hb7.out.size))
                  have hbG := hbG2
                  clear hf0 hf1 ha0
                  have HScG : Hid (∀ j, S j → j < wp.heap.size ∧ j ≠ bG) := fun j hj => ⟨by have := hS j hj; have := Hbp.out.size; omega, by have := hS j hj; omega⟩
                  have Hrcc := Lib.hid (Hr2.out.below Hbp.out hS)
                  have Hnc := Hn2
                  refine (cloneClauses_any A n cap (hs.map hd) wp S (Hrow.out.below Hbp.out hS) (hd_one hs) (fun k hk => by have := hS k hk; have := Hbp.out.size; omega) (by omega)).mono ?_
                  rintro e wq ⟨A3, c3, rfl, hn3, hc3, hown, hbq⟩
                  have HGq := Lib.hid (HGp.out.below hbq HGp.out.lt)
                  have Hown := Lib.hid hown; have Hbq := Lib.hid hbq
                  have hpq : wp.heap.size ≤ wq.heap.size := hbq.size
                  have hGlt : bG < wp.heap.size := HGp.out.lt
                  clear hown hbq
                  go_wp2_with (at_builtin; refine wpList_append_own _ rfl _ _ 27 rfl wp.heap.size 37 i0 (.slice none 0 0) 1 24 Try.underlying27 Hi.out Hz0.out Hz1.out Hz2.out rfl (by decide) _ _ _ rfl (Hown.out.alloc _) ⟨wq.heap.size, 0, none⟩ 1 1 [.slice A2 n2 cap2] rfl rfl (cell_one_new _ _ _) (by simp [Value.oneCell']) (by unfold maxLen; omega) (by omega) (by simp; omega) ?_)
                  intro v3 wr hown3 hg3 _
                  obtain ⟨A4, c4, rfl, hn4, hc4, hrow4⟩ := own_form hown3
                  have hbr : Below wp.heap.size wp wr := (Hbq.out.trans ((Below.refl _ _).alloc (by omega) _)).trans (below_of_grown hg3 (by simp; omega) (fun k e => (Hown.out.lt k e).1))
                  have hGr := HGp.out.below hbr HGp.out.lt
                  have hg30 := hGr.cell 0
                  have hg31 := hGr.cell 1
                  have hgf := hGr.free 1
                  simp only [List.getElem?_cons_zero, List.getElem?_cons_succ] at hg30 hg31
                  have hGs := hGr.set_ 1 (.slice A4 (n + 1) c4)
                  simp only [List.set_cons_succ, List.set_cons_zero] at hGs
                  have Hfs : Hid (Far (fun i => i = bG) wr (wr.setCell ⟨bG, 1, none⟩ (.slice A4 (n + 1) c4))) := Far.set_ (D := fun i => i = bG) rfl 1 _
                  have Hfp : Hid (Far (fun i => i = bG) wp (wr.setCell ⟨bG, 1, none⟩ (.slice A4 (n + 1) c4))) := (Far.of_below (fun i => i = bG) hbr).trans Hfs.out (fun i _ h => h)
                  have HGs := Lib.hid hGs
                  have Hn4 : Hid (n + 1 ≤ c4 ∧ c4 ≤ maxLen) := ⟨hn4, hc4⟩
                  have Hrc : Hid (RClauses (wr.setCell ⟨bG, 1, none⟩ (.slice A4 (n + 1) c4)) (fun k => k < wr.heap.size ∧ k ≠ bG) A4 (n + 1) (cs ++ [c])) := by
                    have hSG : ∀ k, S k → k < wp.heap.size ∧ k ≠ bG := fun k hk => by have := hS k hk; have := Hbp.out.size; omega
                    have hScG := HScG.out
                    have hin : Heads wr (fun k => k < wr.heap.size ∧ k ≠ bG) hs cs := ((Hheads.out.below Hbp.out hS).below hbr (fun k hk => (hSG k hk).1)).more (fun k hk => ⟨by have := (hSG k hk).1; have := hbr.size; omega, (hSG k hk).2⟩)
                    have hin2 : RInts wr (fun k => k < wr.heap.size ∧ k ≠ bG) A2 n2 c := (Hrcc.out.below hbr (fun k hk => (hScG k hk).1)).more (fun k hk => ⟨by have := (hScG k hk).1; have := hbr.size; omega, (hScG k hk).2⟩)
                    refine Hfs.out.clauses (RClauses.of_ (hs := hs ++ [(A2, n2, cap2)]) ?_ ?_) (fun k hk => hk)
                    · rw [List.map_append]
                      exact Row.more hrow4 (fun k hk => ⟨hk.2, by omega⟩)
                    · exact hin.append (Heads.one hin2 Hnc.out)
                  have hax := (HAp.out.below hbr HAp.out.lt).cell 0
                  simp only [List.getElem?_cons_zero, List.getElem?_cons_succ] at hax
                  clear hown3 hg3 hrow4 hGr hGs hn4 hc4 hbr
                  go_wp2_with fail
                  have hzr : (wr.setCell ⟨bG, 1, none⟩ (.slice A4 (n + 1) c4)).heap.size = wr.heap.size := by simp [World.setCell]
                  generalize hws : wr.setCell ⟨bG, 1, none⟩ (.slice A4 (n + 1) c4) = ws at HGs Hrc Hfp hzr ⊢
                  have Hzr := Lib.hid hzr
                  clear hws hg30 hg31 hgf hzr Hfs hax
                  have Hrcs : Hid (RClauses ws (fun k => k < ws.heap.size ∧ k ≠ bG) A4 (n + 1) (cs ++ [c])) := Hrc.out.more (fun k hk => by rw [Hzr.out]; exact hk)
                  have Hbs : Hid (Below w.heap.size w ws) := Hbp.out.trans (Hfp.out.below Hbp.out.size (fun i h => by rw [h]; exact hbG))
                  have hps : wp.heap.size ≤ ws.heap.size := Hfp.out.size
                  have HFs := Lib.hid (Hfp.out.whole HFp.out (fun e => hwbG e))
                  have HAs := Lib.hid (Hfp.out.whole HAp.out (fun e => haG e))
                  have HrMs := Lib.hid (Hfp.out.bools HrMp.out (fun j hj => ⟨by have := HAp.out.lt; omega, by have := Hbge.out; omega⟩))
                  have ha0 := HAs.out.cell 0
                  have hg0 := HGs.out.cell 0
                  have hg1 := HGs.out.cell 1
                  simp only [List.getElem?_cons_zero, List.getElem?_cons_succ] at ha0 hg0 hg1
                  refine (holds_any A4 AM (n + 1) c4 k cM (k : Int) (cs ++ [c]) LM ws (fun j => j < ws.heap.size) (fun j hj => hj) (Hrcs.out.more (fun j hj => hj.1)) (HrMs.out.more (fun j hj => by have := HAs.out.lt; omega)) Hn4.out (Nat.le_trans HM.out.1 HM.out.2) hv hv').mono ?_
                  generalize hO : holdsOk (k : Int) (cs ++ [c]) LM = O
                  generalize hQ : holdsErr (k : Int) (cs ++ [c]) LM = Q
                  have HO := Lib.hid hO; have HQ := Lib.hid hQ; clear hO hQ
                  rintro e w9 ⟨rfl, hb9⟩
                  have HA9 := Lib.hid (HAs.out.below hb9 HAs.out.lt)
                  have HG9 := Lib.hid (HGs.out.below hb9 HGs.out.lt)
                  have HrM9 := Lib.hid (HrMs.out.below hb9 (fun j hj => by have := HAs.out.lt; omega))
                  have Hb9 := Lib.hid (Hbs.out.trans (hb9.mono Hbs.out.size))
                  have Hrc9 := Lib.hid (Hrcs.out.below hb9 (fun j hj => hj.1))
                  have hs9 : ws.heap.size ≤ w9.heap.size := hb9.size
                  clear hb9 ha0 hg0 hg1
                  by_cases hQ0 : Q = 0
                  · subst hQ0
                    cases O with
                    | false =>
                      go_wp2_with fail
                      go_ret
                      exact ⟨rfl, Hb9.out⟩
                    | true =>
                      have hck9 : ckFormula (k : Int) (cs ++ [c]) = 0 := by
                        have := HQ.out; unfold holdsErr at this
                        split at this
                        · omega
                        · rename_i h; simpa using h
                      have hh9 : Qm.holdsF LM (cs ++ [c]) = true := by
                        have := HO.out; unfold holdsOk at this; rw [HQ.out] at this; simpa using this
                      have h08 := solveErr_01 hck9 (steps := 40000) (by omega)
                      have Hck9 := Lib.hid hck9; have Hh9 := Lib.hid hh9
                      have hg0 := HG9.out.cell 0
                      have hg1 := HG9.out.cell 1
                      simp only [List.getElem?_cons_zero, List.getElem?_cons_succ] at hg0 hg1
                      clear hck9 hh9
                      go_wp2_with fail
                      refine (solve_any A4 (n + 1) c4 (k : Int) 40000 (cs ++ [c]) w9 (fun j => j < ws.heap.size ∧ j ≠ bG) (fun j hj => by have := hj.1; omega) Hrc9.out Hn4.out hv hv' (by omega) (by omega)).mono ?_
                      rintro e wx ⟨CM, lM, eM, CP, lP, eP, he, hsM9, hM9, hsP9, hP9, hbx⟩
                      subst he
                      generalize hE9 : solveErr (k : Int) (cs ++ [c]) 40000 = E9 at h08
                      generalize hLM9 : solveM (k : Int) (cs ++ [c]) 40000 = L9 at hsM9
                      generalize hLP9 : solveP (k : Int) (cs ++ [c]) 40000 = P9 at hsP9
                      have HE9 := Lib.hid hE9; have HLM9 := Lib.hid hLM9; have HLP9 := Lib.hid hLP9; clear hE9 hLM9 hLP9
                      have HAx := Lib.hid (HA9.out.below hbx HA9.out.lt)
                      have HrMx := Lib.hid (HrM9.out.below hbx (fun j hj => by have := HA9.out.lt; omega))
                      have Hbx := Lib.hid (Hb9.out.trans (hbx.mono Hb9.out.size))
                      have HsM9 := Lib.hid (hsM9.more (S' := fun j => j < wx.heap.size) (fun j hj => hj.2)); have HM9 := Lib.hid hM9
                      have hA9lt : w1.heap.size < wx.heap.size := HAx.out.lt
                      clear hbx hsM9 hsP9 hM9 hP9 hg0 hg1
                      have ha0 := HAx.out.cell 0
                      simp only [List.getElem?_cons_zero, List.getElem?_cons_succ] at ha0
                      rcases h08 with rfl | rfl
                      · obtain ⟨N9, e9, _, _, _, _, htell9⟩ := solve_tells HE9.out
                        obtain rfl := Int.ofNat.inj e9
                        rw [HLM9.out, HLP9.out] at htell9
                        have heq : L9 = LM := by
                          rcases htell9 with ⟨_, hMl9, hMh9, hMle9⟩ | ⟨_, _, _, _, _, hno9⟩
                          · exact lex_eq (by rw [hMl9, HMl.out]) (hMle9 LM HMl.out Hh9.out) (HMle.out L9 hMl9 (holdsF_snoc hMh9).1)
                          · exact absurd (hno9 LM HMl.out Hh9.out) id
                        have Heq := Lib.hid heq
                        clear heq htell9 e9
                        have hex : ∀ o : Obj, Below wx.heap.size wx (wx.alloc o) := fun o => (Below.refl _ _).alloc (Nat.le_refl _) o
                        have Hequ := Lib.hid (fun o => equal_bool CM AM lM k eM cM L9 LM (wx.alloc o) (fun j => j < wx.heap.size) (Row.below HsM9.out (hex o) (fun j hj => hj)) ((HrMx.out.below (hex o) (fun j hj => by omega)).more (fun j hj => by omega)) (Nat.le_trans HM9.out.1 HM9.out.2) (Nat.le_trans HM.out.1 HM.out.2))
                        clear hex
                        go_wp2_with fail
                        refine (Hequ.out _).mono ?_
                        rintro e wy ⟨he, qy, rfl⟩
                        obtain rfl : e = .returned (.bool true) := he.trans (by rw [Heq.out, beq_self_eq_true])
                        go_wp2_with fail
                        go_ret
                        exact ⟨rfl, below_drewN (Hbx.out.alloc Hbx.out.size _) _⟩
                      · go_wp2_with fail
                        go_ret
                        exact ⟨rfl, Hbx.out.alloc Hbx.out.size _⟩
                  · have hQ1 : (Q != 0) = true := by simpa using hQ0
                    clear hQ0
                    go_wp2_with fail
                    go_ret
                    exact ⟨rfl, Hb9.out⟩
              · go_wp2_with fail
                go_ret
                exact ⟨rfl, Hb7.out.alloc Hb7.out.size _⟩
      · have hm60 : decide ((60 : Int) < (nM : Int)) = true := by simp; omega
        clear Hgo hM60
        go_wp2_with fail
        refine (solved_any _).mono ?_
        rintro e w5 ⟨rfl, hb5⟩
        go_wp2_with fail
        go_ret
        exact ⟨rfl, Hb2.out.trans (hb5.mono Hb2.out.size)⟩
    · have hP1 : (0 : Int) < (nP : Int) := by omega
      clear Hgo hP0
      go_wp2_with fail
      refine (solved_any _).mono ?_
      rintro e w5 ⟨rfl, hb5⟩
      go_wp2_with fail
      go_ret
      exact ⟨rfl, Hb2.out.trans (hb5.mono Hb2.out.size)⟩
  · have hE1 : (E != 0) = true := by simpa using hE0
    clear hE0 Hgo
    go_wp2_with fail
    refine (solved_any _).mono ?_
    rintro e w5 ⟨rfl, hb5⟩
    go_wp2_with fail
    go_ret
    exact ⟨rfl, Hb2.out.trans (hb5.mono Hb2.out.size)⟩
end Go.Proofs.Ytpkbncfnkgofmaa
