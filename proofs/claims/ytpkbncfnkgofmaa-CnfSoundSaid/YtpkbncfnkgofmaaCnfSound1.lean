/- The walk of CnfSound. -/
import Derived.Test.YtpkbncfnkgofmaaW23
import Derived.Test.YtpkbncfnkgofmaaW19
import Derived.Test.YtpkbncfnkgofmaaW20
import Derived.Test.YtpkbncfnkgofmaaW21
import Derived.Test.YtpkbncfnkgofmaaPlain7
import Derived.Test.YtpkbncfnkgofmaaRupSays1
namespace Go.Proofs.Ytpkbncfnkgofmaa
open Go.RowKit
set_option maxHeartbeats 4000000 in
theorem cnfSound_any (A A' Am : Option Addr) (n cap n' cap' nm cm : Nat) (vars : Int) (cs : List (List Int)) (m : List Bool) (asm : List Int) (w : World) (S : Nat → Prop) (hS : ∀ k, S k → k < w.heap.size)
    (hr : RClauses w S A n cs) (hm : RBools w S Am nm m) (hr' : RInts w S A' n' asm) (hn : n ≤ cap ∧ cap ≤ maxLen) (hnm : nm ≤ maxLen) (hn' : n' ≤ maxLen)
    (hv : -9223372036854775808 ≤ vars) (hv' : vars ≤ 9223372036854775807) :
    Calls Try.prog 8 #[.agg #[.int .i64 vars, .slice A n cap], .slice Am nm cm, .slice A' n' cap'] w fun e w' => e = .returned (.bool true) ∧ Below w.heap.size w w' := by
  have Hr := Lib.hid hr; have Hm := Lib.hid hm; have Hr' := Lib.hid hr'; have Hn := Lib.hid hn; have Hnm := Lib.hid hnm; have Hn' := Lib.hid hn'
  clear hr hm hr' hn hnm hn'
  go_enter Try.func8, Try.ntmps8
  go_wp2_with fail
  have hb0 : Below w.heap.size w ((w.alloc (.cells #[.int .i64 vars, .slice A n cap] 29)).alloc (.cells #[.slice Am nm cm] 39)) := ((Below.refl _ _).alloc (Nat.le_refl _) _).alloc (by simp) _
  refine (holds_any A Am n cap nm cm vars cs m _ S (fun k hk => by have := hS k hk; simp; omega) (Hr.out.below hb0 hS) (Hm.out.below hb0 hS) Hn.out Hnm.out hv hv').mono ?_
  generalize hO : holdsOk vars cs m = O
  generalize hQ : holdsErr vars cs m = Q
  have HO := Lib.hid hO; have HQ := Lib.hid hQ; clear hO hQ
  rintro e w1 ⟨rfl, hb1⟩
  have Hb1 : Hid (Below w.heap.size w w1) := hb0.trans (hb1.mono hb0.size)
  have hW1 : Whole w1 w.heap.size 29 [.int .i64 vars, .slice A n cap] := Whole.below ((Whole.new w _ _ _ rfl).alloc _) hb1 (by simp; omega)
  have hM1 : Whole w1 (w.heap.size + 1) 39 [.slice Am nm cm] := Whole.below (Whole.new _ _ _ [.slice Am nm cm] (by simp)) hb1 (by simp)
  have HW1 := Lib.hid hW1; have HM1 := Lib.hid hM1; have Hb1 := Lib.hid Hb1
  have hf0 := hW1.cell 0
  have hf1 := hW1.cell 1
  simp only [List.getElem?_cons_zero, List.getElem?_cons_succ] at hf0 hf1
  clear hb0 hb1 hW1 hM1
  go_wp2_with fail
  refine (follows_any A A' n cap n' cap' vars cs asm _ S (fun k hk => by have := hS k hk; have := Hb1.out.size; omega) (Hr.out.below Hb1.out hS) (Hr'.out.below Hb1.out hS) Hn.out Hn'.out hv hv').mono ?_
  rintro e w2 ⟨Al, nl, cl2, he, hrl, hnl, hcl2, hb2⟩
  subst he
  generalize hK : folOk vars cs asm = K
  generalize hE : folErr vars cs asm = E
  generalize hL : folL vars cs asm = L at hrl
  have HK := Lib.hid hK; have HE := Lib.hid hE; have HL := Lib.hid hL; have Hrl := Lib.hid hrl; clear hK hE hL hrl
  have Hb2 := Lib.hid (Hb1.out.trans (hb2.mono Hb1.out.size))
  have hW2 := HW1.out.below hb2 HW1.out.lt
  have HW2 := Lib.hid hW2
  have HM2 := Lib.hid (HM1.out.below hb2 HM1.out.lt)
  clear hf0 hf1 hb2
  have hf0 := hW2.cell 0
  have hf1 := hW2.cell 1
  simp only [List.getElem?_cons_zero, List.getElem?_cons_succ] at hf0 hf1
  clear hW2
  have Hnl : Hid (nl ≤ maxLen) := Nat.le_trans hnl hcl2
  have Hcl : Hid (nl ≤ cl2 ∧ cl2 ≤ maxLen) := ⟨hnl, hcl2⟩
  clear hnl hcl2
  go_wp2_with fail
  have hz2 : Below w2.heap.size w2 (w2.alloc (.cells #[.slice Al nl cl2] 24)) := (Below.refl _ _).alloc (Nat.le_refl _) _
  refine (followed_any _).mono ?_
  rintro e w3 ⟨rfl, hb3⟩
  have hb3' : Below w2.heap.size w2 w3 := hz2.trans (hb3.mono (by simp))
  have Hb3 := Lib.hid (Hb2.out.trans (hb3'.mono Hb2.out.size))
  have hW3 := HW2.out.below hb3' HW2.out.lt
  have hL3 : Whole w3 w2.heap.size 24 [.slice Al nl cl2] := Whole.below (Whole.new _ _ _ [.slice Al nl cl2] rfl) hb3 (by simp)
  have HW3 := Lib.hid hW3
  have HM3 := Lib.hid (HM2.out.below hb3' HM2.out.lt)
  have HL3 := Lib.hid hL3
  have Hrl3 : Hid (RInts w3 (fun k => k < w2.heap.size) Al nl L) := (Hrl.out.more (fun k hk => hk.2)).below hb3' (fun k hk => hk)
  clear hf0 hf1 hb3 hb3' hz2
  have hf0 := hW3.cell 0
  have hf1 := hW3.cell 1
  have hl0 := hL3.cell 0
  simp only [List.getElem?_cons_zero, List.getElem?_cons_succ] at hf0 hf1 hl0
  clear hW3 hL3
  by_cases hQ0 : Q = 0
  · by_cases hE0 : E = 0
    · subst hQ0 hE0
      have hck : ckFormula vars cs = 0 := by
        have := HQ.out; unfold holdsErr at this
        split at this
        · omega
        · rename_i h; simpa using h
      obtain ⟨N, rfl, hN, hcl, hcs⟩ := ckFormula_ok hck
      have hml : m.length = N := by
        have := HQ.out; unfold holdsErr at this; rw [if_neg (by rw [hck]; simp)] at this
        by_cases h : (m.length : Int) = N
        · omega
        · rw [if_pos h] at this; omega
      obtain rfl : nm = N := by rw [← Hm.out.len]; exact hml
      have hls : ∀ x ∈ asm, Qm.IsLit nm x := by
        have := HE.out; unfold folErr at this
        rw [if_neg (by rw [hck]; simp)] at this
        split at this
        · omega
        · exact ckLits_ok this
      have hcc : ∀ c ∈ cs, Qm.IsCl nm c := fun c hc => (hcs c hc).1
      have hOF : O = true → Qm.holdsF m cs = true := fun h => by
        have := HO.out; rw [h] at this; unfold holdsOk at this; rw [HQ.out] at this; simpa using this
      have hlit := folL_lits hcc hls HE.out
      rw [HL.out] at hlit
      have hsnd : O = true → asm.any (fun x => !Qm.litHolds m x) = false → K = true ∧ L.any (fun x => !Qm.litHolds m x) = false := fun h1 h2 => by
        have := fol_snd hcc hls HE.out (hOF h1) h2
        rwa [HK.out, HL.out] at this
      have hhas : K = true → asm.any (fun x => !L.any (eqTo x)) = false := fun h1 => by
        have := fol_has_ hcc hls HE.out (HK.out.trans h1)
        rwa [HL.out] at this
      have hagain : K = true → folErr (nm : Int) cs L = 0 ∧ folOk (nm : Int) cs L = true ∧ folL (nm : Int) cs L = L := fun h1 => by
        have := fol_again_ hN hcc hls hck HE.out (HK.out.trans h1)
        rwa [HL.out] at this
      have Hsnd := Lib.hid hsnd; have Hhas := Lib.hid hhas; have Hagain := Lib.hid hagain; have Hlit := Lib.hid hlit; have Hls := Lib.hid hls
      clear hcc hOF hlit hsnd hhas hagain hls hcs hck hml hcl
      obtain ⟨w4, hw4⟩ : ∃ x, x = w3.alloc (.cells #[.func (.func 33) #[] #[.pointer (some ⟨w.heap.size + 1, 0, none⟩)]] 47) := ⟨_, rfl⟩
      have hs34 : w4.heap.size = w3.heap.size + 1 := by rw [hw4]; simp
      have hb4 : Below w3.heap.size w3 w4 := by rw [hw4]; exact (Below.refl _ _).alloc (Nat.le_refl _) _
      have hI4 : Whole w4 w3.heap.size 47 [.func (.func 33) #[] #[.pointer (some ⟨w.heap.size + 1, 0, none⟩)]] := by rw [hw4]; exact Whole.new _ _ _ [_] rfl
      have hi0 := hI4.cell 0
      have hm0 := (HM3.out.below hb4 HM3.out.lt).cell 0
      have hl4 := (HL3.out.below hb4 HL3.out.lt).cell 0
      simp only [List.getElem?_cons_zero, List.getElem?_cons_succ] at hi0 hm0 hl4
      have hW4 := HW3.out.below hb4 HW3.out.lt
      have Hb4 : Hid (Below w.heap.size w w4) := Hb3.out.trans (hb4.mono Hb3.out.size)
      have Hrl4 : Hid (RInts w4 (fun k => k < w2.heap.size) Al nl L) := Hrl3.out.below hb4 (fun k hk => by have := HL3.out.lt; omega)
      have Hall2 := Lib.hid (soundAll2_any A' n' cap' asm w3.heap.size (w.heap.size + 1) Am nm cm m w4 S S hi0 hm0 (Hm.out.below Hb4.out hS) (Hr'.out.below Hb4.out hS) Hls.out hN Hn'.out)
      have Hall3 := Lib.hid (fun q => soundAll3_any Al nl cl2 L w3.heap.size (w.heap.size + 1) Am nm cm m (w4.drewN q) S _ hi0 hm0 (Hm.out.below (below_drewN Hb4.out q) hS) (Hrl4.out.below (below_drewN (Below.refl _ _) q) (fun k hk => hk)) Hlit.out.1 hN Hnl.out)
      have Hall4 : Hid (∀ d, Calls Try.prog 28 #[.slice A' n' cap', .func (.func 36) #[] #[.pointer (some ⟨w2.heap.size, 0, none⟩)]] (w4.drewN d) fun e w' => e = .returned (.bool (asm.any (fun x => !L.any (eqTo x)))) ∧ ∃ q, w' = w4.drewN q) := fun d =>
        (soundAll4_any A' n' cap' asm w2.heap.size Al nl cl2 L (w4.drewN d) _ S hl4 (Hrl4.out.below (below_drewN (Below.refl _ _) d) (fun k hk => hk)) (Hr'.out.below (below_drewN Hb4.out d) hS) Hnl.out Hn'.out).mono fun e w' h => ⟨h.1, by obtain ⟨q, h⟩ := h.2; exact ⟨d + q, by rw [h, drewN_drewN]⟩⟩
      have Hs4 : Hid (w2.heap.size + 1 ≤ w4.heap.size) := by have := HL3.out.lt; show _ ≤ _; omega
      have HW4 := Lib.hid hW4; have HM0 := Lib.hid hm0; have HI0 := Lib.hid hi0; have HL4 := Lib.hid hl4
      clear hs34 hb4 hI4 hi0 hm0 hl4 hW4
      subst hw4
      generalize haa : asm.any (fun x => !Qm.litHolds m x) = aa at Hall2
      have Haa := Lib.hid haa; clear haa
      cases K
      · cases O
        · go_wp2_with fail
          go_ret
          exact ⟨rfl, Hb4.out⟩
        · cases aa
          · exact absurd (Hsnd.out rfl Haa.out).1 (by decide)
          · go_wp2_with fail
            refine Hall2.out.mono ?_
            rintro e w5 ⟨rfl, q, rfl⟩
            go_wp2_with fail
            go_ret
            exact ⟨rfl, below_drewN Hb4.out q⟩
      · cases O
        · go_wp2_with fail
          have Hgo := Hall4.out 0
          rw [Hhas.out (by trivial)] at Hgo
          refine Hgo.mono ?_
          rintro e w5 ⟨rfl, q5, rfl⟩
          clear Hgo hf0 hf1 hl0
          have hl4 := HL4.out
          have hf0 := HW4.out.cell 0
          have hf1 := HW4.out.cell 1
          simp only [List.getElem?_cons_zero, List.getElem?_cons_succ] at hf0 hf1
          go_wp2_with fail
          have Hsz5 : Hid (w2.heap.size + 1 ≤ w3.heap.size) := by have := HL3.out.lt; show _ ≤ _; omega
          refine (follows_any A Al n cap nl cl2 (nm : Int) cs L _ (fun k => k < w2.heap.size) (fun k hk => by have := Hsz5.out; show k < (World.alloc _ _).heap.size; simp; omega) ((Hr.out.below (below_drewN Hb4.out q5) hS).more (fun k hk => by have := hS k hk; have := Hb2.out.size; omega)) (Hrl4.out.below (below_drewN (Below.refl _ _) q5) (fun k hk => by have := Hsz5.out; simp; omega)) Hn.out Hnl.out hv hv').mono ?_
          obtain ⟨ha1, ha2, ha3⟩ := Hagain.out (by trivial)
          rintro e w6 ⟨Ag, ng, cg, he, hrg, hng, hcg, hb6⟩
          rw [ha1, ha2] at he
          rw [ha3] at hrg
          subst he
          clear ha1 ha2 ha3
          have hnn : ng = nl := by rw [← hrg.len, ← Hrl4.out.len]
          subst hnn
          have Hb6 : Hid (Below w.heap.size w w6) := (below_drewN Hb4.out q5).trans (hb6.mono (by have := Hb4.out.size; exact this))
          have hrl6 : RInts w6 (fun k => k < w6.heap.size) Al ng L := ((Hrl4.out.below (below_drewN (Below.refl _ _) q5) (fun k hk => by have := Hsz5.out; simp; omega)).below hb6 (fun k hk => by have := Hsz5.out; show k < (World.alloc _ _).heap.size; simp; omega)).more (fun k hk => by have := hb6.size; have := Hsz5.out; have h8 : k < w2.heap.size := hk; have h9 : (World.alloc w3 (.cells #[.func (.func 33) #[] #[.pointer (some ⟨w.heap.size + 1, 0, none⟩)]] 47)).heap.size ≤ w6.heap.size := hb6.size; simp at h9; omega)
          have Heq := Lib.hid (equal_int Ag Al ng ng cg cl2 L L w6 (fun k => k < w6.heap.size) (hrg.more (fun k hk => hk.2)) hrl6 Hnl.out Hnl.out)
          have HL6 := HL4.out
          have hl6 : w6.cell? ⟨w2.heap.size, 0, none⟩ = some (.slice Al ng cl2) := (hb6.cell (p := ⟨w2.heap.size, 0, none⟩) (by have := Hsz5.out; show _ < (World.alloc _ _).heap.size; simp; omega)).trans HL4.out
          clear hrg hng hcg hb6 hrl6 HL6 hl4 hf0 hf1
          go_wp2_with fail
          refine Heq.out.mono ?_
          rintro e w7 ⟨he, q7, rfl⟩
          obtain rfl : e = .returned (.bool true) := he.trans (by rw [beq_self_eq_true])
          go_wp2_with fail
          go_ret
          exact ⟨rfl, below_drewN Hb6.out _⟩
        · cases aa
          · have hno := (Hsnd.out rfl Haa.out).2
            rw [hno] at Hall3
            clear hno
            have hl4 := HL4.out
            go_wp2_with fail
            refine Hall2.out.mono ?_
            rintro e w5 ⟨rfl, q, rfl⟩
            go_wp2_with fail
            refine (Hall3.out q).mono ?_
            rintro e w5 ⟨rfl, q2, rfl⟩
            go_wp2_with fail
            have Hgo := Hall4.out (q + q2)
            rw [Hhas.out (by trivial)] at Hgo
            refine Hgo.mono ?_
            rintro e w5 ⟨rfl, q5, rfl⟩
            clear Hgo hf0 hf1 hl0
            have hl4 := HL4.out
            have hf0 := HW4.out.cell 0
            have hf1 := HW4.out.cell 1
            simp only [List.getElem?_cons_zero, List.getElem?_cons_succ] at hf0 hf1
            go_wp2_with fail
            have Hsz5 : Hid (w2.heap.size + 1 ≤ w3.heap.size) := by have := HL3.out.lt; show _ ≤ _; omega
            refine (follows_any A Al n cap nl cl2 (nm : Int) cs L _ (fun k => k < w2.heap.size) (fun k hk => by have := Hsz5.out; show k < (World.alloc _ _).heap.size; simp; omega) ((Hr.out.below (below_drewN Hb4.out q5) hS).more (fun k hk => by have := hS k hk; have := Hb2.out.size; omega)) (Hrl4.out.below (below_drewN (Below.refl _ _) q5) (fun k hk => by have := Hsz5.out; simp; omega)) Hn.out Hnl.out hv hv').mono ?_
            obtain ⟨ha1, ha2, ha3⟩ := Hagain.out (by trivial)
            rintro e w6 ⟨Ag, ng, cg, he, hrg, hng, hcg, hb6⟩
            rw [ha1, ha2] at he
            rw [ha3] at hrg
            subst he
            clear ha1 ha2 ha3
            have hnn : ng = nl := by rw [← hrg.len, ← Hrl4.out.len]
            subst hnn
            have Hb6 : Hid (Below w.heap.size w w6) := (below_drewN Hb4.out q5).trans (hb6.mono (by have := Hb4.out.size; exact this))
            have hrl6 : RInts w6 (fun k => k < w6.heap.size) Al ng L := ((Hrl4.out.below (below_drewN (Below.refl _ _) q5) (fun k hk => by have := Hsz5.out; simp; omega)).below hb6 (fun k hk => by have := Hsz5.out; show k < (World.alloc _ _).heap.size; simp; omega)).more (fun k hk => by have := hb6.size; have := Hsz5.out; have h8 : k < w2.heap.size := hk; have h9 : (World.alloc w3 (.cells #[.func (.func 33) #[] #[.pointer (some ⟨w.heap.size + 1, 0, none⟩)]] 47)).heap.size ≤ w6.heap.size := hb6.size; simp at h9; omega)
            have Heq := Lib.hid (equal_int Ag Al ng ng cg cl2 L L w6 (fun k => k < w6.heap.size) (hrg.more (fun k hk => hk.2)) hrl6 Hnl.out Hnl.out)
            have HL6 := HL4.out
            have hl6 : w6.cell? ⟨w2.heap.size, 0, none⟩ = some (.slice Al ng cl2) := (hb6.cell (p := ⟨w2.heap.size, 0, none⟩) (by have := Hsz5.out; show _ < (World.alloc _ _).heap.size; simp; omega)).trans HL4.out
            clear hrg hng hcg hb6 hrl6 HL6 hl4 hf0 hf1
            go_wp2_with fail
            refine Heq.out.mono ?_
            rintro e w7 ⟨he, q7, rfl⟩
            obtain rfl : e = .returned (.bool true) := he.trans (by rw [beq_self_eq_true])
            go_wp2_with fail
            go_ret
            exact ⟨rfl, below_drewN Hb6.out _⟩
          · go_wp2_with fail
            refine Hall2.out.mono ?_
            rintro e w5 ⟨rfl, q, rfl⟩
            go_wp2_with fail
            have Hgo := Hall4.out q
            rw [Hhas.out (by trivial)] at Hgo
            refine Hgo.mono ?_
            rintro e w5 ⟨rfl, q5, rfl⟩
            clear Hgo hf0 hf1 hl0
            have hl4 := HL4.out
            have hf0 := HW4.out.cell 0
            have hf1 := HW4.out.cell 1
            simp only [List.getElem?_cons_zero, List.getElem?_cons_succ] at hf0 hf1
            go_wp2_with fail
            have Hsz5 : Hid (w2.heap.size + 1 ≤ w3.heap.size) := by have := HL3.out.lt; show _ ≤ _; omega
            refine (follows_any A Al n cap nl cl2 (nm : Int) cs L _ (fun k => k < w2.heap.size) (fun k hk => by have := Hsz5.out; show k < (World.alloc _ _).heap.size; simp; omega) ((Hr.out.below (below_drewN Hb4.out q5) hS).more (fun k hk => by have := hS k hk; have := Hb2.out.size; omega)) (Hrl4.out.below (below_drewN (Below.refl _ _) q5) (fun k hk => by have := Hsz5.out; simp; omega)) Hn.out Hnl.out hv hv').mono ?_
            obtain ⟨ha1, ha2, ha3⟩ := Hagain.out (by trivial)
            rintro e w6 ⟨Ag, ng, cg, he, hrg, hng, hcg, hb6⟩
            rw [ha1, ha2] at he
            rw [ha3] at hrg
            subst he
            clear ha1 ha2 ha3
            have hnn : ng = nl := by rw [← hrg.len, ← Hrl4.out.len]
            subst hnn
            have Hb6 : Hid (Below w.heap.size w w6) := (below_drewN Hb4.out q5).trans (hb6.mono (by have := Hb4.out.size; exact this))
            have hrl6 : RInts w6 (fun k => k < w6.heap.size) Al ng L := ((Hrl4.out.below (below_drewN (Below.refl _ _) q5) (fun k hk => by have := Hsz5.out; simp; omega)).below hb6 (fun k hk => by have := Hsz5.out; show k < (World.alloc _ _).heap.size; simp; omega)).more (fun k hk => by have := hb6.size; have := Hsz5.out; have h8 : k < w2.heap.size := hk; have h9 : (World.alloc w3 (.cells #[.func (.func 33) #[] #[.pointer (some ⟨w.heap.size + 1, 0, none⟩)]] 47)).heap.size ≤ w6.heap.size := hb6.size; simp at h9; omega)
            have Heq := Lib.hid (equal_int Ag Al ng ng cg cl2 L L w6 (fun k => k < w6.heap.size) (hrg.more (fun k hk => hk.2)) hrl6 Hnl.out Hnl.out)
            have HL6 := HL4.out
            have hl6 : w6.cell? ⟨w2.heap.size, 0, none⟩ = some (.slice Al ng cl2) := (hb6.cell (p := ⟨w2.heap.size, 0, none⟩) (by have := Hsz5.out; show _ < (World.alloc _ _).heap.size; simp; omega)).trans HL4.out
            clear hrg hng hcg hb6 hrl6 HL6 hl4 hf0 hf1
            go_wp2_with fail
            refine Heq.out.mono ?_
            rintro e w7 ⟨he, q7, rfl⟩
            obtain rfl : e = .returned (.bool true) := he.trans (by rw [beq_self_eq_true])
            go_wp2_with fail
            go_ret
            exact ⟨rfl, below_drewN Hb6.out _⟩
    · have hE1 : (E != 0) = true := by simpa using hE0
      clear hE0
      subst hQ0
      go_wp2_with fail
      refine (followed_any _).mono ?_
      rintro e w5 ⟨rfl, hb5⟩
      go_wp2_with fail
      go_ret
      exact ⟨rfl, Hb3.out.trans (hb5.mono Hb3.out.size)⟩
  · have hQ1 : (Q != 0) = true := by simpa using hQ0
    clear hQ0
    go_wp2_with fail
    refine (followed_any _).mono ?_
    rintro e w5 ⟨rfl, hb5⟩
    go_wp2_with fail
    go_ret
    exact ⟨rfl, Hb3.out.trans (hb5.mono Hb3.out.size)⟩
end Go.Proofs.Ytpkbncfnkgofmaa
