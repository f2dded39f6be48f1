/- The walk of CnfMore. -/
import Derived.Test.YtpkbncfnkgofmaaW25
import Derived.Test.YtpkbncfnkgofmaaW26
import Derived.Test.YtpkbncfnkgofmaaW19
import Derived.Deep.AppendLies
import Derived.Deep.RegionHeld3
import Derived.Deep.DeepCutAuto
namespace Go.Proofs.Ytpkbncfnkgofmaa
open Go.RowKit
theorem whole_news {w : World} {b : Nat} {t : TypeId} {vs : List Value} (h : Whole w b t vs) : ∀ j u, vs[j]? = some u → w.cell? ((⟨b, 0, none⟩ : Addr).add j) = some u := by
  intro j u hj
  have hadd : (⟨b, 0, none⟩ : Addr).add j = ⟨b, j, none⟩ := by unfold Addr.add; split <;> simp_all
  rw [hadd, h.cell j, hj]
theorem cell_two_old (w : World) (o : Obj) (v : Value) (t : TypeId) (j : Nat) (u : Value) (h : [v][j]? = some u) : ((w.alloc (.cells #[v] t)).alloc o).cell? ((⟨w.heap.size, 0, none⟩ : Addr).add j) = some u := by
  match j with
  | 0 =>
    simp at h; subst h
    have hb : Whole ((w.alloc (.cells #[v] t)).alloc o) w.heap.size t [v] := (Whole.new w _ t [v] rfl).alloc o
    exact hb.cell 0
  | j + 1 => simp at h
theorem cell_one_new' {w : World} {B : Nat} (hB : B = w.heap.size) (v : Value) (t : TypeId) (j : Nat) (u : Value) (h : [v][j]? = some u) : (w.alloc (.cells #[v] t)).cell? ((⟨B, 0, none⟩ : Addr).add j) = some u := by
  subst hB
  match j with
  | 0 =>
    simp at h; subst h
    exact (Whole.new w _ t [v] rfl).cell 0
  | j + 1 => simp at h
/-- what stands behind 'm, still, h := Follows(g, append(Clone(assumed), n))', m in a box -/
def MoreCut (vars : Int) (cs : List (List Int)) (asm : List Int) (w4 : World) (s13 s14 s15 : Value) (wx : World) : Prop :=
  ∃ (b : Nat) (Am : Option Addr) (nm cm : Nat), s13 = .pointer (some ⟨b, 0, none⟩) ∧ s14 = .bool (folOk vars cs asm) ∧ s15 = .int .i64 (folErr vars cs asm) ∧ wx.cell? ⟨b, 0, none⟩ = some (.slice Am nm cm) ∧ b < wx.heap.size ∧
    RInts wx (fun k => w4.heap.size ≤ k ∧ k < wx.heap.size ∧ k ≠ b) Am nm (folL vars cs asm) ∧ nm ≤ maxLen ∧ Below w4.heap.size w4 wx
theorem moreCut_new {vars : Int} {cs : List (List Int)} {asm : List Int} {w4 w7 : World} {B : Nat} {Am : Option Addr} {nm cm : Nat} (hB : Below w4.heap.size w4 w7) (hW : w4.heap.size ≤ B)
    (hrm : RInts w7 (fun k => B ≤ k ∧ k < w7.heap.size) Am nm (folL vars cs asm)) (hnm : nm ≤ cm) (hcm : cm ≤ maxLen) :
    MoreCut vars cs asm w4 (.pointer (some ⟨w7.heap.size, 0, none⟩)) (.bool (folOk vars cs asm)) (.int .i64 (folErr vars cs asm)) (w7.alloc (.cells #[.slice Am nm cm] 24)) := by
  refine ⟨w7.heap.size, Am, nm, cm, rfl, rfl, rfl, (Whole.new w7 _ 24 [.slice Am nm cm] rfl).cell 0, by simp, ?_, Nat.le_trans hnm hcm, hB.alloc hB.size _⟩
  exact (hrm.below ((Below.refl _ _).alloc (Nat.le_refl _) _) (fun k hk => hk.2)).more (fun k hk => ⟨Nat.le_trans hW hk.1, by simp; omega, by omega⟩)
theorem moreCut_set {vars : Int} {cs : List (List Int)} {asm : List Int} {w4 w7 : World} {B b : Nat} {Am : Option Addr} {nm cm : Nat} {z : Value} (hZ : Whole w7 b 24 [z]) (hB : Below w4.heap.size w4 w7) (hb : w4.heap.size ≤ b) (hbB : b < B)
    (hrm : RInts w7 (fun k => B ≤ k ∧ k < w7.heap.size) Am nm (folL vars cs asm)) (hnm : nm ≤ cm) (hcm : cm ≤ maxLen) :
    MoreCut vars cs asm w4 (.pointer (some ⟨b, 0, none⟩)) (.bool (folOk vars cs asm)) (.int .i64 (folErr vars cs asm)) (w7.setCell ⟨b, 0, none⟩ (.slice Am nm cm)) := by
  have hset := hZ.set_ 0 (.slice Am nm cm)
  refine ⟨b, Am, nm, cm, rfl, rfl, rfl, hset.cell 0, hset.lt, ?_, Nat.le_trans hnm hcm, hB.setCell hb _⟩
  have hk : ∀ p : Addr, (B ≤ p.block ∧ p.block < w7.heap.size) → (w7.setCell ⟨b, 0, none⟩ (.slice Am nm cm)).cell? p = w7.cell? p := fun p hp => World.cell?_of_block (heap_setCell_other w7 ⟨b, 0, none⟩ p.block _ (by show p.block ≠ b; omega))
  exact (RInts.keep hrm hk).more (fun k hk => ⟨by omega, by simpa [World.setCell] using hk.2, by omega⟩)
set_option maxHeartbeats 8000000 in
theorem cnfMore_any (A A' A2 : Option Addr) (n cap n' cap' n2 cap2 : Nat) (vars x : Int) (cs : List (List Int)) (asm c : List Int) (w : World) (S : Nat → Prop) (hS : ∀ k, S k → k < w.heap.size)
    (hr : RClauses w S A n cs) (hr' : RInts w S A' n' asm) (hr2 : RInts w S A2 n2 c) (hn : n ≤ cap ∧ cap ≤ maxLen) (hn' : n' ≤ maxLen) (hn2 : n2 ≤ cap2 ∧ cap2 ≤ maxLen) (hz : n * 24 ≤ 140737488351232) (hz' : n' * 8 ≤ 140737488351232)
    (hv : -9223372036854775808 ≤ vars) (hv' : vars ≤ 9223372036854775807) (hx : -9223372036854775808 ≤ x) (hx' : x ≤ 9223372036854775807) :
    Calls Try.prog 10 #[.agg #[.int .i64 vars, .slice A n cap], .slice A' n' cap', .slice A2 n2 cap2, .int .i64 x] w fun e w' => e = .returned (.bool true) ∧ Below w.heap.size w w' := by
  have Hr := Lib.hid hr; have Hr2 := Lib.hid hr2; have Hr' := Lib.hid hr'; have Hn := Lib.hid hn; have Hn2 := Lib.hid hn2; have Hn' := Lib.hid hn'
  clear hr hr2 hr' hn hn2 hn'
  obtain ⟨i0, hi, hz0, hz1, hz2⟩ := info_parts clause_info
  obtain ⟨j0, hj, hj0, hj1, hj2⟩ := info_parts int_info'
  have Hi := Lib.hid hi; have Hz0 := Lib.hid hz0; have Hz1 := Lib.hid hz1; have Hz2 := Lib.hid hz2
  have Hj := Lib.hid hj; have Hj0 := Lib.hid hj0; have Hj1 := Lib.hid hj1; have Hj2 := Lib.hid hj2
  clear hi hz0 hz1 hz2 hj hj0 hj1 hj2
  obtain ⟨hs, hrow, hheads⟩ := Hr.out.open_
  have Hrow := Lib.hid hrow; have Hheads := Lib.hid hheads; clear hrow hheads
  go_enter Try.func10, Try.ntmps10
  go_wp2_with fail
  have hb0 : Below w.heap.size w (w.alloc (.cells #[.int .i64 vars, .slice A n cap] 29)) := (Below.refl _ _).alloc (Nat.le_refl _) _
  refine (follows_any A A' n cap n' cap' vars cs asm _ S (fun k hk => by have := hS k hk; simp; omega) (Hr.out.below hb0 hS) (Hr'.out.below hb0 hS) Hn.out Hn'.out hv hv').mono ?_
  rintro e w1 ⟨Al, nl, cl, he, hrl, hnl, hcl, hb1⟩
  subst he
  generalize hK : folOk vars cs asm = K
  generalize hE : folErr vars cs asm = E
  generalize hL : folL vars cs asm = L at hrl
  have HK := Lib.hid hK; have HE := Lib.hid hE; have HL := Lib.hid hL; have Hrl := Lib.hid hrl; clear hK hE hL hrl
  have Hb1 := Lib.hid (hb0.trans (hb1.mono hb0.size))
  have hW1 : Whole w1 w.heap.size 29 [.int .i64 vars, .slice A n cap] := Whole.below (Whole.new w _ _ _ rfl) hb1 (by simp)
  have HW1 := Lib.hid hW1
  have Hnl : Hid (nl ≤ maxLen) := Nat.le_trans hnl hcl
  have hf0 := hW1.cell 0
  have hf1 := hW1.cell 1
  simp only [List.getElem?_cons_zero, List.getElem?_cons_succ] at hf0 hf1
  have hlt1 : w.heap.size < w1.heap.size := hW1.lt
  clear hb0 hb1 hW1 hnl hcl
  go_wp2_with fail
  have hbg : Below w1.heap.size w1 (w1.alloc (.cells #[.int .i64 vars, .slice A n cap] 29)) := (Below.refl _ _).alloc (Nat.le_refl _) _
  refine (cloneClauses_any A n cap (hs.map hd) _ S ((Hrow.out.below Hb1.out hS).below hbg (fun k hk => by have := hS k hk; omega)) (hd_one hs) (fun k hk => by have := hS k hk; simp; omega) (by omega)).mono ?_
  rintro e w2 ⟨A3, c3, rfl, hn3, hc3, hown, hb2⟩
  have hG2 : Whole w2 w1.heap.size 29 [.int .i64 vars, .slice A n cap] := Whole.below (Whole.new w1 _ _ _ rfl) hb2 (by simp)
  have Hb12 : Hid (Below w1.heap.size w1 w2) := hbg.trans (hb2.mono hbg.size)
  have hlt2 : w1.heap.size < w2.heap.size := hG2.lt
  have HG2 := Lib.hid hG2
  have Hown := Lib.hid hown
  clear hf0 hf1 hbg hb2 hG2 hown
  go_wp2_with (at_builtin; refine wpList_append_own _ rfl _ _ 27 rfl (w1.heap.size + 1) 37 i0 (.slice none 0 0) 1 24 Try.underlying27 Hi.out Hz0.out Hz1.out Hz2.out rfl (by decide) _ _ _ rfl ((by simpa using Hown.out : w2.ownsRow (w1.heap.size + 1) 37 1 (.slice A3 n c3) n (hs.map hd)).alloc _) ⟨w2.heap.size, 0, none⟩ 1 1 [.slice A2 n2 cap2] rfl rfl ?c1 ?c2 ?c3 ?c4 ?c5 ?_)
  case c1 => exact cell_one_new _ _ _
  case c2 => simp [Value.oneCell']
  case c3 => unfold maxLen; omega
  case c4 => omega
  case c5 => simp; omega
  intro v3 w3 hown3 hg3 _
  obtain ⟨A4, c4, rfl, hn4, hc4, hrow4⟩ := own_form hown3
  have hb23 : Below (w1.heap.size + 1) w2 w3 := ((Below.refl _ _).alloc (by omega) _).trans (below_of_grown hg3 (by simp; omega) (fun k e => by
    have h := (by simpa using Hown.out : w2.ownsRow (w1.heap.size + 1) 37 1 (.slice A3 n c3) n (hs.map hd)).lt k e
    exact h.1))
  have hG3 := HG2.out.below hb23 (by omega)
  have hlt3 : w1.heap.size < w3.heap.size := hG3.lt
  have hg30 := hG3.cell 0
  have hg31 := hG3.cell 1
  have hgf := hG3.free 1
  simp only [List.getElem?_cons_zero, List.getElem?_cons_succ] at hg30 hg31
  have hG4 := hG3.set_ 1 (.slice A4 (n + 1) c4)
  simp only [List.set_cons_succ, List.set_cons_zero] at hG4
  have HG4 := Lib.hid hG4
  have Hb23 := Lib.hid hb23; have Hrow4 := Lib.hid hrow4; have Hn4 : Hid (n + 1 ≤ c4 ∧ c4 ≤ maxLen) := ⟨hn4, hc4⟩
  have Hin : Hid (Heads w3 S hs cs) := ((Hheads.out.below Hb1.out hS).below Hb12.out (fun k hk => by have := hS k hk; omega)).below hb23 (fun k hk => by have := hS k hk; omega)
  have Hin2 : Hid (RInts w3 S A2 n2 c) := ((Hr2.out.below Hb1.out hS).below Hb12.out (fun k hk => by have := hS k hk; omega)).below hb23 (fun k hk => by have := hS k hk; omega)
  have Hb4 : Hid (Below w.heap.size w (w3.setCell ⟨w1.heap.size, 1, none⟩ (.slice A4 (n + 1) c4))) := ((Hb1.out.trans (Hb12.out.mono (by omega))).trans (hb23.mono (by omega))).setCell (by show _ ≤ w1.heap.size; omega) _
  have Hrl4 : Hid (RInts (w3.setCell ⟨w1.heap.size, 1, none⟩ (.slice A4 (n + 1) c4)) (fun k => k < w1.heap.size) Al nl L) := ((((Hrl.out.more (fun k hk => hk.2)).below Hb12.out (fun k hk => hk)).below hb23 (fun k hk => by omega))).below (B := w1.heap.size) ((Below.refl w1.heap.size w3).setCell (by simp) _) (fun k hk => hk)
  have Hrc4 : Hid (RClauses (w3.setCell ⟨w1.heap.size, 1, none⟩ (.slice A4 (n + 1) c4)) (fun k => k < w3.heap.size ∧ k ≠ w1.heap.size) A4 (n + 1) (cs ++ [c])) := by
    have hk : ∀ p : Addr, (p.block < w3.heap.size ∧ p.block ≠ w1.heap.size) → (w3.setCell ⟨w1.heap.size, 1, none⟩ (.slice A4 (n + 1) c4)).cell? p = w3.cell? p := fun p hp => World.cell?_of_block (heap_setCell_other w3 ⟨w1.heap.size, 1, none⟩ p.block _ (by simpa using hp.2))
    refine RClauses.of_ (hs := hs ++ [(A2, n2, cap2)]) ?_ ?_
    · rw [List.map_append]
      exact (Row.more (Hrow4.out) (fun k hk => ⟨hk.2, by omega⟩)).keep (S := fun k => k < w3.heap.size ∧ k ≠ w1.heap.size) hk
    · exact ((Hin.out.more (fun k hk => by have := hS k hk; omega)).keep (S := fun k => k < w3.heap.size ∧ k ≠ w1.heap.size) hk).append ((Heads.one (Hin2.out.more (fun k hk => by have := hS k hk; omega)) Hn2.out).keep (S := fun k => k < w3.heap.size ∧ k ≠ w1.heap.size) hk)
  clear hown3 hg3 hrow4 hb23 hG3 hG4 hn4 hc4
  go_wp2_with fail
  have hz4 : (w3.setCell ⟨w1.heap.size, 1, none⟩ (.slice A4 (n + 1) c4)).heap.size = w3.heap.size := by simp [World.setCell]
  generalize hw4 : w3.setCell ⟨w1.heap.size, 1, none⟩ (.slice A4 (n + 1) c4) = w4 at HG4 Hb4 Hrl4 Hrc4 hz4 ⊢
  have Hz4 := Lib.hid hz4
  clear hw4 hg30 hg31 hz4 hgf
  have hg40 := HG4.out.cell 0
  have hg41 := HG4.out.cell 1
  simp only [List.getElem?_cons_zero, List.getElem?_cons_succ] at hg40 hg41
  have hlt4 : w1.heap.size < w4.heap.size := HG4.out.lt
  have Hclone := Lib.hid (fun W (hW : Below w4.heap.size w4 W) => cloneInts_any A' n' cap' (asm.map (.int .i64)) W S (Hr'.out.below (Hb4.out.trans (hW.mono Hb4.out.size)) hS) (int_one asm) (fun k hk => by have := hS k hk; have := hW.size; omega) (by omega))
  have HB0 : Hid (Below w4.heap.size w4 (w4.drewN 1)) := below_drewN (Below.refl _ _) 1
  have HB1 : Hid (∀ o, Below w4.heap.size w4 ((w4.alloc o).drewN 1)) := fun o => below_drewN ((Below.refl _ _).alloc (Nat.le_refl _) o) 1
  have HB2 : Hid (∀ o o', Below w4.heap.size w4 (((w4.alloc o).alloc o').drewN 1)) := fun o o' => below_drewN (((Below.refl _ _).alloc (Nat.le_refl _) o).alloc (by simp) o') 1
  have Hfol := Lib.hid (fun W (hW : Below w4.heap.size w4 W) Ax cx (hx : RInts W (fun k => k < W.heap.size) Ax (n' + 1) (asm ++ [x])) => follows_any A4 Ax (n + 1) c4 (n' + 1) cx vars (cs ++ [c]) (asm ++ [x]) W (fun k => k < W.heap.size) (fun k hk => hk) ((Hrc4.out.below hW (fun k hk => by rw [Hz4.out]; exact hk.1)).more (fun k hk => by have := hW.size; rw [Hz4.out] at this; omega)) hx Hn4.out (by unfold maxLen; omega) hv hv')
  go_cut [13, 14, 15] (fun s13 s14 s15 wx => MoreCut vars (cs ++ [c]) (asm ++ [x]) w4 s13 s14 s15 wx)
  case first =>
    go_region_held3 (fun w' => w'.cell? ⟨w1.heap.size, 0, none⟩ = some (.int .i64 vars) ∧ w'.cell? ⟨w1.heap.size, 1, none⟩ = some (.slice A4 (n + 1) c4))
      (first | go_keep | (refine ⟨?_, ?_⟩ <;> (rw [World.cell?_setCell_other _ _ _ _ (by intro h; simp only [Addr.mk.injEq] at h; omega)]; assumption)))
      (first
        | (go_at_call 43
           refine (Hclone.out _ (by first | exact HB0.out | exact HB1.out _ | exact HB2.out _ _)).mono ?_
           rintro e w5 ⟨A5, c5, rfl, hn5, hc5, hown5, hb5⟩
           have hB5 : Below w4.heap.size w4 w5 := (by first | exact HB0.out.trans (hb5.mono (Nat.le_refl _)) | exact (HB1.out _).trans (hb5.mono (HB1.out _).size) | exact (HB2.out _ _).trans (hb5.mono (HB2.out _ _).size))
           try have hZ5 := Whole.below (Whole.drewN (Whole.new w4 w4.heap.size 24 [.slice none 0 0] rfl) 1) hb5 (by simp)
           try have hN5 := Whole.below (Whole.drewN (Whole.new w4 w4.heap.size 3 [.int .i64 x] rfl) 1) hb5 (by simp)
           try have hZ5 := Whole.below (Whole.drewN (Whole.new (w4.alloc (.cells #[.int .i64 x] 3)) (w4.heap.size + 1) 24 [.slice none 0 0] (by simp)) 1) hb5 (by simp)
           try have hN5 := Whole.below (Whole.drewN (Whole.alloc (Whole.new w4 w4.heap.size 3 [.int .i64 x] rfl) (.cells #[.slice none 0 0] 24)) 1) hb5 (by simp; omega)
           try have hN5 := Whole.below (Whole.drewN (Whole.new (w4.alloc (.cells #[.slice none 0 0] 24)) (w4.heap.size + 1) 3 [.int .i64 x] (by simp)) 1) hb5 (by simp)
           try have hZ5 := Whole.below (Whole.drewN (Whole.alloc (Whole.new w4 w4.heap.size 24 [.slice none 0 0] rfl) (.cells #[.int .i64 x] 3)) 1) hb5 (by simp; omega)
           have hlt5 : w1.heap.size < w5.heap.size := Nat.lt_of_lt_of_le hlt4 hB5.size
           have hk50 := (hB5.cell (p := ⟨w1.heap.size, 0, none⟩) hlt4).trans hg40
           have hk51 := (hB5.cell (p := ⟨w1.heap.size, 1, none⟩) hlt4).trans hg41)
        | (first
            |
              (with_reducible refine step_append_lies (w5.alloc (.cells #[.int .i64 x] 3)) rfl (.tmp 34) (.tmp 36) 24 rfl _ 3 j0 (.int .i64 0) 1 8 Try.underlying24 Hj.out Hj0.out Hj1.out Hj2.out rfl (by decide) (.slice A5 n' c5) n' (asm.map (.int .i64)) (by simp [Act.eval, Act.put]) (hown5.alloc _) ⟨w5.heap.size, 0, none⟩ 1 1 [.int .i64 x] (by simp [Act.eval, Act.put]) rfl (whole_news (Whole.new w5 w5.heap.size 3 [.int .i64 x] (by simp))) (by simp [Value.oneCell']) (by decide) (by unfold maxLen; omega) (by omega) (by have := hb5.size; first | exact this | (simp at this ⊢; omega) | (simp at this ⊢; exact Nat.le_succ_of_le this) | (simp; exact Nat.le_succ_of_le (Nat.le_succ_of_le this)) | (simp; exact Nat.le_succ_of_le this)) _ rfl ?_
               intro g6 cap6 w6 hown6 hg6 hat6 hlt6
               try have hZ6 := Whole.grown (hZ5.alloc _) hg6 (fun e => by have := (hown5.lt _ e.symm).1; first | omega | (simp at this; done) | (simp at this; omega)))
            |
              (with_reducible refine step_append_lies ((w5.alloc (.cells #[.int .i64 x] 3)).alloc (.cells #[.slice none 0 0] 24)) rfl (.tmp 34) (.tmp 36) 24 rfl _ 3 j0 (.int .i64 0) 1 8 Try.underlying24 Hj.out Hj0.out Hj1.out Hj2.out rfl (by decide) (.slice A5 n' c5) n' (asm.map (.int .i64)) (by simp [Act.eval, Act.put]) ((hown5.alloc _).alloc _) ⟨w5.heap.size, 0, none⟩ 1 1 [.int .i64 x] (by simp [Act.eval, Act.put]) rfl (whole_news (Whole.alloc (Whole.new w5 w5.heap.size 3 [.int .i64 x] (by simp)) _)) (by simp [Value.oneCell']) (by decide) (by unfold maxLen; omega) (by omega) (by have := hb5.size; first | exact this | (simp at this ⊢; omega) | (simp at this ⊢; exact Nat.le_succ_of_le this) | (simp; exact Nat.le_succ_of_le (Nat.le_succ_of_le this)) | (simp; exact Nat.le_succ_of_le this)) _ rfl ?_
               intro g6 cap6 w6 hown6 hg6 hat6 hlt6
               have hZ6 := Whole.grown (Whole.new (w5.alloc (.cells #[.int .i64 x] 3)) (w5.heap.size + 1) 24 [.slice none 0 0] (by simp)) hg6 (fun e => by have := (hown5.lt _ e.symm).2; first | omega | (simp at this; done) | (simp at this; omega)))
            |
              (with_reducible refine step_append_lies ((w5.alloc (.cells #[.slice none 0 0] 24)).alloc (.cells #[.int .i64 x] 3)) rfl (.tmp 34) (.tmp 36) 24 rfl _ 3 j0 (.int .i64 0) 1 8 Try.underlying24 Hj.out Hj0.out Hj1.out Hj2.out rfl (by decide) (.slice A5 n' c5) n' (asm.map (.int .i64)) (by simp [Act.eval, Act.put]) ((hown5.alloc _).alloc _) ⟨w5.heap.size + 1, 0, none⟩ 1 1 [.int .i64 x] (by simp [Act.eval, Act.put]) rfl (whole_news (Whole.new (w5.alloc (.cells #[.slice none 0 0] 24)) (w5.heap.size + 1) 3 [.int .i64 x] (by simp))) (by simp [Value.oneCell']) (by decide) (by unfold maxLen; omega) (by omega) (by have := hb5.size; first | exact this | (simp at this ⊢; omega) | (simp at this ⊢; exact Nat.le_succ_of_le this) | (simp; exact Nat.le_succ_of_le (Nat.le_succ_of_le this)) | (simp; exact Nat.le_succ_of_le this)) _ rfl ?_
               intro g6 cap6 w6 hown6 hg6 hat6 hlt6
               have hZ6 := Whole.grown (Whole.alloc (Whole.new w5 w5.heap.size 24 [.slice none 0 0] (by simp)) _) hg6 (fun e => by have := (hown5.lt _ e.symm).2; first | omega | (simp at this; done) | (simp at this; omega)))
            |
              (with_reducible refine step_append_lies w5 rfl (.tmp 34) (.tmp 36) 24 rfl _ 3 j0 (.int .i64 0) 1 8 Try.underlying24 Hj.out Hj0.out Hj1.out Hj2.out rfl (by decide) (.slice A5 n' c5) n' (asm.map (.int .i64)) (by simp [Act.eval, Act.put]) hown5 ⟨w4.heap.size, 0, none⟩ 1 1 [.int .i64 x] (by simp [Act.eval, Act.put]) rfl (whole_news hN5) (by simp [Value.oneCell']) (by decide) (by unfold maxLen; omega) (by omega) (by have := hb5.size; first | exact this | (simp at this ⊢; omega) | (simp at this ⊢; exact Nat.le_succ_of_le this) | (simp; exact Nat.le_succ_of_le (Nat.le_succ_of_le this)) | (simp; exact Nat.le_succ_of_le this)) _ rfl ?_
               intro g6 cap6 w6 hown6 hg6 hat6 hlt6
               try have hZ6 := Whole.grown hZ5 hg6 (fun e => by have := (hown5.lt _ e.symm).1; first | omega | (simp at this; done) | (simp at this; omega)))
            |
              (with_reducible refine step_append_lies w5 rfl (.tmp 34) (.tmp 36) 24 rfl _ 3 j0 (.int .i64 0) 1 8 Try.underlying24 Hj.out Hj0.out Hj1.out Hj2.out rfl (by decide) (.slice A5 n' c5) n' (asm.map (.int .i64)) (by simp [Act.eval, Act.put]) hown5 ⟨w4.heap.size + 1, 0, none⟩ 1 1 [.int .i64 x] (by simp [Act.eval, Act.put]) rfl (whole_news hN5) (by simp [Value.oneCell']) (by decide) (by unfold maxLen; omega) (by omega) (by have := hb5.size; first | exact this | (simp at this ⊢; omega) | (simp at this ⊢; exact Nat.le_succ_of_le this) | (simp; exact Nat.le_succ_of_le (Nat.le_succ_of_le this)) | (simp; exact Nat.le_succ_of_le this)) _ rfl ?_
               intro g6 cap6 w6 hown6 hg6 hat6 hlt6
               try have hZ6 := Whole.grown hZ5 hg6 (fun e => by have := (hown5.lt _ e.symm).1; first | omega | (simp at this; done) | (simp at this; omega)))
            |
              (with_reducible refine step_append_lies (w5.alloc (.cells #[.slice none 0 0] 24)) rfl (.tmp 34) (.tmp 36) 24 rfl _ 3 j0 (.int .i64 0) 1 8 Try.underlying24 Hj.out Hj0.out Hj1.out Hj2.out rfl (by decide) (.slice A5 n' c5) n' (asm.map (.int .i64)) (by simp [Act.eval, Act.put]) (hown5.alloc _) ⟨w4.heap.size, 0, none⟩ 1 1 [.int .i64 x] (by simp [Act.eval, Act.put]) rfl (whole_news (hN5.alloc _)) (by simp [Value.oneCell']) (by decide) (by unfold maxLen; omega) (by omega) (by have := hb5.size; first | exact this | (simp at this ⊢; omega) | (simp at this ⊢; exact Nat.le_succ_of_le this) | (simp; exact Nat.le_succ_of_le (Nat.le_succ_of_le this)) | (simp; exact Nat.le_succ_of_le this)) _ rfl ?_
               intro g6 cap6 w6 hown6 hg6 hat6 hlt6
               have hZ6 := Whole.grown (Whole.new w5 w5.heap.size 24 [.slice none 0 0] (by simp)) hg6 (fun e => by have := (hown5.lt _ e.symm).2; first | omega | (simp at this; done) | (simp at this; omega)))
            |
              (with_reducible refine step_append_lies (w5.alloc (.cells #[.slice none 0 0] 24)) rfl (.tmp 34) (.tmp 36) 24 rfl _ 3 j0 (.int .i64 0) 1 8 Try.underlying24 Hj.out Hj0.out Hj1.out Hj2.out rfl (by decide) (.slice A5 n' c5) n' (asm.map (.int .i64)) (by simp [Act.eval, Act.put]) (hown5.alloc _) ⟨w4.heap.size + 1, 0, none⟩ 1 1 [.int .i64 x] (by simp [Act.eval, Act.put]) rfl (whole_news (hN5.alloc _)) (by simp [Value.oneCell']) (by decide) (by unfold maxLen; omega) (by omega) (by have := hb5.size; first | exact this | (simp at this ⊢; omega) | (simp at this ⊢; exact Nat.le_succ_of_le this) | (simp; exact Nat.le_succ_of_le (Nat.le_succ_of_le this)) | (simp; exact Nat.le_succ_of_le this)) _ rfl ?_
               intro g6 cap6 w6 hown6 hg6 hat6 hlt6
               have hZ6 := Whole.grown (Whole.new w5 w5.heap.size 24 [.slice none 0 0] (by simp)) hg6 (fun e => by have := (hown5.lt _ e.symm).2; first | omega | (simp at this; done) | (simp at this; omega)))
           have hB6 : Below w4.heap.size w4 w6 := hB5.trans (Below.grown (by first | exact Below.refl _ _ | exact (Below.refl _ _).alloc hB5.size _ | exact ((Below.refl _ _).alloc hB5.size _).alloc (by have := hB5.size; simp; omega) _) hg6 (by have := hB5.size; first | exact this | (simp; omega)) (fun k e => by have h1 := (hown5.lt k e).1; first | exact h1 | (simp at h1; omega)))
           have hlt6' : w1.heap.size < w6.heap.size := Nat.lt_of_lt_of_le hlt4 hB6.size
           have hr6 : RInts w6 (fun k => k < w6.heap.size) (some ⟨g6, 0, none⟩) (n' + 1) (asm ++ [x]) := by have := (row_of_own hown6 (S := fun k => k < w6.heap.size) (fun k e => (hown6.lt k e).2)); rw [RInts, List.map_append]; exact this
           have hk60 := (hB6.cell (p := ⟨w1.heap.size, 0, none⟩) hlt4).trans hg40
           have hk61 := (hB6.cell (p := ⟨w1.heap.size, 1, none⟩) hlt4).trans hg41)
        | (go_at_call 22
           first
            | (refine (Hfol.out w6 hB6 _ _ hr6).mono ?_
               rintro e w7 ⟨Am, nm, cm, he, hrm, hnm, hcm, hb7⟩
               have hB7 : Below w4.heap.size w4 w7 := hB6.trans (hb7.mono hB6.size)
               try have hZ7 := hZ6.below hb7 hZ6.lt)
            | (refine (Hfol.out (w6.alloc _) (hB6.alloc hB6.size _) _ _ ((hr6.below ((Below.refl _ _).alloc (Nat.le_refl _) _) (fun k hk => hk)).more (fun k hk => by simp; omega))).mono ?_
               rintro e w7 ⟨Am, nm, cm, he, hrm, hnm, hcm, hb7⟩
               have hB7 : Below w4.heap.size w4 w7 := (hB6.alloc hB6.size _).trans (hb7.mono (hB6.alloc hB6.size _).size)
               have hZ7 := Whole.below (Whole.new w6 w6.heap.size 24 [.slice none 0 0] rfl) hb7 (by simp))
           obtain rfl := he
           have hlt7 : w1.heap.size < w7.heap.size := Nat.lt_of_lt_of_le hlt4 hB7.size
           have hk70 := (hB7.cell (p := ⟨w1.heap.size, 0, none⟩) hlt4).trans hg40
           have hk71 := (hB7.cell (p := ⟨w1.heap.size, 1, none⟩) hlt4).trans hg41
           try have hz7c := hZ7.cell 0
           try have hz7f := hZ7.free 0
           try simp only [List.getElem?_cons_zero] at hz7c))
    all_goals
      go_wp2_with fail
      go_meet
      first
        | exact moreCut_new hB7 hB6.size hrm hnm hcm
        | exact moreCut_new hB7 (hB6.alloc hB6.size _).size hrm hnm hcm
        | exact moreCut_set hZ7 hB7 (by have := hB5.size; have := hB6.size; omega) hZ6.lt hrm hnm hcm
        | exact moreCut_set hZ7 hB7 (by have := hB5.size; have := hB6.size; omega) (by simp) hrm hnm hcm
  case rest =>
    obtain ⟨bm, Am, nm, cm, rfl, rfl, rfl, hcell, hbm, hrm, hnm, hB⟩ := hcut
    generalize hM : folOk vars (cs ++ [c]) (asm ++ [x]) = M
    generalize hQ : folErr vars (cs ++ [c]) (asm ++ [x]) = Q
    generalize hLm : folL vars (cs ++ [c]) (asm ++ [x]) = Lm at hrm
    have HM := Lib.hid hM; have HQ := Lib.hid hQ; have HLm := Lib.hid hLm; have Hrm := Lib.hid hrm; have Hnm := Lib.hid hnm
    have Hbc : Hid (Below w.heap.size w wc) := Hb4.out.trans (hB.mono Hb4.out.size)
    have Hrlc : Hid (RInts wc (fun k => k < w1.heap.size) Al nl L) := Hrl4.out.below hB (fun k hk => by omega)
    have Hcell := Lib.hid hcell; have Hbm := Lib.hid hbm; have Hsz1 : Hid (w1.heap.size ≤ wc.heap.size) := Nat.le_of_lt (Nat.lt_of_lt_of_le hlt4 hB.size)
    clear hM hQ hLm hrm hnm hB hcell hbm hg40 hg41
    go_wp2_with fail
    refine (followed_any _).mono ?_
    rintro e wd ⟨rfl, hbd⟩
    have Hbd : Hid (Below w.heap.size w wd) := Hbc.out.trans (hbd.mono Hbc.out.size)
    have hcd : wd.cell? ⟨bm, 0, none⟩ = some (.slice Am nm cm) := (hbd.cell (p := ⟨bm, 0, none⟩) Hbm.out).trans Hcell.out
    have Hall := Lib.hid (moreAll_any Al nl cl L bm Am nm cm Lm wd _ _ hcd (Hrm.out.below hbd (fun k hk => hk.2.1)) (Hrlc.out.below hbd (fun k hk => by have := Hbm.out; have h : k < w1.heap.size := hk; have := Hsz1.out; omega)) Hnm.out Hnl.out)
    clear hbd
    by_cases hE0 : E = 0
    · by_cases hQ0 : Q = 0
      · subst hE0 hQ0
        have hmore : M = true → K = true ∧ L.any (fun y => !Lm.any (eqTo y)) = false := fun h => by
          have := fol_more_ HE.out HQ.out (HM.out.trans h)
          rwa [HK.out, HL.out, HLm.out] at this
        have Hmore := Lib.hid hmore
        clear hmore
        cases M
        · go_wp2_with fail
          go_ret
          exact ⟨rfl, Hbd.out⟩
        · obtain ⟨h1, h2⟩ := Hmore.out rfl
          subst h1
          rw [h2] at Hall
          clear h2
          go_wp2_with fail
          refine Hall.out.mono ?_
          rintro e we ⟨rfl, q, rfl⟩
          go_wp2_with fail
          go_ret
          exact ⟨rfl, below_drewN Hbd.out q⟩
      · have hQ1 : (Q != 0) = true := by simpa using hQ0
        clear hQ0 hcd
        subst hE0
        go_wp2_with fail
        refine (followed_any _).mono ?_
        rintro e we ⟨rfl, hbe⟩
        go_wp2_with fail
        go_ret
        exact ⟨rfl, Hbd.out.trans (hbe.mono Hbd.out.size)⟩
    · have hE1 : (E != 0) = true := by simpa using hE0
      clear hE0 hcd
      go_wp2_with fail
      refine (followed_any _).mono ?_
      rintro e we ⟨rfl, hbe⟩
      go_wp2_with fail
      go_ret
      exact ⟨rfl, Hbd.out.trans (hbe.mono Hbd.out.size)⟩
end Go.Proofs.Ytpkbncfnkgofmaa
