/- Parts of the proof: walks and plain laws, side by side. -/
import Derived.Test.YtedbhlgjcnnknaaGreatDoorM9
import Derived.Lib.AppendIntMem
import Derived.Test.YtedbhlgjcnnknaaGreatDoorM4
import Derived.Test.YtedbhlgjcnnknaaGreatDoorM7
import Derived.Test.YtedbhlgjcnnknaaGreatDoorShelf
import Derived.WalkLawsBesides
import Derived.Sort.Walk0
set_option linter.unusedVariables false
set_option linter.unusedSimpArgs false
set_option linter.unusedSectionVars false
namespace Go.Proofs.YtedbhlgjcnnknaaGreatDoor
/- (*desk).add, walked. -/
section
open Go.RowKit Qm

def Cv (v : Value) (k : Nat) : Prop := v.ownBlock = some k
section
variable {q : Dp} {E Sc : Nat → Prop} {mp : Nat} {d : Dk} {w w1 : World}
theorem Desk.reown {e : TypeId} {base n n' : Nat} {v v' : Value} {vs vs' : List Value} {o : Obj} (h : Desk q (fun k => E k ∨ Cv v k) mp d w) (ho : w.ownsRow base e 1 v n vs) (ho' : w1.ownsRow base e 1 v' n' vs') (hb : q.base ≤ base) (hg : (w.alloc o).grownBy w1 v.ownBlock)
  (hv : v'.ownBlock = v.ownBlock ∨ v'.ownBlock = some (w.alloc o).heap.size) (hE : ∀ k, Cv v k → ¬ E k) : Desk q (fun k => E k ∨ Cv v' k) mp d w1 ∧ Fd q E w w1 ∧ ∀ k, Cv v' k → ¬ E k := by
 have hal : Below w.heap.size w (w.alloc o) := (Below.refl _ w).alloc (qr _) _
 have far : Far (fun i => Cv v i) w w1 := (Far.of_below _ hal).trans (Far.of_grown hg fun i h => h.symm) fun _ _ h => h
 have hnew : ∀ i, i < w.heap.size → Cv v' i → Cv v i := fun i hi y => by
  rcases hv with hv | hv
  ·exact hv.symm.trans y
  ·unfold Cv at y
   rw [hv] at y
   injection y with y
   simp at y
   omega
 obtain ⟨P, hs, H⟩ := h
 refine ⟨⟨P, hs, H.turn far (fun i _ x => .inr x) (fun i x hi => x.elim .inl fun y => .inr (hnew i hi y)) fun i x => x.elim (fun y => ?_) fun y => ?_⟩, ?_, fun k y hk => ?_⟩
 ·have := H.e i (.inl y); exact ⟨this.1, ql this.2 far.size⟩
 ·have := ho'.lt i y; exact ⟨Nat.le_trans hb this.1, this.2⟩
 ·exact far.mono fun i x => ⟨(H.e i (.inr x)).1, hE i x⟩
 ·have := (H.e k (.inl hk)).2
  exact hE k (hnew k this y) hk
theorem DeskP.grow {P P' : Value} {hs : List (Option Addr × Nat × Nat)} {A : Option Addr} {n c : Nat} {xs : List Int} {o : Obj} (h : DeskP q (fun k => E k ∨ Sc k) P hs mp d w) (hr : RInts w Sc A n xs) (hn : n ≤ c ∧ c ≤ maxLen) (hE : ∀ k, Sc k → ¬ E k)
  (ho' : w1.ownsRow q.base 117 1 P' (d.cls.length + 1) (hs.map hd ++ [.slice A n c])) (hg : (w.alloc o).grownBy w1 P.ownBlock) (hv : P'.ownBlock = P.ownBlock ∨ P'.ownBlock = some (w.alloc o).heap.size) :
  Desk q E mp (addD d xs) (w1.setCell ⟨q.b, 4, none⟩ P') ∧ Fd q (fun k => E k ∨ Sc k) w (w1.setCell ⟨q.b, 4, none⟩ P') := by
 have hal : Below w.heap.size w (w.alloc o) := (Below.refl _ w).alloc (qr _) _
 have far : Far (fun i => P.ownBlock = some i) w w1 := (Far.of_below _ hal).trans (Far.of_grown hg fun i h => h.symm) fun _ _ h => h
 have hfs : Far (fun i => i = q.b) w1 (w1.setCell ⟨q.b, 4, none⟩ P') := Far.set_ (D := fun i => i = q.b) rfl 4 _
 have F : Far (fun i => i = q.b ∨ P.ownBlock = some i) w (w1.setCell ⟨q.b, 4, none⟩ P') := (far.mono fun i x => .inr x).trans hfs fun i _ x => .inl x
 have hP'b : P'.ownBlock ≠ some q.b := by
  rcases hv with hv | hv
  ·rw [hv]; exact h.pb
  ·rw [hv]; intro e; injection e with e; have := h.blk.lt; simp at e; omega
 have hP'm : P'.ownBlock ≠ some q.mb := by
  rcases hv with hv | hv
  ·rw [hv]; exact h.pm
  ·rw [hv]; intro e; injection e with e; have := h.pair.lt; simp at e; omega
 have hnew : ∀ i, i < w.heap.size → P'.ownBlock = some i → P.ownBlock = some i := fun i hi y => by
  rcases hv with hv | hv
  ·exact hv.symm.trans y
  ·rw [hv] at y
   injection y with y
   simp at y
   omega
 have hown : ∀ k, OwnD q.base q.b q.mb P (fun k => E k ∨ Sc k) w.heap.size k → OwnD q.base q.b q.mb P' E (w1.setCell ⟨q.b, 4, none⟩ P').heap.size k := fun k hk =>
  ⟨hk.1, ql hk.2.1 F.size, hk.2.2.1, hk.2.2.2.1, fun e => hk.2.2.2.2.1 (hnew k hk.2.1 e), fun e => hk.2.2.2.2.2 (.inl e)⟩
 have hsc : ∀ k, Sc k → OwnD q.base q.b q.mb P' E (w1.setCell ⟨q.b, 4, none⟩ P').heap.size k := fun k hk => by
  have := h.e k (.inr hk)
  refine ⟨this.1, ql this.2 F.size, fun e => h.bb.2 (.inr (e ▸ hk)), fun e => h.bm.2 (.inr (e ▸ hk)), fun e => h.bp k (hnew k this.2 e) (.inr hk), hE k hk⟩
 have hnd : ∀ k, OwnD q.base q.b q.mb P (fun k => E k ∨ Sc k) w.heap.size k → k < w.heap.size ∧ ¬ (k = q.b ∨ P.ownBlock = some k) := fun k hk => ⟨hk.2.1, fun e => e.elim hk.2.2.1 hk.2.2.2.2.1⟩
 have hscn : ∀ k, Sc k → k < w.heap.size ∧ ¬ (k = q.b ∨ P.ownBlock = some k) := fun k hk => ⟨(h.e k (.inr hk)).2, fun e => e.elim (fun e => h.bb.2 (.inr (e ▸ hk))) fun e => h.bp k e (.inr hk)⟩
 refine ⟨⟨P', hs ++ [(A, n, c)], ?_, ?_, ?_, ?_, ?_, h.s0, ?_, ?_, ?_, ?_, ?_, h.caps⟩, ?_⟩
 ·exact (far.whole h.blk h.pb).set_ 4 P'
 ·have h2 := hfs.own ho' fun g hg e => hP'b (by rw [hg, e])
  have e1 : (addD d xs).cls.length = d.cls.length + 1 := by unfold addD; simp
  have e2 : (hs ++ [(A, n, c)]).map hd = hs.map hd ++ [.slice A n c] := by rw [List.map_append]; rfl
  rw [e1, e2]; exact h2
 ·exact ((F.heads' h.heads hnd).more hown).append ((Heads.one (F.ints hr hscn) hn).more hsc)
 ·exact h.pair.block (F.block _ h.pair.lt fun e => e.elim (fun e => h.ne e.symm) fun e => h.pm e)
 ·exact h.st.keep fun p hp => by
   rcases hp with hp | hp
   ·have h0 := h.s0 _ hp
    refine F.cell (ql h0 h.base_) fun e => e.elim (fun e => ?_) fun e => ?_
    ·have := h.bb.1; omega
    ·have := (h.own.lt _ e).1; omega
   ·exact F.cell (h.s1 _ hp).2.1 (hnd _ (h.s1 _ hp)).2
 ·exact fun k hk => hown k (h.s1 k hk)
 ·exact ⟨h.bb.1, fun e => h.bb.2 (.inl e)⟩
 ·exact ⟨h.bm.1, fun e => h.bm.2 (.inl e)⟩
 ·intro g hg e
  have := (h.e g (.inl e)).2
  exact h.bp g (hnew g this hg) (.inl e)
 ·exact fun k hk => ⟨(h.e k (.inl hk)).1, ql (h.e k (.inl hk)).2 F.size⟩
 ·exact F.mono fun i x => x.elim (fun x => by rw [x]; exact h.bb) fun x => ⟨(h.own.lt i x).1, h.bp i x⟩
end
theorem clause_infoE : (Tryz.prog.info? 117).map (fun i => (i.zero, i.size, i.bytes)) = some (some (.slice none 0 0), 1, 24) := by kernel_rfl
set_option maxRecDepth 100000 in
set_option maxHeartbeats 4000000 in
theorem dadd_any (q : Dp) (E Sc : Nat → Prop) (mp : Nat) (d : Dk) (A' : Option Addr) (n' c' : Nat) (xs : List Int) (w : World) (hD : Desk q (fun k => E k ∨ Sc k) mp d w) (hr : RInts w Sc A' n' xs) (hn : n' ≤ c' ∧ c' ≤ maxLen) (hE : ∀ k, Sc k → ¬ E k) (hcl : d.cls.length ≤ 100000) :
  Calls Tryz.prog 45 #[.pointer (some ⟨q.b, 0, none⟩), .slice A' n' c'] w fun e w' => e = .returned (.tuple #[]) ∧ Desk q E mp (addD d xs) w' ∧ Fd q (fun k => E k ∨ Sc k) w w' := by
 obtain ⟨i0, hi, hz0, hz1, hz2⟩ := info_parts clause_infoE
 have Hi := qh hi; have Hz0 := qh hz0; have Hz1 := qh hz1; have Hz2 := qh hz2
 obtain ⟨P, hs, H0⟩ := hD
 obtain ⟨PA, Pc, rfl, _, _, _⟩ := own_form H0.own
 have H := qh H0; have Hr := qh hr; have HE := qh hE; have Hn := qh hn
 have c4 := H0.blk.cell 4
 have f4 := H0.blk.free 4
 have hbw := H0.blk.lt
 simp only [qgz, qgs] at c4
 obtain ⟨N, hN⟩ : ∃ N, N = d.cls.length := ⟨_, rfl⟩
 rw [← hN] at c4 hcl
 have HN := qh hN
 have HO : Hid (w.ownsRow q.base 117 1 (.slice PA N Pc) N (hs.map hd)) := qh (by rw [HN.out]; exact H0.own)
 have hn2 := hn.2
 have hbs := H0.base_
 unfold maxLen at hn2
 clear hi hz0 hz1 hz2 H0 hr hE hn hN
 go_enter Tryz.func45, Tryz.ntmps45
 go_wp2_with (at_builtin; refine wpList_append_own_at _ rfl _ _ 31 rfl q.base 117 i0 (.slice none 0 0) 1 24 Tryz.underlying31 Hi.out Hz0.out Hz1.out Hz2.out rfl (by decide) _ _ _ rfl (HO.out.alloc _) ⟨w.heap.size, 0, none⟩ 1 1 [.slice A' n' c'] rfl rfl ?d1 ?d2 ?d3 ?d4 ?d5 ?_)
 case d1 => exact cell_one_new _ _ _
 case d2 => simp [Value.oneCell']
 case d3 => unfold maxLen; omega
 case d4 => omega
 case d5 => simp; omega
 intro P' w1 hown1 hg1 _ hat
 obtain ⟨A6, c6, rfl, _, _, _⟩ := own_form hown1
 have hpne : q.b ≠ w.heap.size := by omega
 have HB1 : Hid (Whole w1 q.b 95 [.slice q.A q.n q.c, .slice q.pA q.n q.pc, .slice q.oA q.n q.oc, .int .i64 (d.vars : Int), .slice PA d.cls.length Pc, .map (some q.mb)]) := qh (Whole.grown (H.out.blk.alloc _) hg1 fun e => H.out.pb (by rw [← HN.out]; exact e.symm))
 have d4 := HB1.out.cell 4
 have g4 := HB1.out.free 4
 have hbw1 := HB1.out.lt
 simp only [qgz, qgs] at d4
 have HF : Hid _ := qh (DeskP.grow (P' := .slice A6 (N + 1) c6) H.out Hr.out Hn.out HE.out (by rw [← HN.out]; exact hown1) (by rw [← HN.out]; exact hg1) (by rw [← HN.out]; simpa using hat))
 clear hown1 hg1 hat c4 f4 hpne
 go_wp2
 exact bodyPost_end (results_none rfl _ _ _) rfl ⟨rfl, HF.out.1, HF.out.2⟩
end
/- (*desk).both, (*desk).one, walked. -/
section
open Go.RowKit Qm

theorem own_made1 {w : World} {base : Nat} {e : TypeId} {x : Value} (hb : base ≤ w.heap.size) : (w.alloc (.cells #[x] e)).ownsRow base e 1 (.slice (some ⟨w.heap.size, 0, none⟩) 1 1) 1 [x] :=
 ⟨by simp, .inr ⟨w.heap.size, 1, #[x], rfl, hb, heap_alloc_new w _, qr _, by unfold maxLen; omega, rfl, by simp⟩⟩
section
variable {q : Dp} {E Sc : Nat → Prop} {mp : Nat} {d : Dk} {w w1 : World}
theorem Desk.vars (h : Desk q E mp d w) (v : Nat) : Desk q E mp { d with vars := v } (w.setCell ⟨q.b, 3, none⟩ (.int .i64 (v : Int))) ∧ Fd q E w (w.setCell ⟨q.b, 3, none⟩ (.int .i64 (v : Int))) := by
 obtain ⟨P, hs, h⟩ := h
 have F : Far (fun i => i = q.b) w (w.setCell ⟨q.b, 3, none⟩ (.int .i64 (v : Int))) := Far.set_ (D := fun i => i = q.b) rfl 3 _
 have hsz : ∀ k, OwnD q.base q.b q.mb P E w.heap.size k → OwnD q.base q.b q.mb P E (w.setCell ⟨q.b, 3, none⟩ (.int .i64 (v : Int))).heap.size k := fun k hk => hk.mono (fun _ h _ => h) F.size
 refine ⟨⟨P, hs, h.blk.set_ 3 _, F.own h.own fun g hg e => h.pb (by rw [hg, e]), (F.heads' h.heads fun k hk => ⟨hk.2.1, hk.2.2.1⟩).more hsz, h.pair.block (F.block _ h.pair.lt fun e => h.ne e.symm), h.st.keep fun p hp => ?_, h.s0, fun k hk => hsz k (h.s1 k hk), h.bb, h.bm, h.bp, fun k hk => ⟨(h.e k hk).1, ql (h.e k hk).2 F.size⟩, h.caps⟩, F.mono fun i x => by rw [x]; exact h.bb⟩
 rcases hp with hp | hp
 ·have h0 := h.s0 _ hp
  have := h.bb.1
  exact F.cell (ql h0 h.base_) fun e => by omega
 ·exact F.cell (h.s1 _ hp).2.1 (h.s1 _ hp).2.2.1
end
def bothTo (d : Dk) (xs : List Int) (k : Nat) : Dk := { d with vars := d.vars + 1, cls := d.cls ++ (xs.take k).map fun n => [-((d.vars : Int) + 1), n] }
def negs (v : Int) (xs : List Int) (k : Nat) : List Int := v :: (xs.take k).map Neg.neg
theorem bothTo_succ {d : Dk} {xs : List Int} {k : Nat} {x : Int} (h : k < xs.length) (hx : xs.getD k 0 = x) : addD (bothTo d xs k) [-((d.vars : Int) + 1), x] = bothTo d xs (k + 1) := by
 unfold addD bothTo
 rw [List.take_succ_eq_append_getElem h, List.map_append]
 rw [List.getD_eq_getElem?_getD, List.getElem?_eq_getElem h] at hx
 simp only [Option.getD_some] at hx
 simp [hx]
theorem negs_succ {v : Int} {xs : List Int} {k : Nat} {x : Int} (h : k < xs.length) (hx : xs.getD k 0 = x) : negs v xs (k + 1) = negs v xs k ++ [-x] := by
 unfold negs
 rw [List.take_succ_eq_append_getElem h, List.map_append]
 rw [List.getD_eq_getElem?_getD, List.getElem?_eq_getElem h] at hx
 simp only [Option.getD_some] at hx
 simp [hx]
theorem bothTo_all {d : Dk} {xs : List Int} (h : xs.length ≠ 1) : addD (bothTo d xs xs.length) (negs ((d.vars : Int) + 1) xs xs.length) = (bothD d xs).1 ∧ (bothD d xs).2 = (d.vars : Int) + 1 := by
 rcases bothD_cases d xs with ⟨x, rfl, _⟩ | ⟨_, e⟩
 ·simp at h
 ·rw [e]
  unfold addD bothTo negs gate
  simp
theorem bothTo_len {d : Dk} {xs : List Int} {k : Nat} (h : xs.length ≠ 1) : (bothTo d xs k).cls.length ≤ (bothD d xs).1.cls.length := by
 rcases bothD_cases d xs with ⟨x, rfl, _⟩ | ⟨_, e⟩
 ·simp at h
 ·rw [e]
  unfold bothTo
  simp only [List.length_append, List.length_map, List.length_take, gate_len]
  omega
theorem int_infoE : (Tryz.prog.info? 3).map (fun i => (i.zero, i.size, i.bytes)) = some (some (.int .i64 0), 1, 8) := by kernel_rfl
set_option maxRecDepth 100000 in
set_option maxHeartbeats 4000000 in
theorem dboth_any (q : Dp) (E Sl : Nat → Prop) (mp : Nat) (d : Dk) (A' : Option Addr) (n' c' : Nat) (xs : List Int) (w : World) (hD : Desk q E mp d w) (hr : RInts w Sl A' n' xs) (hSl : ∀ k, Sl k → k < w.heap.size ∧ (E k ∨ k < q.base)) (hn : n' ≤ c' ∧ c' ≤ maxLen) (h1k : n' ≤ 1000) (hl : LIn d xs) (hv : d.vars ≤ 100000) (hc : (bothD d xs).1.cls.length ≤ 100000) :
  Calls Tryz.prog 79 #[.pointer (some ⟨q.b, 0, none⟩), .slice A' n' c'] w fun e w' => e = .returned (.int .i64 (bothD d xs).2) ∧ Desk q E mp (bothD d xs).1 w' ∧ Fd q E w w' := by
 have hlen := hr.len
 by_cases h1 : n' = 1
 ·subst h1
  obtain ⟨b2, o2, rfl, hb2, hc2⟩ := hr.at_ (k := 0) (by omega)
  obtain ⟨x, rfl⟩ : ∃ x, xs = [x] := by
   match xs, hlen with
   | [x], _ => exact ⟨x, rfl⟩
  simp only [List.getD_cons_zero, Nat.add_zero] at hc2
  have HD := qh hD
  clear hD hr hSl hl hc hlen hv
  go_enter Tryz.func79, Tryz.ntmps79
  go_wp2
  go_ret
  exact ⟨rfl, HD.out, Fd.refl _ _ _⟩
 have hx1 : xs.length ≠ 1 := by omega
 have HX1 := qh hx1
 have hn1 : (n' : Int) ≠ 1 := by omega
 have hn2 : ((n' : Int) == 1) = false := by simpa using hn1
 obtain ⟨i0, hi0, hz0, hz1, hz2⟩ := info_parts int_infoE
 have Hi := qh hi0; have Hz0 := qh hz0; have Hz1 := qh hz1; have Hz2 := qh hz2
 have HD := qh hD; have HR := qh hr; have HSl := qh hSl; have HL := qh hl; have HC := qh hc; have HLen := qh hlen; have Hn := qh hn
 have hqb := hD.base_
 obtain ⟨v, hvv⟩ : ∃ v : Nat, v = d.vars := ⟨_, rfl⟩
 have HV := qh hvv
 obtain ⟨P, hs, H0⟩ := hD
 have c3 := H0.blk.cell 3
 have f3 := H0.blk.free 3
 have hbw := H0.blk.lt
 simp only [qgz, qgs] at c3
 rw [← hvv] at c3 hv
 have hwv : (Lit.int .i64 ((v : Int) + 1)).wf = true := wf_of (by omega) (by omega)
 obtain ⟨hD1, hF1⟩ := HD.out.vars (v + 1)
 have HD1 := qh hD1; have HF1 := qh hF1
 clear hi0 hz0 hz1 hz2 H0 hr hSl hl hc hn hx1 hlen hn1 hvv hD1 hF1 h1
 go_enter Tryz.func79, Tryz.ntmps79
 go_wp2
 have hown0 : ((w.setCell ⟨q.b, 3, none⟩ (.int .i64 ((v : Int) + 1))).alloc (.cells #[.int .i64 ((v : Int) + 1)] 3)).ownsRow w.heap.size 3 1 (.slice (some ⟨w.heap.size, 0, none⟩) 1 1) 1 [.int .i64 ((v : Int) + 1)] := by
  have := own_made1 (w := w.setCell ⟨q.b, 3, none⟩ (.int .i64 ((v : Int) + 1))) (base := w.heap.size) (e := 3) (x := .int .i64 ((v : Int) + 1)) (by simp)
  simpa using this
 have hal0 : Below (w.setCell ⟨q.b, 3, none⟩ (.int .i64 ((v : Int) + 1))).heap.size (w.setCell ⟨q.b, 3, none⟩ (.int .i64 ((v : Int) + 1))) ((w.setCell ⟨q.b, 3, none⟩ (.int .i64 ((v : Int) + 1))).alloc (.cells #[.int .i64 ((v : Int) + 1)] 3)) := (Below.refl _ _).alloc (qr _) _
 have HO0 := qh hown0
 have HDK0 : Hid (Desk q (fun j => E j ∨ Cv (.slice (some ⟨w.heap.size, 0, none⟩) 1 1) j) mp (bothTo d xs 0) ((w.setCell ⟨q.b, 3, none⟩ (.int .i64 ((v : Int) + 1))).alloc (.cells #[.int .i64 ((v : Int) + 1)] 3))) := qh (by
  have h1 := HD1.out.aside hal0
  have e1 : bothTo d xs 0 = { d with vars := v + 1 } := by unfold bothTo; rw [HV.out]; simp
  rw [e1]
  refine h1.mono fun i hi => hi.imp id fun hi => ?_
  unfold Cv at hi
  simp only [Value.ownBlock] at hi
  injection hi with hi
  subst hi
  simp)
 have HF0 : Hid (Fd q E w ((w.setCell ⟨q.b, 3, none⟩ (.int .i64 ((v : Int) + 1))).alloc (.cells #[.int .i64 ((v : Int) + 1)] 3))) := qh (HF1.out.trans (Fd.of_below q E hal0) fun _ _ h => h)
 have HN0 : Hid (∀ j, Cv (.slice (some ⟨w.heap.size, 0, none⟩) 1 1) j → ¬ E j) := qh fun j hj he => by
  have := (HD.out.e j he).2
  unfold Cv at hj
  simp only [Value.ownBlock] at hj
  injection hj with hj
  omega
 clear hown0 hal0 c3 f3 hbw
 generalize (w.setCell ⟨q.b, 3, none⟩ (.int .i64 ((v : Int) + 1))).alloc (.cells #[.int .i64 ((v : Int) + 1)] 3) = w0 at *
 go_loopg [6, 33] n' (fun g cv iv wr => ∃ (k : Nat), Hid (k + g = n') ∧ iv = .int .i64 k ∧ Hid (wr.ownsRow w.heap.size 3 1 cv (k + 1) ((negs ((v : Int) + 1) xs k).map (.int .i64))) ∧ Hid (Desk q (fun j => E j ∨ Cv cv j) mp (bothTo d xs k) wr) ∧ Hid (Fd q E w wr) ∧ Hid (∀ j, Cv cv j → ¬ E j))
 case atStart => exact ⟨0, qh (Nat.zero_add _), rfl, HO0, HDK0, HF0, HN0⟩
 case round =>
  obtain ⟨k, Hk, rfl, HO, HK, HFr, HN⟩ := hrel
  obtain ⟨CA, cc, rfl, hc1, hc2, hcrow⟩ := own_form HO.out
  by_cases hk : k < n'
  ·have hsz := HFr.out.size
   obtain ⟨b2, o2, rfl, hb2, hcell⟩ := (HFr.out.ints HR.out HSl.out).at_ hk
   have hlk : k < xs.length := by rw [HLen.out]; exact hk
   have hmem : xs.getD k 0 ∈ xs := by rw [List.getD_eq_getElem?_getD, List.getElem?_eq_getElem hlk]; exact List.getElem_mem hlk
   have hxb := HL.out _ hmem
   generalize hx : xs.getD k 0 = x at hcell hxb
   have hb3 : b2 < wr.heap.size := ql (HSl.out _ hb2).1 hsz
   have hv1 : v = d.vars := HV.out
   have hxb2 : -200000 ≤ x ∧ x ≤ 200000 := by omega
   have Hst := qh (bothTo_succ (d := d) hlk hx)
   have Hng := qh (negs_succ (v := (v : Int) + 1) hlk hx)
   have hal : Below wr.heap.size wr (wr.alloc (.cells #[.int .i64 (-((v : Int) + 1)), .int .i64 x] 3)) := (Below.refl _ wr).alloc (qr _) _
   have HW := qh (Whole.new wr wr.heap.size 3 [.int .i64 (-((v : Int) + 1)), .int .i64 x] rfl)
   have HA := qh (dadd_any q (fun j => E j ∨ Cv (.slice CA (k + 1) cc) j) (fun j => j = wr.heap.size) mp (bothTo d xs k) (some ⟨wr.heap.size, 0, none⟩) 2 2 [-((v : Int) + 1), x] (wr.alloc (.cells #[.int .i64 (-((v : Int) + 1)), .int .i64 x] 3))
    ((HK.out.aside hal).mono fun i hi => hi.imp id fun hi => by subst hi; simp) (Whole.ints (S := fun j => j = wr.heap.size) (xs := [-((v : Int) + 1), x]) HW.out rfl rfl) ⟨qr _, by unfold maxLen; omega⟩ (fun j hj he => by subst hj; have := (HK.out.e _ he).2; omega) (Nat.le_trans (bothTo_len HX1.out) HC.out))
   clear hx hmem hlk hv1 hxb HD1 HF1 HDK0 HF0 HO0 HN0
   go_wp2_with (first | (go_at_call 45; refine HA.out.mono ?_; rintro e w3 ⟨rfl, hd3, hf3⟩; refine Hid.out ?_))
   refine qh ?_
   have HO3 := qh (hf3.own (HO.out.alloc _) fun g hg => .inl (.inr hg))
   have HD3 := qh hd3
   have HF3 : Hid (Fd q E w w3) := qh ((HFr.out.trans (Fd.of_below q E hal) fun _ _ h => h).trans hf3 fun i _ h => .inl (.inl h))
   have hb0 := HF3.out.size
   clear hd3 hf3 HA HW
   go_wp2_with (at_builtin; refine wpList_append_own_at _ rfl _ _ 117 rfl w.heap.size 3 i0 (.int .i64 0) 1 8 Tryz.underlying117 Hi.out Hz0.out Hz1.out Hz2.out rfl (by decide) _ _ _ rfl (HO3.out.alloc _) ⟨w3.heap.size, 0, none⟩ 1 1 [.int .i64 (-x)] rfl rfl ?d1 ?d2 ?d3 ?d4 ?d5 ?_)
   case d1 => exact cell_one_new _ _ _
   case d2 => simp [Value.oneCell']
   case d3 => unfold maxLen; omega
   case d4 => omega
   case d5 => simp; omega
   intro cv' w4 hown4 hg4 _ hat4
   have HR4 := qh (Desk.reown HD3.out HO3.out hown4 hqb hg4 (by simpa using hat4) HN.out)
   have HO4 : Hid (w4.ownsRow w.heap.size 3 1 cv' (k + 1 + 1) ((negs ((v : Int) + 1) xs (k + 1)).map (.int .i64))) := qh (by rw [Hng.out, List.map_append]; exact hown4)
   clear hown4 hg4 hat4
   go_wp2
   go_roundg (gk - 1)
   case measure => have := Hk.out; omega
   case rel => exact ⟨k + 1, qh (by have := Hk.out; omega), by go_num, HO4, qh (by rw [← Hst.out, ← HV.out]; exact HR4.out.1), qh (HF3.out.trans HR4.out.2.1 fun _ _ h => h), qh HR4.out.2.2⟩
  ·obtain rfl : n' = k := by have := Hk.out; omega
   obtain ⟨Cx, cx, hcv, hcx1, hcx2, hrow⟩ := own_formK HO.out
   rw [Nat.mul_one] at hrow
   obtain ⟨rfl, rfl⟩ : CA = Cx ∧ cc = cx := by injection hcv with h1 h2 h3; exact ⟨h1, h3⟩
   have HA := qh (dadd_any q E (Cv (.slice CA (n' + 1) cc)) mp (bothTo d xs n') CA (n' + 1) cc (negs ((v : Int) + 1) xs n') wr HK.out hrow ⟨hc1, hc2⟩ HN.out (Nat.le_trans (bothTo_len HX1.out) HC.out))
   have HE : Hid (addD (bothTo d xs n') (negs ((v : Int) + 1) xs n') = (bothD d xs).1 ∧ (bothD d xs).2 = (v : Int) + 1) := qh (by
    have := bothTo_all (d := d) HX1.out
    rw [HLen.out, ← HV.out] at this; exact this)
   clear hcv hrow HD1 HF1 HDK0 HF0 HO0 HN0
   go_wp2_with (first | (go_at_call 45; refine HA.out.mono ?_; rintro e w3 ⟨rfl, hd3, hf3⟩; refine Hid.out ?_))
   refine qh ?_
   have HD3 := qh hd3
   have HF3 : Hid (Fd q E w w3) := qh (HFr.out.trans hf3 fun i _ h => .inl h)
   clear hd3 hf3 HA
   go_wp2
   go_ret
   exact ⟨by rw [HE.out.2]; rfl, by rw [← HE.out.1]; exact HD3.out, HF3.out⟩
end
/- (*desk).one, walked. -/
section
open Go.RowKit Qm

theorem negL_succ {xs : List Int} {k : Nat} {x : Int} (h : k < xs.length) (hx : xs.getD k 0 = x) : (xs.take (k + 1)).map Neg.neg = (xs.take k).map Neg.neg ++ [-x] := by
 rw [List.take_succ_eq_append_getElem h, List.map_append]
 rw [List.getD_eq_getElem?_getD, List.getElem?_eq_getElem h] at hx
 simp only [Option.getD_some] at hx
 simp [hx]
set_option maxRecDepth 100000 in
set_option maxHeartbeats 4000000 in
theorem done_any (q : Dp) (E Sl : Nat → Prop) (mp : Nat) (d : Dk) (A' : Option Addr) (n' c' : Nat) (xs : List Int) (w : World) (hD : Desk q E mp d w) (hr : RInts w Sl A' n' xs) (hSl : ∀ k, Sl k → k < w.heap.size ∧ (E k ∨ k < q.base)) (hn : n' ≤ c' ∧ c' ≤ maxLen) (h1k : n' ≤ 1000) (hl : LIn d xs) (hv : d.vars ≤ 100000) (hc : (oneD d xs).1.cls.length ≤ 100000) :
  Calls Tryz.prog 78 #[.pointer (some ⟨q.b, 0, none⟩), .slice A' n' c'] w fun e w' => e = .returned (.int .i64 (oneD d xs).2) ∧ Desk q E mp (oneD d xs).1 w' ∧ Fd q E w w' := by
 have hlen := hr.len
 obtain ⟨i0, hi0, hz0, hz1, hz2⟩ := info_parts int_infoE
 have Hi := qh hi0; have Hz0 := qh hz0; have Hz1 := qh hz1; have Hz2 := qh hz2
 have HD := qh hD; have HR := qh hr; have HSl := qh hSl; have HL := qh hl; have HC := qh hc; have HLen := qh hlen; have Hn := qh hn
 have hqb := hD.base_
 have Hin : Hid ((oneD d xs).2.natAbs ≤ 100001) := qh (by
  have h1 : (bothD d (xs.map Neg.neg)).2.natAbs ≤ d.vars + 1 := by
   rcases bothD_cases d (xs.map Neg.neg) with ⟨x, hx, e⟩ | ⟨_, e⟩
   ·rw [e]
    have : x ∈ xs.map Neg.neg := by rw [hx]; exact List.mem_singleton.2 rfl
    obtain ⟨y, hy, rfl⟩ := List.mem_map.1 this
    have := hl y hy
    dsimp only
    omega
   ·rw [e]; dsimp only; omega
  show (-(bothD d (xs.map Neg.neg)).2).natAbs ≤ _
  omega)
 clear hD hr hSl hl hc hlen hn hi0 hz0 hz1 hz2
 go_enter Tryz.func78, Tryz.ntmps78
 go_wp2
 go_loopg [5, 10] n' (fun g cv iv wr => ∃ (k : Nat), Hid (k + g = n') ∧ iv = .int .i64 k ∧ Hid (wr.ownsRow w.heap.size 3 1 cv k (((xs.take k).map Neg.neg).map (.int .i64))) ∧ Hid (Desk q (fun j => E j ∨ Cv cv j) mp d wr) ∧ Hid (Fd q E w wr) ∧ Hid (∀ j, Cv cv j → ¬ E j))
 case atStart =>
  exact ⟨0, qh (Nat.zero_add _), rfl, qh (World.ownsRow_nil _ _ _ _), qh (HD.out.mono fun j hj => hj.elim id fun h => by cases h), qh (Fd.refl _ _ _), qh fun j hj => by cases hj⟩
 case round =>
  obtain ⟨k, Hk, rfl, HO, HK, HFr, HN⟩ := hrel
  obtain ⟨CA, cc, rfl, hc1, hc2, hcrow⟩ := own_form HO.out
  by_cases hk : k < n'
  ·have hsz := HFr.out.size
   obtain ⟨b2, o2, rfl, hb2, hcell⟩ := (HFr.out.ints HR.out HSl.out).at_ hk
   have hlk : k < xs.length := by rw [HLen.out]; exact hk
   have hmem : xs.getD k 0 ∈ xs := by rw [List.getD_eq_getElem?_getD, List.getElem?_eq_getElem hlk]; exact List.getElem_mem hlk
   have hxb := HL.out _ hmem
   generalize hx : xs.getD k 0 = x at hcell hxb
   have hb3 : b2 < wr.heap.size := ql (HSl.out _ hb2).1 hsz
   have hxb2 : -200000 ≤ x ∧ x ≤ 200000 := by omega
   have Hng := qh (negL_succ hlk hx)
   clear hx hmem hlk hxb
   go_wp2_with (at_builtin; refine wpList_append_own_at _ rfl _ _ 27 rfl w.heap.size 3 i0 (.int .i64 0) 1 8 Tryz.underlying27 Hi.out Hz0.out Hz1.out Hz2.out rfl (by decide) _ _ _ rfl (HO.out.alloc _) ⟨wr.heap.size, 0, none⟩ 1 1 [.int .i64 (-x)] rfl rfl ?d1 ?d2 ?d3 ?d4 ?d5 ?_)
   case d1 => exact cell_one_new _ _ _
   case d2 => simp [Value.oneCell']
   case d3 => unfold maxLen; omega
   case d4 => omega
   case d5 => simp; omega
   intro cv' w4 hown4 hg4 _ hat4
   have HR4 := qh (Desk.reown HK.out HO.out hown4 hqb hg4 (by simpa using hat4) HN.out)
   have HO4 : Hid (w4.ownsRow w.heap.size 3 1 cv' (k + 1) (((xs.take (k + 1)).map Neg.neg).map (.int .i64))) := qh (by rw [Hng.out, List.map_append]; simpa using hown4)
   clear hown4 hg4 hat4
   go_wp2
   go_roundg (gk - 1)
   case measure => have := Hk.out; omega
   case rel => exact ⟨k + 1, qh (by have := Hk.out; omega), by go_num, HO4, qh HR4.out.1, qh (HFr.out.trans HR4.out.2.1 fun _ _ h => h), qh HR4.out.2.2⟩
  ·obtain rfl : n' = k := by have := Hk.out; omega
   obtain ⟨Cx, cx, hcv, hcx1, hcx2, hrow⟩ := own_formK HO.out
   rw [Nat.mul_one] at hrow
   obtain ⟨rfl, rfl⟩ : CA = Cx ∧ cc = cx := by injection hcv with h1 h2 h3; exact ⟨h1, h3⟩
   have hrow2 : RInts wr (Cv (.slice CA n' cc)) CA n' (xs.map Neg.neg) := by
    have h := hrow
    rwa [List.take_of_length_le (by rw [HLen.out]; exact qr _)] at h
   have HA := qh (dboth_any q (fun j => E j ∨ Cv (.slice CA n' cc) j) (Cv (.slice CA n' cc)) mp d CA n' cc (xs.map Neg.neg) wr HK.out hrow2 (fun j hj => ⟨(HK.out.e j (.inr hj)).2, .inl (.inr hj)⟩) ⟨hc1, hc2⟩ h1k (fun x hx => by obtain ⟨y, hy, rfl⟩ := List.mem_map.1 hx; rw [Int.natAbs_neg]; exact HL.out y hy) hv HC.out)
   have HE : Hid (oneD d xs = ((bothD d (xs.map Neg.neg)).1, -(bothD d (xs.map Neg.neg)).2)) := qh rfl
   obtain ⟨r, hrr⟩ : ∃ r, r = bothD d (xs.map Neg.neg) := ⟨_, rfl⟩
   rw [← hrr] at HE HA
   have hrb : -200000 ≤ r.2 ∧ r.2 ≤ 200000 := by have := Hin.out; rw [HE.out] at this; dsimp only at this; omega
   clear hcv hrow hrow2 hrr
   obtain ⟨rd, rx⟩ := r
   dsimp only at hrb HA HE
   go_wp2_with (first | (go_at_call 79; refine HA.out.mono ?_; rintro e w3 ⟨rfl, hd3, hf3⟩; refine Hid.out ?_))
   refine qh ?_
   have HD3 := qh hd3
   have HF3 : Hid (Fd q E w w3) := qh (HFr.out.trans hf3 fun i _ h => .inl h)
   clear hd3 hf3 HA
   go_wp2
   go_ret
   exact ⟨by rw [HE.out]; rfl, by rw [HE.out]; exact HD3.out.mono fun _ h => .inl h, HF3.out⟩
end
/- atom.Fits, atom.number, walked; what the listed variables hold. -/
section
open Go.RowKit Qm

structure LaidV (w : World) : Prop where
 syn : ∃ tp p, w.var? Tryz.prog "strconv.ErrSyntax" = some #[.iface tp p]
 rng : ∃ tp p, w.var? Tryz.prog "strconv.ErrRange" = some #[.iface tp p]
 tab : Lib.TabIs Tryz.prog w "internal/strconv.uint64pow10" .u64 Lib.pow10Tab

theorem var_below {P : Program} {w w' : World} {n : String} {cs : Array Value} (h : w.var? P n = some cs) (hb : Below w.heap.size w w') : w'.var? P n = some cs := by
 unfold World.var? at h ⊢
 cases hg : P.globalNamed n with
 | none => rw [hg] at h; cases h
 | some g =>
  rw [hg] at h
  simp only [Option.bind_some] at h ⊢
  have hlt : g < w.heap.size := by
   rcases Nat.lt_or_ge g w.heap.size with hlt | hge
   ·exact hlt
   ·rw [Array.getElem?_eq_none hge] at h; cases h
  rw [hb.block g hlt]
  exact h

theorem LaidV.below {w w' : World} (h : LaidV w) (hb : Below w.heap.size w w') : LaidV w' := by
 obtain ⟨⟨t1, p1, h1⟩, ⟨t2, p2, h2⟩, h3⟩ := h
 exact ⟨⟨t1, p1, var_below h1 hb⟩, ⟨t2, p2, var_below h2 hb⟩, var_below h3 hb⟩

theorem bs_eq (a : List UInt8) (s : ByteArray) : (a == s.toList) = decide (a = s.data.toList) := by
 rw [Lib.toList_data, Bool.eq_iff_iff]
 simp

set_option maxHeartbeats 3200000 in
theorem number_any (s : ByteArray) (w : World) (hs : s.size ≤ 140737488355328) (hL : LaidV w) :
  Calls Tryz.prog 181 #[.string s] w fun e w' => ∃ n, e = .returned (.tuple #[.int .i64 n, .bool (number s.data.toList).isSome]) ∧ (∀ v, number s.data.toList = some v → n = v) ∧ Below w.heap.size w w' := by
 obtain ⟨⟨tp, p, h1⟩, ⟨tp2, p2, h2⟩, h3⟩ := hL
 rcases h : Lib.atoiAll s.data.toList with v | _ | _
 ·skip
  have hat := Tryz.strconv_Atoi_ok s (by omega) v h w
  obtain ⟨hv0, hv1⟩ := Lib.atoiAll_bounds h
  go_enter Tryz.func181, Tryz.ntmps181
  go_wp2_with (first | (go_at_call 127; refine hat.mono ?_; rintro e w1 ⟨rfl, hw1⟩; refine Hid.out ?_))
  have hb1 : Hid (Below w.heap.size w w1) := qh (by
   rcases hw1 with rfl | ⟨t, rfl⟩
   ·exact Below.refl _ _
   ·exact Lib.bytesWorld_below _ _ _)
  clear hw1
  have hit := Tryz.strconv_Itoa v (by omega) (by omega) w1 (var_below h3 hb1.out)
  have Hit := qh hit
  clear hit
  have hcmp := bs_eq (Lib.itoa v) s
  have HV := qh (show number s.data.toList = if Lib.itoa v = s.data.toList then some v else none by unfold number; rw [h])
  clear h
  generalize Lib.itoa v = T at hcmp HV Hit
  by_cases e1 : T = s.data.toList
  ·rw [decide_eq_true e1] at hcmp
   have E1 := qh e1; clear e1
   refine qh ?_
   go_wp2_with (first | (go_at_call 100; refine Hit.out.mono ?_; rintro e w2 ⟨rfl, k, os, hw2⟩))
   go_ret2
   refine ⟨v, ?_, ?_, hb1.out.trans (by subst hw2; exact (Lib.below_grow _ _ (qr _) _ _).mono hb1.out.size)⟩
   ·rw [HV.out, if_pos E1.out]; rfl
   ·rw [HV.out, if_pos E1.out]; intro u hu; injection hu
  ·rw [decide_eq_false e1] at hcmp
   have E1 := qh e1; clear e1
   refine qh ?_
   go_wp2_with (first | (go_at_call 100; refine Hit.out.mono ?_; rintro e w2 ⟨rfl, k, os, hw2⟩))
   go_ret2
   refine ⟨v, ?_, ?_, hb1.out.trans (by subst hw2; exact (Lib.below_grow _ _ (qr _) _ _).mono hb1.out.size)⟩
   ·rw [HV.out, if_neg E1.out]; rfl
   ·rw [HV.out, if_neg E1.out]; intro u hu; cases hu
 ·have hat := Any.strconv_Atoi_syntax_var Tryz.laysC172 s (by omega) h tp p w h1
  go_enter Tryz.func181, Tryz.ntmps181
  go_wp2_with (first | (go_at_call 127; refine hat.mono ?_; rintro e w1 ⟨N, rfl, -, -, hb⟩))
  go_ret2
  have hn : number s.data.toList = none := by unfold number; rw [h]
  exact ⟨_, by rw [hn]; rfl, (by rw [hn]; intro v hv; cases hv), hb⟩
 ·have hat := Tryz.strconv_Atoi_range_var s (by omega) h tp2 p2 w h2
  go_enter Tryz.func181, Tryz.ntmps181
  go_wp2_with (first | (go_at_call 127; refine hat.mono ?_; rintro e w1 ⟨N, rfl, -, -, hb⟩))
  go_ret2
  have hn : number s.data.toList = none := by unfold number; rw [h]
  exact ⟨_, by rw [hn]; rfl, (by rw [hn]; intro v hv; cases hv), hb⟩
end
/- atom.Fits, walked. -/
section
open Go.RowKit Qm

set_option maxHeartbeats 3200000 in
theorem fits_any (s f : ByteArray) (op ver slot v sl : Int) (on : Bool) (w : World) :
  Calls Tryz.prog 81 #[atv s op ver slot f on, .int .i64 v, .int .i64 sl] w fun e w' => e = .returned (.bool (fitsP (atOf s op ver slot f on) v sl)) ∧ Below w.heap.size w w' := by
 have BN := qh (Boxed.new w s op ver slot f on (t := 75))
 unfold atv
 by_cases z : slot = 0
 ·subst z
  by_cases a1 : op = 1
  ·subst a1
   go_enter Tryz.func81, Tryz.ntmps81
   go_wp2
   go_ret
   exact ⟨ret_bool (by rw [Bool.eq_iff_iff]; simp [fitsP, atOf, *] <;> exact decide_eq_true_iff.symm), (Below.refl _ _).alloc (qr _) _⟩
  ·have b1 : (op == 1) = false := by simpa using a1
   by_cases a2 : op = 2
   ·subst a2
    go_enter Tryz.func81, Tryz.ntmps81
    go_wp2
    go_ret
    exact ⟨ret_bool (by rw [Bool.eq_iff_iff]; simp [fitsP, atOf, *] <;> exact decide_eq_true_iff.symm), (Below.refl _ _).alloc (qr _) _⟩
   ·have b2 : (op == 2) = false := by simpa using a2
    by_cases a3 : op = 3
    ·subst a3
     go_enter Tryz.func81, Tryz.ntmps81
     go_wp2
     go_ret
     exact ⟨ret_bool (by rw [Bool.eq_iff_iff]; simp [fitsP, atOf, *] <;> exact decide_eq_true_iff.symm), (Below.refl _ _).alloc (qr _) _⟩
    ·have b3 : (op == 3) = false := by simpa using a3
     go_enter Tryz.func81, Tryz.ntmps81
     go_wp2
     go_ret
     exact ⟨ret_bool (by rw [Bool.eq_iff_iff]; simp [fitsP, atOf, *] <;> exact decide_eq_true_iff.symm), (Below.refl _ _).alloc (qr _) _⟩
 ·have z1 : (slot != 0) = true := by simpa using z
  by_cases y : slot = sl
  ·have y1 : (slot != sl) = false := by simpa using y
   by_cases a1 : op = 1
   ·subst a1
    go_enter Tryz.func81, Tryz.ntmps81
    go_wp2
    go_ret
    exact ⟨ret_bool (by rw [Bool.eq_iff_iff]; simp [fitsP, atOf, *] <;> exact decide_eq_true_iff.symm), (Below.refl _ _).alloc (qr _) _⟩
   ·have b1 : (op == 1) = false := by simpa using a1
    by_cases a2 : op = 2
    ·subst a2
     go_enter Tryz.func81, Tryz.ntmps81
     go_wp2
     go_ret
     exact ⟨ret_bool (by rw [Bool.eq_iff_iff]; simp [fitsP, atOf, *] <;> exact decide_eq_true_iff.symm), (Below.refl _ _).alloc (qr _) _⟩
    ·have b2 : (op == 2) = false := by simpa using a2
     by_cases a3 : op = 3
     ·subst a3
      go_enter Tryz.func81, Tryz.ntmps81
      go_wp2
      go_ret
      exact ⟨ret_bool (by rw [Bool.eq_iff_iff]; simp [fitsP, atOf, *] <;> exact decide_eq_true_iff.symm), (Below.refl _ _).alloc (qr _) _⟩
     ·have b3 : (op == 3) = false := by simpa using a3
      go_enter Tryz.func81, Tryz.ntmps81
      go_wp2
      go_ret
      exact ⟨ret_bool (by rw [Bool.eq_iff_iff]; simp [fitsP, atOf, *] <;> exact decide_eq_true_iff.symm), (Below.refl _ _).alloc (qr _) _⟩
  ·have y1 : (slot != sl) = true := by simpa using y
   go_enter Tryz.func81, Tryz.ntmps81
   go_wp2
   go_ret
   exact ⟨ret_bool (by unfold fitsP; rw [if_pos ⟨z, y⟩]), (Below.refl _ _).alloc (qr _) _⟩

end
/- need.Print, the reader's next, walked. (Of the shelf: Tryz.strings_HasSuffix Tryz.strings_Split Tryz.slices_Sort_string Tryz.slices_Sort_string_none Tryz.slices_Compact_string Tryz.slices_Compact_string_empty Tryz.slices_Equal_string Tryz.slices_Equal_string_lens Tryz.slices_Equal_string_empty) -/
section
open Go.RowKit Qm

theorem RNd.far {w w' : World} {S D : Nat → Prop} {x : List Value} {y : Nd} (h : RNd w S x y) (hf : Far D w w') (hS : ∀ k, S k → k < w.heap.size ∧ ¬ D k) : RNd w' S x y := h.keep fun _ hp => hf.cell (hS _ hp).1 (hS _ hp).2
/-! the reader of words -/
def RdSt (w : World) (R : Nat) (S : Nat → Prop) (ws : List Qm.W) : Prop :=
 ∃ A c, Whole w R 181 [.slice A ws.length c] ∧ ws.length ≤ c ∧ c ≤ maxLen ∧ Row w S A ws.length (strs ws) ∧ ¬ S R
theorem RdSt.far {w w' : World} {R : Nat} {S D : Nat → Prop} {ws : List Qm.W} (h : RdSt w R S ws) (hf : Far D w w') (hR : ¬ D R) (hS : ∀ k, S k → k < w.heap.size ∧ ¬ D k) : RdSt w' R S ws := by
 obtain ⟨A, c, h1, h2, h3, h4, h5⟩ := h
 exact ⟨A, c, hf.whole h1 hR, h2, h3, h4.keep fun _ hp => hf.cell (hS _ hp).1 (hS _ hp).2, h5⟩
theorem RdSt.lt {w : World} {R : Nat} {S : Nat → Prop} {ws : List Qm.W} (h : RdSt w R S ws) : R < w.heap.size := by
 obtain ⟨A, c, h1, _⟩ := h; exact h1.lt

def NextPost (w : World) (R : Nat) (S : Nat → Prop) (ws : List Qm.W) (e : Ending) (w' : World) : Prop :=
 e = .returned (.string ⟨(ws.headD []).toArray⟩) ∧ RdSt w' R S ws.tail ∧ Far (fun i => i = R) w w' ∧ w'.heap.size = w.heap.size
set_option maxHeartbeats 1600000 in
theorem next_any (R : Nat) (S : Nat → Prop) (ws : List Qm.W) (w : World) (h : RdSt w R S ws) :
  Calls Tryz.prog 147 #[.pointer (some ⟨R, 0, none⟩)] w (NextPost w R S ws) := by
 obtain ⟨A, c, hw, hc1, hc2, hr, hS⟩ := h
 have HW := qh hw; have HR := qh hr; have HS := qh hS
 have g0 := hw.cell 0
 have f0 := hw.free 0
 simp only [List.getElem?_cons_zero] at g0
 unfold maxLen at hc2
 cases ws with
 | nil =>
  clear hw hr hS
  simp only [List.length_nil] at g0
  go_enter Tryz.func147, Tryz.ntmps147
  go_wp2
  go_ret
  exact ⟨rfl, ⟨A, c, HW.out, hc1, by unfold maxLen; omega, HR.out, HS.out⟩, Far.refl _ _, rfl⟩
 | cons a r =>
  obtain ⟨b, o, rfl, hb⟩ := hr.some_lit (by simp)
  have hcell := (hr.2 (by simp))
  obtain ⟨b', o', e, _, hcell⟩ := hcell
  injection e with e; injection e with e1 e2
  subst e1 e2
  have k0 := hcell 0 (by simp)
  simp only [Nat.add_zero, strs, List.map_cons, List.getElem?_cons_zero] at k0
  clear hcell
  have hl : (a :: r).length = r.length + 1 := rfl
  rw [hl] at g0 hc1
  have hdrop := hr.drop (k := 1) (cap := c) (by simp) hc1
  have Hdrop := qh hdrop
  clear hw hr hS hdrop hl
  by_cases c1 : c = 1
  ·subst c1
   go_enter Tryz.func147, Tryz.ntmps147
   go_wp2
   go_ret
   obtain rfl : r = [] := List.eq_nil_of_length_eq_zero (by omega)
   refine ⟨rfl, ⟨some ⟨b, o, none⟩, 0, HW.out.set_ 0 _, qr _, by unfold maxLen; omega, ?_, HS.out⟩, Far.set_ (D := fun i => i = R) rfl 0 _, by simp [World.setCell]⟩
   have hd := Hdrop.out
   simp only [if_true] at hd
   exact hd.keep fun p hp => World.cell?_setCell_other _ _ _ _ (fun e => HS.out (by rw [← e] at hp; exact hp))
  ·have h2 : 2 ≤ c := by omega
   go_enter Tryz.func147, Tryz.ntmps147
   go_wp2
   go_ret
   refine ⟨rfl, ⟨some ⟨b, o + 1, none⟩, c - 1, HW.out.set_ 0 _, by simp only [List.tail_cons]; omega, by unfold maxLen; omega, ?_, HS.out⟩, Far.set_ (D := fun i => i = R) rfl 0 _, by simp [World.setCell]⟩
   have hd := Hdrop.out
   rw [if_neg (by omega)] at hd
   exact hd.keep fun p hp => World.cell?_setCell_other _ _ _ _ (fun e => HS.out (by rw [← e] at hp; exact hp))
end
/- Words in memory, as strings. -/
section
open Go.RowKit Qm

def bas (ws : List Qm.W) : List ByteArray := ws.map fun l => ⟨l.toArray⟩
theorem strs_cell {w : World} {S : Nat → Prop} {b o : Nat} {ws : List Qm.W} (h : Row w S (some ⟨b, o, none⟩) ws.length (strs ws)) : ∀ j, j < (bas ws).length → w.cell? ⟨b, o + j, none⟩ = some (.string ((bas ws).getD j ByteArray.empty)) := by
 intro j hj
 have hj' : j < ws.length := by simpa [bas] using hj
 obtain ⟨b', o', e, _, hc⟩ := h.at_ hj'
 injection e with e; injection e with e1 e2
 subst e1 e2
 rw [hc]
 simp only [strs, bas, List.getElem?_map, List.getD_eq_getElem?_getD, List.getElem?_eq_getElem hj', Option.map_some, Option.getD_some]
end
/- slices.Index of words. (Of the shelf: Tryz.slices_Index_string Tryz.slices_Index_string_empty) -/
section
open Go.RowKit Qm

def ixI : Option Nat → Int
 | some k => (k : Int)
 | none => -1
theorem idxFrom_ix (x : Qm.W) : ∀ (fs : List Qm.W) (i : Nat), Lib.idxFromS (bas fs) ⟨x.toArray⟩ i = ixI ((ixOf x fs).map (· + i))
 | [], i => rfl
 | f :: r, i => by
  have ih := idxFrom_ix x r (i + 1)
  have hb : bas (f :: r) = ⟨f.toArray⟩ :: bas r := rfl
  rw [hb]
  have he : ((⟨f.toArray⟩ : ByteArray) = ⟨x.toArray⟩) ↔ f = x := by
   constructor
   ·intro h; have := congrArg (·.data.toList) h; simpa using this
   ·rintro rfl; rfl
  unfold Lib.idxFromS
  simp only [ixOf]
  by_cases hf : f = x
  ·rw [if_pos hf, if_pos (he.2 hf)]
   simp [ixI]
  ·rw [if_neg hf, if_neg (fun h => hf (he.1 h)), ih]
   cases ixOf x r with
   | none => rfl
   | some k => simp [ixI]; omega
theorem indexS_any (A : Option Addr) (n c : Nat) (fs : List Qm.W) (x : Qm.W) (w : World) (S : Nat → Prop) (h : Row w S A n (strs fs)) (hn : n ≤ maxLen) :
  Calls Tryz.prog 80 #[.slice A n c, .string ⟨x.toArray⟩] w fun e w' => e = .returned (.int .i64 (ixI (ixOf x fs))) ∧ w' = w := by
 have hl : fs.length = n := by have := h.len; simpa [strs] using this
 unfold maxLen at hn
 have hx : Lib.idxOfS (bas fs) ⟨x.toArray⟩ = ixI (ixOf x fs) := by
  unfold Lib.idxOfS; rw [idxFrom_ix]; cases ixOf x fs <;> rfl
 by_cases h0 : n = 0
 ·subst h0
  obtain rfl := List.eq_nil_of_length_eq_zero hl
  exact (Tryz.slices_Index_string_empty A c ⟨x.toArray⟩ w).mono fun e w' ⟨he, hw⟩ => ⟨he.trans (by rw [show Lib.idxOfS [] ⟨x.toArray⟩ = ixI (ixOf x []) from hx]), hw⟩
 ·obtain ⟨b, o, rfl, _⟩ := h.some_lit (by omega)
  refine (Tryz.slices_Index_string b o n c (bas fs) ⟨x.toArray⟩ w (by simp [bas, hl]) (by omega) (strs_cell (by rw [hl]; exact h))).mono fun e w' ⟨he, hw⟩ => ⟨?_, hw⟩
  rw [he, List.take_of_length_le (by simp [bas, hl]), hx]
end
/- tree.before, walked. -/
section
open Go.RowKit Qm

set_option maxHeartbeats 1600000 in
theorem before_any (p p' : Pk) (A A' : Option Addr) (n c n' c' : Nat) (k k' : Int) (a a' : At) (f f' : Qm.W) (no no' : Bool) (D D' : Option Addr) (q d q' d' : Nat) (w : World) :
  Calls Tryz.prog 111 #[.agg (pkRow p A n c (ndRow k a f no D q d)).toArray, .agg (pkRow p' A' n' c' (ndRow k' a' f' no' D' q' d')).toArray] w fun e w' =>
   e = .returned (.bool (beforeP p p')) ∧ Below w.heap.size w w' := by
 unfold pkRow ndRow
 have HR : Hid (beforeP p p' = (decide (p.nm < p'.nm) || (decide (p.nm = p'.nm) && decide (p.ver < p'.ver)))) := qh rfl
 generalize beforeP p p' = R at HR ⊢
 obtain ⟨nm, ver, slot, fs, nd⟩ := p
 obtain ⟨nm', ver', slot', fs', nd'⟩ := p'
 have hb := bytesLess_eq nm nm'
 dsimp only at HR hb ⊢
 by_cases h1 : nm < nm'
 ·rw [decide_eq_true h1] at hb
  have H1 := qh h1; clear h1
  go_enter Tryz.func111, Tryz.ntmps111
  go_wp2
  go_ret
  exact ⟨ret_bool (by rw [HR.out, decide_eq_true H1.out]; rfl), ((Below.refl _ w).alloc (qr _) _).alloc (by simp) _⟩
 ·rw [decide_eq_false h1] at hb
  have H1 := qh h1; clear h1
  by_cases h2 : nm = nm'
  ·subst h2
   by_cases h3 : ver < ver'
   ·go_enter Tryz.func111, Tryz.ntmps111
    go_wp2
    go_ret
    exact ⟨ret_bool (by rw [HR.out, decide_eq_false H1.out, decide_eq_true h3]; simp), ((Below.refl _ w).alloc (qr _) _).alloc (by simp) _⟩
   ·go_enter Tryz.func111, Tryz.ntmps111
    go_wp2
    go_ret
    exact ⟨ret_bool (by rw [HR.out, decide_eq_false H1.out, decide_eq_false (Int.not_lt.2 h3)]; simp), ((Below.refl _ w).alloc (qr _) _).alloc (by simp) _⟩
  ·have H2 := qh h2
   have h2' : (nm == nm') = false := by simpa using h2
   clear h2
   go_enter Tryz.func111, Tryz.ntmps111
   go_wp2
   go_ret
   exact ⟨ret_bool (by rw [HR.out, decide_eq_false H1.out, decide_eq_false H2.out]; rfl), ((Below.refl _ w).alloc (qr _) _).alloc (by simp) _⟩
end
/- slices.Contains of words. -/
section
open Go.RowKit Qm

theorem containsS_any (A : Option Addr) (n c : Nat) (fs : List Qm.W) (x : Qm.W) (w : World) (S : Nat → Prop) (h : Row w S A n (strs fs)) (hn : n ≤ maxLen) :
  Calls Tryz.prog 92 #[.slice A n c, .string ⟨x.toArray⟩] w fun e w' => e = .returned (.bool (fs.contains x)) ∧ w' = w := by
 have hl : fs.length = n := by have := h.len; simpa [strs] using this
 unfold maxLen at hn
 by_cases h0 : n = 0
 ·subst h0
  obtain rfl := List.eq_nil_of_length_eq_zero hl
  exact (Tryz.slices_Contains_string_empty A c ⟨x.toArray⟩ w).mono fun e w' ⟨he, hw⟩ => ⟨by simpa using he, hw⟩
 ·obtain ⟨b, o, rfl, _⟩ := h.some_lit (by omega)
  refine (Tryz.slices_Contains_string b o n c (bas fs) ⟨x.toArray⟩ w (by simp [bas, hl]) (by omega) (strs_cell (by rw [hl]; exact h))).mono fun e w' ⟨he, hw⟩ => ⟨?_, hw⟩
  rw [he, List.take_of_length_le (by simp [bas, hl])]
  congr 2
  rw [Bool.eq_iff_iff, Lib.containsS_iff, List.contains_iff_mem]
  unfold bas
  rw [List.mem_map]
  constructor
  ·rintro ⟨y, hy, e⟩
   have := congrArg (·.data.toList) e
   simp only at this
   rwa [← show y = x from this]
  ·intro hx; exact ⟨x, hx, rfl⟩
end
end Go.Proofs.YtedbhlgjcnnknaaGreatDoor
