/- Parts of the proof: walks and plain laws, side by side. -/
import Derived.Test.YtedbhlgjcnnknaaGreatDoorM10
import Derived.Test.YtedbhlgjcnnknaaGreatDoorM6
import Derived.Test.YtedbhlgjcnnknaaGreatDoorShelf
import Derived.Test.YtedbhlgjcnnknaaGreatDoorM2
import Derived.WalkLawsBesides
import Derived.Sort.Walk0
import Derived.Lib.AppendIntMem
import Derived.Lib.OthersKept
import Derived.Lib.DecodeN
import Derived.Laws.Runes
import Derived.WalkMore
import Derived.IntWalk
import Derived.Lib.TrimUEq
set_option linter.unusedVariables false
set_option linter.unusedSimpArgs false
set_option linter.unusedSectionVars false
/- (*desk).add, walked. -/
namespace Go.Proofs.YtedbhlgjcnnknaaGreatDoor
open Go.RowKit Qm

def Cv (v : Value) (k : Nat) : Prop := v.ownBlock = some k
section
variable {q : Dp} {E Sc : Nat → Prop} {mp : Nat} {d : Dk} {w w1 : World}
theorem Desk.reown {e : TypeId} {base n n' : Nat} {v v' : Value} {vs vs' : List Value} {o : Obj} (h : Desk q (fun k => E k ∨ Cv v k) mp d w) (ho : w.ownsRow base e 1 v n vs) (ho' : w1.ownsRow base e 1 v' n' vs') (hb : q.base ≤ base) (hg : (w.alloc o).grownBy w1 v.ownBlock)
  (hv : v'.ownBlock = v.ownBlock ∨ v'.ownBlock = some (w.alloc o).heap.size) (hE : ∀ k, Cv v k → ¬ E k) : Desk q (fun k => E k ∨ Cv v' k) mp d w1 ∧ Fd q E w w1 ∧ ∀ k, Cv v' k → ¬ E k := by
 have hal : Below w.heap.size w (w.alloc o) := (Below.refl _ w).alloc (Nat.le_refl _) _
 have far : Far (fun i => Cv v i) w w1 := (Far.of_below _ hal).trans (Far.of_grown hg fun i h => h.symm) fun _ _ h => h
 have hnew : ∀ i, i < w.heap.size → Cv v' i → Cv v i := fun i hi y => by
  rcases hv with hv | hv
  ·exact hv.symm.trans y
  ·unfold Cv at y
   rw [hv] at y
   injection y with y
   simp at y
   omega
 obtain ⟨P, hs, H⟩ := h
 refine ⟨⟨P, hs, H.turn far (fun i _ x => .inr x) (fun i x hi => x.elim .inl fun y => .inr (hnew i hi y)) fun i x => x.elim (fun y => ?_) fun y => ?_⟩, ?_, fun k y hk => ?_⟩
 ·have := H.e i (.inl y); exact ⟨this.1, Nat.lt_of_lt_of_le this.2 far.size⟩
 ·have := ho'.lt i y; exact ⟨Nat.le_trans hb this.1, this.2⟩
 ·exact far.mono fun i x => ⟨(H.e i (.inr x)).1, hE i x⟩
 ·have := (H.e k (.inl hk)).2
  exact hE k (hnew k this y) hk
theorem DeskP.grow {P P' : Value} {hs : List (Option Addr × Nat × Nat)} {A : Option Addr} {n c : Nat} {xs : List Int} {o : Obj} (h : DeskP q (fun k => E k ∨ Sc k) P hs mp d w) (hr : RInts w Sc A n xs) (hn : n ≤ c ∧ c ≤ maxLen) (hE : ∀ k, Sc k → ¬ E k)
  (ho' : w1.ownsRow q.base 117 1 P' (d.cls.length + 1) (hs.map hd ++ [.slice A n c])) (hg : (w.alloc o).grownBy w1 P.ownBlock) (hv : P'.ownBlock = P.ownBlock ∨ P'.ownBlock = some (w.alloc o).heap.size) :
  Desk q E mp (addD d xs) (w1.setCell ⟨q.b, 4, none⟩ P') ∧ Fd q (fun k => E k ∨ Sc k) w (w1.setCell ⟨q.b, 4, none⟩ P') := by
 have hal : Below w.heap.size w (w.alloc o) := (Below.refl _ w).alloc (Nat.le_refl _) _
 have far : Far (fun i => P.ownBlock = some i) w w1 := (Far.of_below _ hal).trans (Far.of_grown hg fun i h => h.symm) fun _ _ h => h
 have hfs : Far (fun i => i = q.b) w1 (w1.setCell ⟨q.b, 4, none⟩ P') := Far.set_ (D := fun i => i = q.b) rfl 4 _
 have F : Far (fun i => i = q.b ∨ P.ownBlock = some i) w (w1.setCell ⟨q.b, 4, none⟩ P') := (far.mono fun i x => .inr x).trans hfs fun i _ x => .inl x
 have hP'b : P'.ownBlock ≠ some q.b := by
  rcases hv with hv | hv
  ·rw [hv]; exact h.pb
  ·rw [hv]; intro e; injection e with e; have := h.blk.lt; simp at e; omega
 have hP'm : P'.ownBlock ≠ some q.mb := by
  rcases hv with hv | hv
  ·rw [hv]; exact h.pm
  ·rw [hv]; intro e; injection e with e; have := h.pair.lt; simp at e; omega
 have hnew : ∀ i, i < w.heap.size → P'.ownBlock = some i → P.ownBlock = some i := fun i hi y => by
  rcases hv with hv | hv
  ·exact hv.symm.trans y
  ·rw [hv] at y
   injection y with y
   simp at y
   omega
 have hown : ∀ k, OwnD q.base q.b q.mb P (fun k => E k ∨ Sc k) w.heap.size k → OwnD q.base q.b q.mb P' E (w1.setCell ⟨q.b, 4, none⟩ P').heap.size k := fun k hk =>
  ⟨hk.1, Nat.lt_of_lt_of_le hk.2.1 F.size, hk.2.2.1, hk.2.2.2.1, fun e => hk.2.2.2.2.1 (hnew k hk.2.1 e), fun e => hk.2.2.2.2.2 (.inl e)⟩
 have hsc : ∀ k, Sc k → OwnD q.base q.b q.mb P' E (w1.setCell ⟨q.b, 4, none⟩ P').heap.size k := fun k hk => by
  have := h.e k (.inr hk)
  refine ⟨this.1, Nat.lt_of_lt_of_le this.2 F.size, fun e => h.bb.2 (.inr (e ▸ hk)), fun e => h.bm.2 (.inr (e ▸ hk)), fun e => h.bp k (hnew k this.2 e) (.inr hk), hE k hk⟩
 have hnd : ∀ k, OwnD q.base q.b q.mb P (fun k => E k ∨ Sc k) w.heap.size k → k < w.heap.size ∧ ¬ (k = q.b ∨ P.ownBlock = some k) := fun k hk => ⟨hk.2.1, fun e => e.elim hk.2.2.1 hk.2.2.2.2.1⟩
 have hscn : ∀ k, Sc k → k < w.heap.size ∧ ¬ (k = q.b ∨ P.ownBlock = some k) := fun k hk => ⟨(h.e k (.inr hk)).2, fun e => e.elim (fun e => h.bb.2 (.inr (e ▸ hk))) fun e => h.bp k e (.inr hk)⟩
 refine ⟨⟨P', hs ++ [(A, n, c)], ?_, ?_, ?_, ?_, ?_, h.s0, ?_, ?_, ?_, ?_, ?_, h.caps⟩, ?_⟩
 ·exact (far.whole h.blk h.pb).set_ 4 P'
 ·have h2 := hfs.own ho' fun g hg e => hP'b (by rw [hg, e])
  have e1 : (addD d xs).cls.length = d.cls.length + 1 := by unfold addD; simp
  have e2 : (hs ++ [(A, n, c)]).map hd = hs.map hd ++ [.slice A n c] := by rw [List.map_append]; rfl
  rw [e1, e2]; exact h2
 ·exact ((F.heads' h.heads hnd).more hown).append ((Heads.one (F.ints hr hscn) hn).more hsc)
 ·exact h.pair.block (F.block _ h.pair.lt fun e => e.elim (fun e => h.ne e.symm) fun e => h.pm e)
 ·exact h.st.keep fun p hp => by
   rcases hp with hp | hp
   ·have h0 := h.s0 _ hp
    refine F.cell (Nat.lt_of_lt_of_le h0 h.base_) fun e => e.elim (fun e => ?_) fun e => ?_
    ·have := h.bb.1; omega
    ·have := (h.own.lt _ e).1; omega
   ·exact F.cell (h.s1 _ hp).2.1 (hnd _ (h.s1 _ hp)).2
 ·exact fun k hk => hown k (h.s1 k hk)
 ·exact ⟨h.bb.1, fun e => h.bb.2 (.inl e)⟩
 ·exact ⟨h.bm.1, fun e => h.bm.2 (.inl e)⟩
 ·intro g hg e
  have := (h.e g (.inl e)).2
  exact h.bp g (hnew g this hg) (.inl e)
 ·exact fun k hk => ⟨(h.e k (.inl hk)).1, Nat.lt_of_lt_of_le (h.e k (.inl hk)).2 F.size⟩
 ·exact F.mono fun i x => x.elim (fun x => by rw [x]; exact h.bb) fun x => ⟨(h.own.lt i x).1, h.bp i x⟩
end
theorem clause_infoE : (Tryz.prog.info? 117).map (fun i => (i.zero, i.size, i.bytes)) = some (some (.slice none 0 0), 1, 24) := by kernel_rfl
set_option maxRecDepth 100000 in
set_option maxHeartbeats 4000000 in
theorem dadd_any (q : Dp) (E Sc : Nat → Prop) (mp : Nat) (d : Dk) (A' : Option Addr) (n' c' : Nat) (xs : List Int) (w : World) (hD : Desk q (fun k => E k ∨ Sc k) mp d w) (hr : RInts w Sc A' n' xs) (hn : n' ≤ c' ∧ c' ≤ maxLen) (hE : ∀ k, Sc k → ¬ E k) (hcl : d.cls.length ≤ 100000) :
  Calls Tryz.prog 45 #[.pointer (some ⟨q.b, 0, none⟩), .slice A' n' c'] w fun e w' => e = .returned (.tuple #[]) ∧ Desk q E mp (addD d xs) w' ∧ Fd q (fun k => E k ∨ Sc k) w w' := by
 obtain ⟨i0, hi, hz0, hz1, hz2⟩ := info_parts clause_infoE
 have Hi := Lib.hid hi; have Hz0 := Lib.hid hz0; have Hz1 := Lib.hid hz1; have Hz2 := Lib.hid hz2
 obtain ⟨P, hs, H0⟩ := hD
 obtain ⟨PA, Pc, rfl, _, _, _⟩ := own_form H0.own
 have H := Lib.hid H0; have Hr := Lib.hid hr; have HE := Lib.hid hE; have Hn := Lib.hid hn
 have c4 := H0.blk.cell 4
 have f4 := H0.blk.free 4
 have hbw := H0.blk.lt
 simp only [qgz, qgs] at c4
 obtain ⟨N, hN⟩ : ∃ N, N = d.cls.length := ⟨_, rfl⟩
 rw [← hN] at c4 hcl
 have HN := Lib.hid hN
 have HO : Hid (w.ownsRow q.base 117 1 (.slice PA N Pc) N (hs.map hd)) := Lib.hid (by rw [HN.out]; exact H0.own)
 have hn2 := hn.2
 have hbs := H0.base_
 unfold maxLen at hn2
 clear hi hz0 hz1 hz2 H0 hr hE hn hN
 go_enter Tryz.func45, Tryz.ntmps45
 go_wp2_with (at_builtin; refine wpList_append_own_at _ rfl _ _ 31 rfl q.base 117 i0 (.slice none 0 0) 1 24 Tryz.underlying31 Hi.out Hz0.out Hz1.out Hz2.out rfl (by decide) _ _ _ rfl (HO.out.alloc _) ⟨w.heap.size, 0, none⟩ 1 1 [.slice A' n' c'] rfl rfl ?d1 ?d2 ?d3 ?d4 ?d5 ?_)
 case d1 => exact cell_one_new _ _ _
 case d2 => simp [Value.oneCell']
 case d3 => unfold maxLen; omega
 case d4 => omega
 case d5 => simp; omega
 intro P' w1 hown1 hg1 _ hat
 obtain ⟨A6, c6, rfl, _, _, _⟩ := own_form hown1
 have hpne : q.b ≠ w.heap.size := by omega
 have HB1 : Hid (Whole w1 q.b 95 [.slice q.A q.n q.c, .slice q.pA q.n q.pc, .slice q.oA q.n q.oc, .int .i64 (d.vars : Int), .slice PA d.cls.length Pc, .map (some q.mb)]) := Lib.hid (Whole.grown (H.out.blk.alloc _) hg1 fun e => H.out.pb (by rw [← HN.out]; exact e.symm))
 have d4 := HB1.out.cell 4
 have g4 := HB1.out.free 4
 have hbw1 := HB1.out.lt
 simp only [qgz, qgs] at d4
 have HF : Hid _ := Lib.hid (DeskP.grow (P' := .slice A6 (N + 1) c6) H.out Hr.out Hn.out HE.out (by rw [← HN.out]; exact hown1) (by rw [← HN.out]; exact hg1) (by rw [← HN.out]; simpa using hat))
 clear hown1 hg1 hat c4 f4 hpne
 go_wp2
 exact bodyPost_end (results_none rfl _ _ _) rfl ⟨rfl, HF.out.1, HF.out.2⟩
end Go.Proofs.YtedbhlgjcnnknaaGreatDoor

/- (*desk).both, (*desk).one, walked. -/
namespace Go.Proofs.YtedbhlgjcnnknaaGreatDoor
open Go.RowKit Qm

theorem own_made1 {w : World} {base : Nat} {e : TypeId} {x : Value} (hb : base ≤ w.heap.size) : (w.alloc (.cells #[x] e)).ownsRow base e 1 (.slice (some ⟨w.heap.size, 0, none⟩) 1 1) 1 [x] :=
 ⟨by simp, .inr ⟨w.heap.size, 1, #[x], rfl, hb, heap_alloc_new w _, Nat.le_refl _, by unfold maxLen; omega, rfl, by simp⟩⟩
section
variable {q : Dp} {E Sc : Nat → Prop} {mp : Nat} {d : Dk} {w w1 : World}
theorem Desk.vars (h : Desk q E mp d w) (v : Nat) : Desk q E mp { d with vars := v } (w.setCell ⟨q.b, 3, none⟩ (.int .i64 (v : Int))) ∧ Fd q E w (w.setCell ⟨q.b, 3, none⟩ (.int .i64 (v : Int))) := by
 obtain ⟨P, hs, h⟩ := h
 have F : Far (fun i => i = q.b) w (w.setCell ⟨q.b, 3, none⟩ (.int .i64 (v : Int))) := Far.set_ (D := fun i => i = q.b) rfl 3 _
 have hsz : ∀ k, OwnD q.base q.b q.mb P E w.heap.size k → OwnD q.base q.b q.mb P E (w.setCell ⟨q.b, 3, none⟩ (.int .i64 (v : Int))).heap.size k := fun k hk => hk.mono (fun _ h _ => h) F.size
 refine ⟨⟨P, hs, h.blk.set_ 3 _, F.own h.own fun g hg e => h.pb (by rw [hg, e]), (F.heads' h.heads fun k hk => ⟨hk.2.1, hk.2.2.1⟩).more hsz, h.pair.block (F.block _ h.pair.lt fun e => h.ne e.symm), h.st.keep fun p hp => ?_, h.s0, fun k hk => hsz k (h.s1 k hk), h.bb, h.bm, h.bp, fun k hk => ⟨(h.e k hk).1, Nat.lt_of_lt_of_le (h.e k hk).2 F.size⟩, h.caps⟩, F.mono fun i x => by rw [x]; exact h.bb⟩
 rcases hp with hp | hp
 ·have h0 := h.s0 _ hp
  have := h.bb.1
  exact F.cell (Nat.lt_of_lt_of_le h0 h.base_) fun e => by omega
 ·exact F.cell (h.s1 _ hp).2.1 (h.s1 _ hp).2.2.1
end
def bothTo (d : Dk) (xs : List Int) (k : Nat) : Dk := { d with vars := d.vars + 1, cls := d.cls ++ (xs.take k).map fun n => [-((d.vars : Int) + 1), n] }
def negs (v : Int) (xs : List Int) (k : Nat) : List Int := v :: (xs.take k).map Neg.neg
theorem bothTo_succ {d : Dk} {xs : List Int} {k : Nat} {x : Int} (h : k < xs.length) (hx : xs.getD k 0 = x) : addD (bothTo d xs k) [-((d.vars : Int) + 1), x] = bothTo d xs (k + 1) := by
 unfold addD bothTo
 rw [List.take_succ_eq_append_getElem h, List.map_append]
 rw [List.getD_eq_getElem?_getD, List.getElem?_eq_getElem h] at hx
 simp only [Option.getD_some] at hx
 simp [hx]
theorem negs_succ {v : Int} {xs : List Int} {k : Nat} {x : Int} (h : k < xs.length) (hx : xs.getD k 0 = x) : negs v xs (k + 1) = negs v xs k ++ [-x] := by
 unfold negs
 rw [List.take_succ_eq_append_getElem h, List.map_append]
 rw [List.getD_eq_getElem?_getD, List.getElem?_eq_getElem h] at hx
 simp only [Option.getD_some] at hx
 simp [hx]
theorem bothTo_all {d : Dk} {xs : List Int} (h : xs.length ≠ 1) : addD (bothTo d xs xs.length) (negs ((d.vars : Int) + 1) xs xs.length) = (bothD d xs).1 ∧ (bothD d xs).2 = (d.vars : Int) + 1 := by
 rcases bothD_cases d xs with ⟨x, rfl, _⟩ | ⟨_, e⟩
 ·simp at h
 ·rw [e]
  unfold addD bothTo negs gate
  simp
theorem bothTo_len {d : Dk} {xs : List Int} {k : Nat} (h : xs.length ≠ 1) : (bothTo d xs k).cls.length ≤ (bothD d xs).1.cls.length := by
 rcases bothD_cases d xs with ⟨x, rfl, _⟩ | ⟨_, e⟩
 ·simp at h
 ·rw [e]
  unfold bothTo
  simp only [List.length_append, List.length_map, List.length_take, gate_len]
  omega
theorem int_infoE : (Tryz.prog.info? 3).map (fun i => (i.zero, i.size, i.bytes)) = some (some (.int .i64 0), 1, 8) := by kernel_rfl
set_option maxRecDepth 100000 in
set_option maxHeartbeats 4000000 in
theorem dboth_any (q : Dp) (E Sl : Nat → Prop) (mp : Nat) (d : Dk) (A' : Option Addr) (n' c' : Nat) (xs : List Int) (w : World) (hD : Desk q E mp d w) (hr : RInts w Sl A' n' xs) (hSl : ∀ k, Sl k → k < w.heap.size ∧ (E k ∨ k < q.base)) (hn : n' ≤ c' ∧ c' ≤ maxLen) (h1k : n' ≤ 1000) (hl : LIn d xs) (hv : d.vars ≤ 100000) (hc : (bothD d xs).1.cls.length ≤ 100000) :
  Calls Tryz.prog 79 #[.pointer (some ⟨q.b, 0, none⟩), .slice A' n' c'] w fun e w' => e = .returned (.int .i64 (bothD d xs).2) ∧ Desk q E mp (bothD d xs).1 w' ∧ Fd q E w w' := by
 have hlen := hr.len
 by_cases h1 : n' = 1
 ·subst h1
  obtain ⟨b2, o2, rfl, hb2, hc2⟩ := hr.at_ (k := 0) (by omega)
  obtain ⟨x, rfl⟩ : ∃ x, xs = [x] := by
   match xs, hlen with
   | [x], _ => exact ⟨x, rfl⟩
  simp only [List.getD_cons_zero, Nat.add_zero] at hc2
  have HD := Lib.hid hD
  clear hD hr hSl hl hc hlen hv
  go_enter Tryz.func79, Tryz.ntmps79
  go_wp2
  go_ret
  exact ⟨rfl, HD.out, Fd.refl _ _ _⟩
 have hx1 : xs.length ≠ 1 := by omega
 have HX1 := Lib.hid hx1
 have hn1 : (n' : Int) ≠ 1 := by omega
 have hn2 : ((n' : Int) == 1) = false := by simpa using hn1
 obtain ⟨i0, hi0, hz0, hz1, hz2⟩ := info_parts int_infoE
 have Hi := Lib.hid hi0; have Hz0 := Lib.hid hz0; have Hz1 := Lib.hid hz1; have Hz2 := Lib.hid hz2
 have HD := Lib.hid hD; have HR := Lib.hid hr; have HSl := Lib.hid hSl; have HL := Lib.hid hl; have HC := Lib.hid hc; have HLen := Lib.hid hlen; have Hn := Lib.hid hn
 have hqb := hD.base_
 obtain ⟨v, hvv⟩ : ∃ v : Nat, v = d.vars := ⟨_, rfl⟩
 have HV := Lib.hid hvv
 obtain ⟨P, hs, H0⟩ := hD
 have c3 := H0.blk.cell 3
 have f3 := H0.blk.free 3
 have hbw := H0.blk.lt
 simp only [qgz, qgs] at c3
 rw [← hvv] at c3 hv
 have hwv : (Lit.int .i64 ((v : Int) + 1)).wf = true := wf_of (by omega) (by omega)
 obtain ⟨hD1, hF1⟩ := HD.out.vars (v + 1)
 have HD1 := Lib.hid hD1; have HF1 := Lib.hid hF1
 clear hi0 hz0 hz1 hz2 H0 hr hSl hl hc hn hx1 hlen hn1 hvv hD1 hF1 h1
 go_enter Tryz.func79, Tryz.ntmps79
 go_wp2
 have hown0 : ((w.setCell ⟨q.b, 3, none⟩ (.int .i64 ((v : Int) + 1))).alloc (.cells #[.int .i64 ((v : Int) + 1)] 3)).ownsRow w.heap.size 3 1 (.slice (some ⟨w.heap.size, 0, none⟩) 1 1) 1 [.int .i64 ((v : Int) + 1)] := by
  have := own_made1 (w := w.setCell ⟨q.b, 3, none⟩ (.int .i64 ((v : Int) + 1))) (base := w.heap.size) (e := 3) (x := .int .i64 ((v : Int) + 1)) (by simp)
  simpa using this
 have hal0 : Below (w.setCell ⟨q.b, 3, none⟩ (.int .i64 ((v : Int) + 1))).heap.size (w.setCell ⟨q.b, 3, none⟩ (.int .i64 ((v : Int) + 1))) ((w.setCell ⟨q.b, 3, none⟩ (.int .i64 ((v : Int) + 1))).alloc (.cells #[.int .i64 ((v : Int) + 1)] 3)) := (Below.refl _ _).alloc (Nat.le_refl _) _
 have HO0 := Lib.hid hown0
 have HDK0 : Hid (Desk q (fun j => E j ∨ Cv (.slice (some ⟨w.heap.size, 0, none⟩) 1 1) j) mp (bothTo d xs 0) ((w.setCell ⟨q.b, 3, none⟩ (.int .i64 ((v : Int) + 1))).alloc (.cells #[.int .i64 ((v : Int) + 1)] 3))) := Lib.hid (by
  have h1 := HD1.out.aside hal0
  have e1 : bothTo d xs 0 = { d with vars := v + 1 } := by unfold bothTo; rw [HV.out]; simp
  rw [e1]
  refine h1.mono fun i hi => hi.imp id fun hi => ?_
  unfold Cv at hi
  simp only [Value.ownBlock] at hi
  injection hi with hi
  subst hi
  simp)
 have HF0 : Hid (Fd q E w ((w.setCell ⟨q.b, 3, none⟩ (.int .i64 ((v : Int) + 1))).alloc (.cells #[.int .i64 ((v : Int) + 1)] 3))) := Lib.hid (HF1.out.trans (Fd.of_below q E hal0) fun _ _ h => h)
 have HN0 : Hid (∀ j, Cv (.slice (some ⟨w.heap.size, 0, none⟩) 1 1) j → ¬ E j) := Lib.hid fun j hj he => by
  have := (HD.out.e j he).2
  unfold Cv at hj
  simp only [Value.ownBlock] at hj
  injection hj with hj
  omega
 clear hown0 hal0 c3 f3 hbw
 generalize (w.setCell ⟨q.b, 3, none⟩ (.int .i64 ((v : Int) + 1))).alloc (.cells #[.int .i64 ((v : Int) + 1)] 3) = w0 at *
 go_loopg [6, 33] n' (fun g cv iv wr => ∃ (k : Nat), Hid (k + g = n') ∧ iv = .int .i64 k ∧ Hid (wr.ownsRow w.heap.size 3 1 cv (k + 1) ((negs ((v : Int) + 1) xs k).map (.int .i64))) ∧ Hid (Desk q (fun j => E j ∨ Cv cv j) mp (bothTo d xs k) wr) ∧ Hid (Fd q E w wr) ∧ Hid (∀ j, Cv cv j → ¬ E j))
 case atStart => exact ⟨0, Lib.hid (Nat.zero_add _), rfl, HO0, HDK0, HF0, HN0⟩
 case round =>
  obtain ⟨k, Hk, rfl, HO, HK, HFr, HN⟩ := hrel
  obtain ⟨CA, cc, rfl, hc1, hc2, hcrow⟩ := own_form HO.out
  by_cases hk : k < n'
  ·have hsz := HFr.out.size
   obtain ⟨b2, o2, rfl, hb2, hcell⟩ := (HFr.out.ints HR.out HSl.out).at_ hk
   have hlk : k < xs.length := by rw [HLen.out]; exact hk
   have hmem : xs.getD k 0 ∈ xs := by rw [List.getD_eq_getElem?_getD, List.getElem?_eq_getElem hlk]; exact List.getElem_mem hlk
   have hxb := HL.out _ hmem
   generalize hx : xs.getD k 0 = x at hcell hxb
   have hb3 : b2 < wr.heap.size := Nat.lt_of_lt_of_le (HSl.out _ hb2).1 hsz
   have hv1 : v = d.vars := HV.out
   have hxb2 : -200000 ≤ x ∧ x ≤ 200000 := by omega
   have Hst := Lib.hid (bothTo_succ (d := d) hlk hx)
   have Hng := Lib.hid (negs_succ (v := (v : Int) + 1) hlk hx)
   have hal : Below wr.heap.size wr (wr.alloc (.cells #[.int .i64 (-((v : Int) + 1)), .int .i64 x] 3)) := (Below.refl _ wr).alloc (Nat.le_refl _) _
   have HW := Lib.hid (Whole.new wr wr.heap.size 3 [.int .i64 (-((v : Int) + 1)), .int .i64 x] rfl)
   have HA := Lib.hid (dadd_any q (fun j => E j ∨ Cv (.slice CA (k + 1) cc) j) (fun j => j = wr.heap.size) mp (bothTo d xs k) (some ⟨wr.heap.size, 0, none⟩) 2 2 [-((v : Int) + 1), x] (wr.alloc (.cells #[.int .i64 (-((v : Int) + 1)), .int .i64 x] 3))
    ((HK.out.aside hal).mono fun i hi => hi.imp id fun hi => by subst hi; simp) (Whole.ints (S := fun j => j = wr.heap.size) (xs := [-((v : Int) + 1), x]) HW.out rfl rfl) ⟨Nat.le_refl _, by unfold maxLen; omega⟩ (fun j hj he => by subst hj; have := (HK.out.e _ he).2; omega) (Nat.le_trans (bothTo_len HX1.out) HC.out))
   clear hx hmem hlk hv1 hxb HD1 HF1 HDK0 HF0 HO0 HN0
   go_wp2_with (first | (go_at_call 45; refine HA.out.mono ?_; rintro e w3 ⟨rfl, hd3, hf3⟩; refine Hid.out ?_))
   refine Lib.hid ?_
   have HO3 := Lib.hid (hf3.own (HO.out.alloc _) fun g hg => .inl (.inr hg))
   have HD3 := Lib.hid hd3
   have HF3 : Hid (Fd q E w w3) := Lib.hid ((HFr.out.trans (Fd.of_below q E hal) fun _ _ h => h).trans hf3 fun i _ h => .inl (.inl h))
   have hb0 := HF3.out.size
   clear hd3 hf3 HA HW
   go_wp2_with (at_builtin; refine wpList_append_own_at _ rfl _ _ 117 rfl w.heap.size 3 i0 (.int .i64 0) 1 8 Tryz.underlying117 Hi.out Hz0.out Hz1.out Hz2.out rfl (by decide) _ _ _ rfl (HO3.out.alloc _) ⟨w3.heap.size, 0, none⟩ 1 1 [.int .i64 (-x)] rfl rfl ?d1 ?d2 ?d3 ?d4 ?d5 ?_)
   case d1 => exact cell_one_new _ _ _
   case d2 => simp [Value.oneCell']
   case d3 => unfold maxLen; omega
   case d4 => omega
   case d5 => simp; omega
   intro cv' w4 hown4 hg4 _ hat4
   have HR4 := Lib.hid (Desk.reown HD3.out HO3.out hown4 hqb hg4 (by simpa using hat4) HN.out)
   have HO4 : Hid (w4.ownsRow w.heap.size 3 1 cv' (k + 1 + 1) ((negs ((v : Int) + 1) xs (k + 1)).map (.int .i64))) := Lib.hid (by rw [Hng.out, List.map_append]; exact hown4)
   clear hown4 hg4 hat4
   go_wp2
   go_roundg (gk - 1)
   case measure => have := Hk.out; omega
   case rel => exact ⟨k + 1, Lib.hid (by have := Hk.out; omega), by go_num, HO4, Lib.hid (by rw [← Hst.out, ← HV.out]; exact HR4.out.1), Lib.hid (HF3.out.trans HR4.out.2.1 fun _ _ h => h), Lib.hid HR4.out.2.2⟩
  ·obtain rfl : n' = k := by have := Hk.out; omega
   obtain ⟨Cx, cx, hcv, hcx1, hcx2, hrow⟩ := own_formK HO.out
   rw [Nat.mul_one] at hrow
   obtain ⟨rfl, rfl⟩ : CA = Cx ∧ cc = cx := by injection hcv with h1 h2 h3; exact ⟨h1, h3⟩
   have HA := Lib.hid (dadd_any q E (Cv (.slice CA (n' + 1) cc)) mp (bothTo d xs n') CA (n' + 1) cc (negs ((v : Int) + 1) xs n') wr HK.out hrow ⟨hc1, hc2⟩ HN.out (Nat.le_trans (bothTo_len HX1.out) HC.out))
   have HE : Hid (addD (bothTo d xs n') (negs ((v : Int) + 1) xs n') = (bothD d xs).1 ∧ (bothD d xs).2 = (v : Int) + 1) := Lib.hid (by
    have := bothTo_all (d := d) HX1.out
    rw [HLen.out, ← HV.out] at this; exact this)
   clear hcv hrow HD1 HF1 HDK0 HF0 HO0 HN0
   go_wp2_with (first | (go_at_call 45; refine HA.out.mono ?_; rintro e w3 ⟨rfl, hd3, hf3⟩; refine Hid.out ?_))
   refine Lib.hid ?_
   have HD3 := Lib.hid hd3
   have HF3 : Hid (Fd q E w w3) := Lib.hid (HFr.out.trans hf3 fun i _ h => .inl h)
   clear hd3 hf3 HA
   go_wp2
   go_ret
   exact ⟨by rw [HE.out.2]; rfl, by rw [← HE.out.1]; exact HD3.out, HF3.out⟩
end Go.Proofs.YtedbhlgjcnnknaaGreatDoor

/- need.Print, the reader's next, walked. (Of the shelf: Tryz.strings_HasSuffix Tryz.strings_Split Tryz.slices_Sort_string Tryz.slices_Sort_string_none Tryz.slices_Compact_string Tryz.slices_Compact_string_empty Tryz.slices_Equal_string Tryz.slices_Equal_string_lens Tryz.slices_Equal_string_empty) -/
namespace Go.Proofs.YtedbhlgjcnnknaaGreatDoor
open Go.RowKit Qm

theorem RNd.far {w w' : World} {S D : Nat → Prop} {x : List Value} {y : Nd} (h : RNd w S x y) (hf : Far D w w') (hS : ∀ k, S k → k < w.heap.size ∧ ¬ D k) : RNd w' S x y := h.keep fun _ hp => hf.cell (hS _ hp).1 (hS _ hp).2
def WordsLit (w : World) (y : Nd) (e : Ending) (w' : World) : Prop :=
 ∃ b o c, e = .returned (.slice (some ⟨b, o, none⟩) (wordsN y).length c) ∧ (wordsN y).length ≤ c ∧ Row w' (fun k => w.heap.size ≤ k ∧ k < w'.heap.size) (some ⟨b, o, none⟩) (wordsN y).length (strs (wordsN y)) ∧ Below w.heap.size w w'
theorem WordsPost.lit {w w' : World} {y : Nd} {e : Ending} (h : WordsPost w y e w') : WordsLit w y e w' := by
 obtain ⟨A, c, rfl, hown, hb⟩ := h
 have hp : 0 < (wordsN y).length := by
  cases e : wordsN y
  ·exact absurd e (words_ne y)
  ·simp
 have hrow := own_row hown
 obtain ⟨A', c', he, hc1, hc2, _⟩ := own_form hown
 injection he with _ _ he
 subst he
 obtain ⟨b, o, rfl, _⟩ := hrow.some_lit hp
 exact ⟨b, o, c, rfl, hc1, hrow, hb⟩

/-! the reader of words -/
def RdSt (w : World) (R : Nat) (S : Nat → Prop) (ws : List Qm.W) : Prop :=
 ∃ A c, Whole w R 181 [.slice A ws.length c] ∧ ws.length ≤ c ∧ c ≤ maxLen ∧ Row w S A ws.length (strs ws) ∧ ¬ S R
theorem RdSt.far {w w' : World} {R : Nat} {S D : Nat → Prop} {ws : List Qm.W} (h : RdSt w R S ws) (hf : Far D w w') (hR : ¬ D R) (hS : ∀ k, S k → k < w.heap.size ∧ ¬ D k) : RdSt w' R S ws := by
 obtain ⟨A, c, h1, h2, h3, h4, h5⟩ := h
 exact ⟨A, c, hf.whole h1 hR, h2, h3, h4.keep fun _ hp => hf.cell (hS _ hp).1 (hS _ hp).2, h5⟩
theorem RdSt.lt {w : World} {R : Nat} {S : Nat → Prop} {ws : List Qm.W} (h : RdSt w R S ws) : R < w.heap.size := by
 obtain ⟨A, c, h1, _⟩ := h; exact h1.lt

def NextPost (w : World) (R : Nat) (S : Nat → Prop) (ws : List Qm.W) (e : Ending) (w' : World) : Prop :=
 e = .returned (.string ⟨(ws.headD []).toArray⟩) ∧ RdSt w' R S ws.tail ∧ Far (fun i => i = R) w w' ∧ w'.heap.size = w.heap.size
set_option maxHeartbeats 1600000 in
theorem next_any (R : Nat) (S : Nat → Prop) (ws : List Qm.W) (w : World) (h : RdSt w R S ws) :
  Calls Tryz.prog 147 #[.pointer (some ⟨R, 0, none⟩)] w (NextPost w R S ws) := by
 obtain ⟨A, c, hw, hc1, hc2, hr, hS⟩ := h
 have HW := Lib.hid hw; have HR := Lib.hid hr; have HS := Lib.hid hS
 have g0 := hw.cell 0
 have f0 := hw.free 0
 simp only [List.getElem?_cons_zero] at g0
 unfold maxLen at hc2
 cases ws with
 | nil =>
  clear hw hr hS
  simp only [List.length_nil] at g0
  go_enter Tryz.func147, Tryz.ntmps147
  go_wp2
  go_ret
  exact ⟨rfl, ⟨A, c, HW.out, hc1, by unfold maxLen; omega, HR.out, HS.out⟩, Far.refl _ _, rfl⟩
 | cons a r =>
  obtain ⟨b, o, rfl, hb⟩ := hr.some_lit (by simp)
  have hcell := (hr.2 (by simp))
  obtain ⟨b', o', e, _, hcell⟩ := hcell
  injection e with e; injection e with e1 e2
  subst e1 e2
  have k0 := hcell 0 (by simp)
  simp only [Nat.add_zero, strs, List.map_cons, List.getElem?_cons_zero] at k0
  clear hcell
  have hl : (a :: r).length = r.length + 1 := rfl
  rw [hl] at g0 hc1
  have hdrop := hr.drop (k := 1) (cap := c) (by simp) hc1
  have Hdrop := Lib.hid hdrop
  clear hw hr hS hdrop hl
  by_cases c1 : c = 1
  ·subst c1
   go_enter Tryz.func147, Tryz.ntmps147
   go_wp2
   go_ret
   obtain rfl : r = [] := List.eq_nil_of_length_eq_zero (by omega)
   refine ⟨rfl, ⟨some ⟨b, o, none⟩, 0, HW.out.set_ 0 _, Nat.le_refl _, by unfold maxLen; omega, ?_, HS.out⟩, Far.set_ (D := fun i => i = R) rfl 0 _, by simp [World.setCell]⟩
   have hd := Hdrop.out
   simp only [if_true] at hd
   exact hd.keep fun p hp => World.cell?_setCell_other _ _ _ _ (fun e => HS.out (by rw [← e] at hp; exact hp))
  ·have h2 : 2 ≤ c := by omega
   go_enter Tryz.func147, Tryz.ntmps147
   go_wp2
   go_ret
   refine ⟨rfl, ⟨some ⟨b, o + 1, none⟩, c - 1, HW.out.set_ 0 _, by simp only [List.tail_cons]; omega, by unfold maxLen; omega, ?_, HS.out⟩, Far.set_ (D := fun i => i = R) rfl 0 _, by simp [World.setCell]⟩
   have hd := Hdrop.out
   rw [if_neg (by omega)] at hd
   exact hd.keep fun p hp => World.cell?_setCell_other _ _ _ _ (fun e => HS.out (by rw [← e] at hp; exact hp))
end Go.Proofs.YtedbhlgjcnnknaaGreatDoor

/- Words in memory, as strings. -/
namespace Go.Proofs.YtedbhlgjcnnknaaGreatDoor
open Go.RowKit Qm

def bas (ws : List Qm.W) : List ByteArray := ws.map fun l => ⟨l.toArray⟩
theorem strs_cell {w : World} {S : Nat → Prop} {b o : Nat} {ws : List Qm.W} (h : Row w S (some ⟨b, o, none⟩) ws.length (strs ws)) : ∀ j, j < (bas ws).length → w.cell? ⟨b, o + j, none⟩ = some (.string ((bas ws).getD j ByteArray.empty)) := by
 intro j hj
 have hj' : j < ws.length := by simpa [bas] using hj
 obtain ⟨b', o', e, _, hc⟩ := h.at_ hj'
 injection e with e; injection e with e1 e2
 subst e1 e2
 rw [hc]
 simp only [strs, bas, List.getElem?_map, List.getD_eq_getElem?_getD, List.getElem?_eq_getElem hj', Option.map_some, Option.getD_some]
end Go.Proofs.YtedbhlgjcnnknaaGreatDoor

/- tree.before, walked. -/
namespace Go.Proofs.YtedbhlgjcnnknaaGreatDoor
open Go.RowKit Qm

set_option maxHeartbeats 1600000 in
theorem before_any (p p' : Pk) (A A' : Option Addr) (n c n' c' : Nat) (k k' : Int) (a a' : At) (f f' : Qm.W) (no no' : Bool) (D D' : Option Addr) (q d q' d' : Nat) (w : World) :
  Calls Tryz.prog 111 #[.agg (pkRow p A n c (ndRow k a f no D q d)).toArray, .agg (pkRow p' A' n' c' (ndRow k' a' f' no' D' q' d')).toArray] w fun e w' =>
   e = .returned (.bool (beforeP p p')) ∧ Below w.heap.size w w' := by
 unfold pkRow ndRow
 have HR : Hid (beforeP p p' = (decide (p.nm < p'.nm) || (decide (p.nm = p'.nm) && decide (p.ver < p'.ver)))) := Lib.hid rfl
 generalize beforeP p p' = R at HR ⊢
 obtain ⟨nm, ver, slot, fs, nd⟩ := p
 obtain ⟨nm', ver', slot', fs', nd'⟩ := p'
 have hb := bytesLess_eq nm nm'
 dsimp only at HR hb ⊢
 by_cases h1 : nm < nm'
 ·rw [decide_eq_true h1] at hb
  have H1 := Lib.hid h1; clear h1
  go_enter Tryz.func111, Tryz.ntmps111
  go_wp2
  go_ret
  exact ⟨ret_bool (by rw [HR.out, decide_eq_true H1.out]; rfl), ((Below.refl _ w).alloc (Nat.le_refl _) _).alloc (by simp) _⟩
 ·rw [decide_eq_false h1] at hb
  have H1 := Lib.hid h1; clear h1
  by_cases h2 : nm = nm'
  ·subst h2
   by_cases h3 : ver < ver'
   ·go_enter Tryz.func111, Tryz.ntmps111
    go_wp2
    go_ret
    exact ⟨ret_bool (by rw [HR.out, decide_eq_false H1.out, decide_eq_true h3]; simp), ((Below.refl _ w).alloc (Nat.le_refl _) _).alloc (by simp) _⟩
   ·go_enter Tryz.func111, Tryz.ntmps111
    go_wp2
    go_ret
    exact ⟨ret_bool (by rw [HR.out, decide_eq_false H1.out, decide_eq_false (Int.not_lt.2 h3)]; simp), ((Below.refl _ w).alloc (Nat.le_refl _) _).alloc (by simp) _⟩
  ·have H2 := Lib.hid h2
   have h2' : (nm == nm') = false := by simpa using h2
   clear h2
   go_enter Tryz.func111, Tryz.ntmps111
   go_wp2
   go_ret
   exact ⟨ret_bool (by rw [HR.out, decide_eq_false H1.out, decide_eq_false H2.out]; rfl), ((Below.refl _ w).alloc (Nat.le_refl _) _).alloc (by simp) _⟩
end Go.Proofs.YtedbhlgjcnnknaaGreatDoor

/- slices.Contains of words. -/
namespace Go.Proofs.YtedbhlgjcnnknaaGreatDoor
open Go.RowKit Qm

theorem containsS_any (A : Option Addr) (n c : Nat) (fs : List Qm.W) (x : Qm.W) (w : World) (S : Nat → Prop) (h : Row w S A n (strs fs)) (hn : n ≤ maxLen) :
  Calls Tryz.prog 92 #[.slice A n c, .string ⟨x.toArray⟩] w fun e w' => e = .returned (.bool (fs.contains x)) ∧ w' = w := by
 have hl : fs.length = n := by have := h.len; simpa [strs] using this
 unfold maxLen at hn
 by_cases h0 : n = 0
 ·subst h0
  obtain rfl := List.eq_nil_of_length_eq_zero hl
  exact (Tryz.slices_Contains_string_empty A c ⟨x.toArray⟩ w).mono fun e w' ⟨he, hw⟩ => ⟨by simpa using he, hw⟩
 ·obtain ⟨b, o, rfl, _⟩ := h.some_lit (by omega)
  refine (Tryz.slices_Contains_string b o n c (bas fs) ⟨x.toArray⟩ w (by simp [bas, hl]) (by omega) (strs_cell (by rw [hl]; exact h))).mono fun e w' ⟨he, hw⟩ => ⟨?_, hw⟩
  rw [he, List.take_of_length_le (by simp [bas, hl])]
  congr 2
  rw [Bool.eq_iff_iff, Lib.containsS_iff, List.contains_iff_mem]
  unfold bas
  rw [List.mem_map]
  constructor
  ·rintro ⟨y, hy, e⟩
   have := congrArg (·.data.toList) e
   simp only at this
   rwa [← show y = x from this]
  ·intro hx; exact ⟨x, hx, rfl⟩
end Go.Proofs.YtedbhlgjcnnknaaGreatDoor

/- atom.Fits, atom.number, walked; what the listed variables hold. -/
namespace Go.Proofs.YtedbhlgjcnnknaaGreatDoor
open Go.RowKit Qm

structure LaidV (w : World) : Prop where
 syn : ∃ tp p, w.var? Tryz.prog "strconv.ErrSyntax" = some #[.iface tp p]
 rng : ∃ tp p, w.var? Tryz.prog "strconv.ErrRange" = some #[.iface tp p]
 tab : Lib.TabIs Tryz.prog w "internal/strconv.uint64pow10" .u64 Lib.pow10Tab

theorem var_below {P : Program} {w w' : World} {n : String} {cs : Array Value} (h : w.var? P n = some cs) (hb : Below w.heap.size w w') : w'.var? P n = some cs := by
 unfold World.var? at h ⊢
 cases hg : P.globalNamed n with
 | none => rw [hg] at h; cases h
 | some g =>
  rw [hg] at h
  simp only [Option.bind_some] at h ⊢
  have hlt : g < w.heap.size := by
   rcases Nat.lt_or_ge g w.heap.size with hlt | hge
   ·exact hlt
   ·rw [Array.getElem?_eq_none hge] at h; cases h
  rw [hb.block g hlt]
  exact h

theorem LaidV.below {w w' : World} (h : LaidV w) (hb : Below w.heap.size w w') : LaidV w' := by
 obtain ⟨⟨t1, p1, h1⟩, ⟨t2, p2, h2⟩, h3⟩ := h
 exact ⟨⟨t1, p1, var_below h1 hb⟩, ⟨t2, p2, var_below h2 hb⟩, var_below h3 hb⟩

theorem bs_eq (a : List UInt8) (s : ByteArray) : (a == s.toList) = decide (a = s.data.toList) := by
 rw [Lib.toList_data, Bool.eq_iff_iff]
 simp

set_option maxHeartbeats 3200000 in
theorem number_any (s : ByteArray) (w : World) (hs : s.size ≤ 140737488355328) (hL : LaidV w) :
  Calls Tryz.prog 181 #[.string s] w fun e w' => ∃ n, e = .returned (.tuple #[.int .i64 n, .bool (number s.data.toList).isSome]) ∧ (∀ v, number s.data.toList = some v → n = v) ∧ Below w.heap.size w w' := by
 obtain ⟨⟨tp, p, h1⟩, ⟨tp2, p2, h2⟩, h3⟩ := hL
 rcases h : Lib.atoiAll s.data.toList with v | _ | _
 ·skip
  have hat := Tryz.strconv_Atoi_ok s (by omega) v h w
  obtain ⟨hv0, hv1⟩ := Lib.atoiAll_bounds h
  go_enter Tryz.func181, Tryz.ntmps181
  go_wp2_with (first | (go_at_call 127; refine hat.mono ?_; rintro e w1 ⟨rfl, hw1⟩; refine Hid.out ?_))
  have hb1 : Hid (Below w.heap.size w w1) := Lib.hid (by
   rcases hw1 with rfl | ⟨t, rfl⟩
   ·exact Below.refl _ _
   ·exact Lib.bytesWorld_below _ _ _)
  clear hw1
  have hit := Tryz.strconv_Itoa v (by omega) (by omega) w1 (var_below h3 hb1.out)
  have Hit := Lib.hid hit
  clear hit
  have hcmp := bs_eq (Lib.itoa v) s
  have HV := Lib.hid (show number s.data.toList = if Lib.itoa v = s.data.toList then some v else none by unfold number; rw [h])
  clear h
  generalize Lib.itoa v = T at hcmp HV Hit
  by_cases e1 : T = s.data.toList
  ·rw [decide_eq_true e1] at hcmp
   have E1 := Lib.hid e1; clear e1
   refine Lib.hid ?_
   go_wp2_with (first | (go_at_call 100; refine Hit.out.mono ?_; rintro e w2 ⟨rfl, k, os, hw2⟩))
   go_ret2
   refine ⟨v, ?_, ?_, hb1.out.trans (by subst hw2; exact (Lib.below_grow _ _ (Nat.le_refl _) _ _).mono hb1.out.size)⟩
   ·rw [HV.out, if_pos E1.out]; rfl
   ·rw [HV.out, if_pos E1.out]; intro u hu; injection hu
  ·rw [decide_eq_false e1] at hcmp
   have E1 := Lib.hid e1; clear e1
   refine Lib.hid ?_
   go_wp2_with (first | (go_at_call 100; refine Hit.out.mono ?_; rintro e w2 ⟨rfl, k, os, hw2⟩))
   go_ret2
   refine ⟨v, ?_, ?_, hb1.out.trans (by subst hw2; exact (Lib.below_grow _ _ (Nat.le_refl _) _ _).mono hb1.out.size)⟩
   ·rw [HV.out, if_neg E1.out]; rfl
   ·rw [HV.out, if_neg E1.out]; intro u hu; cases hu
 ·have hat := Any.strconv_Atoi_syntax_var Tryz.laysC172 s (by omega) h tp p w h1
  go_enter Tryz.func181, Tryz.ntmps181
  go_wp2_with (first | (go_at_call 127; refine hat.mono ?_; rintro e w1 ⟨N, rfl, -, -, hb⟩))
  go_ret2
  have hn : number s.data.toList = none := by unfold number; rw [h]
  exact ⟨_, by rw [hn]; rfl, (by rw [hn]; intro v hv; cases hv), hb⟩
 ·have hat := Tryz.strconv_Atoi_range_var s (by omega) h tp2 p2 w h2
  go_enter Tryz.func181, Tryz.ntmps181
  go_wp2_with (first | (go_at_call 127; refine hat.mono ?_; rintro e w1 ⟨N, rfl, -, -, hb⟩))
  go_ret2
  have hn : number s.data.toList = none := by unfold number; rw [h]
  exact ⟨_, by rw [hn]; rfl, (by rw [hn]; intro v hv; cases hv), hb⟩
end Go.Proofs.YtedbhlgjcnnknaaGreatDoor

/- strings.IndexRune at a rune beyond ASCII, in a short string of ASCII: -1. -/
namespace Go.Proofs.YtedbhlgjcnnknaaGreatDoor
open Go.RowKit Qm

set_option maxRecDepth 100000 in
set_option maxHeartbeats 1600000 in
theorem indexRune_bad (s : ByteArray) (r : Int) (w : World) (h128 : 128 ≤ r) (hne : r ≠ 65533) (hv : Lib.validRune r = false) :
  Calls Tryz.prog 184 #[.string s, .int .i32 r] w fun e w' => e = .returned (.int .i64 (-1)) ∧ Below w.heap.size w w' := by
 have h1 : decide (r < 128) = false := by simp; omega
 have h2 : (r == 65533) = false := by simpa using hne
 have h3 : 0 ≤ r := by omega
 have hval := Tryz.utf8_ValidRune r w
 rw [hv] at hval
 go_enter Tryz.func184, Tryz.ntmps184
 go_wp2_with (first | (go_at_call 208; refine hval.mono ?_; rintro e w1 ⟨rfl, rfl⟩))
 go_ret
 exact ⟨rfl, Below.refl _ _⟩

set_option maxRecDepth 100000 in
set_option maxHeartbeats 1600000 in
theorem indexRune_err (s : ByteArray) (w : World) (hsa : ∀ i (h : i < s.size), (s[i]'h).toNat < 128) :
  Calls Tryz.prog 184 #[.string s, .int .i32 65533] w fun e w' => e = .returned (.int .i64 (-1)) ∧ Below w.heap.size w w' := by
 have HS := Lib.hid hsa; clear hsa
 have HK := Lib.hid (World.iter_heap w s 0)
 have HB : Hid (Below w.heap.size w (w.iter s 0)) := Lib.hid ((Below.refl _ w).alloc (Nat.le_refl _) _)
 go_enter Tryz.func184, Tryz.ntmps184
 go_wp2
 go_loopw [5, 6] (fun _ _ wr => ∃ pos : Nat, pos ≤ s.size ∧ wr.heap[w.heap.size]? = some (.stringIter s pos) ∧ Below w.heap.size w wr) (fun _ _ wr => s.size - wr.iterPos w.heap.size)
 case atStart => exact ⟨0, Nat.zero_le _, HK.out, HB.out⟩
 case round =>
  obtain ⟨pos, hps, hk, hnx⟩ := hrel
  by_cases hp : pos < s.size
  ·have h128 := HS.out pos hp
   have hnext : ∀ ty, (Instr.next (.pointer (some ⟨w.heap.size, 0, none⟩)) true ty).run Tryz.prog wr = _ := fun ty => Lib.run_next_ascii_at wr w.heap.size s pos ty hk hp h128
   have hk1 := Lib.iterAt_heap wr w.heap.size s pos (pos + 1) hk
   have hnx1 : Below w.heap.size w (wr.iterAt w.heap.size s (pos + 1)) := Lib.below_iterAt hnx (Nat.le_refl _) s (pos + 1)
   have hmu : wr.iterPos w.heap.size = pos := by simp [World.iterPos, hk]
   have HM := Lib.hid hmu; clear hmu hk
   have HK1 := Lib.hid hk1; clear hk1
   have HN := Lib.hid hnx1; clear hnx hnx1
   generalize wr.iterAt w.heap.size s (pos + 1) = W1 at hnext HK1 HN
   have hc : (((s[pos]'hp).toNat : Int) == 65533) = false := by simp; omega
   generalize (s[pos]'hp).toNat = c at hnext hc h128
   go_wp2
   go_roundw
   case rel => exact ⟨pos + 1, by omega, HK1.out, HN.out⟩
   case measure =>
    have hmu2 : W1.iterPos w.heap.size = pos + 1 := by simp [World.iterPos, HK1.out]
    rw [HM.out, hmu2]
    omega
  ·have hnext : ∀ ty, (Instr.next (.pointer (some ⟨w.heap.size, 0, none⟩)) true ty).run Tryz.prog wr = _ := fun ty => Lib.run_next_end_at wr w.heap.size s pos ty hk hp
   have HN := Lib.hid hnx; clear hnx hk
   go_wp2
   go_ret
   exact ⟨rfl, HN.out⟩

theorem indexByte_far (t : ByteArray) (c : UInt8) (hc : 128 ≤ c.toNat) (ht : ∀ b ∈ t.data.toList, b.toNat < 128) (w : World) :
  Calls Tryz.prog 180 #[.string t, .int .u8 (c.toNat : Int)] w fun e w' => e = .returned (.int .i64 (-1)) ∧ w' = w := by
 have h := Tryz.strings_IndexByte t (c.toNat : Int) w
 have e : Lib.indexByte t.data.toList ((c.toNat : Int).toNat.toUInt8) = -1 := by
  have hc' : ((c.toNat : Int).toNat.toUInt8) = c := by simp
  rw [hc']
  generalize t.data.toList = l at ht
  induction l with
  | nil => rfl
  | cons x r ih =>
   have hx := ht x (List.mem_cons_self ..)
   have hne : (x == c) = false := by
    rw [beq_eq_false_iff_ne]
    rintro rfl
    omega
   simp [Lib.indexByte, hne, ih fun b hb => ht b (List.mem_cons_of_mem _ hb)]
 rw [e] at h
 exact h

set_option maxRecDepth 100000 in
set_option maxHeartbeats 3200000 in
theorem indexRune_far (s : ByteArray) (r : Int) (w : World) (h128 : 128 ≤ r) (hne : r ≠ 65533) (hv : Lib.validRune r = true) (hs : s.size ≤ 3) (hsa : ∀ i (h : i < s.size), (s[i]'h).toNat < 128) :
  Calls Tryz.prog 184 #[.string s, .int .i32 r] w fun e w' => e = .returned (.int .i64 (-1)) ∧ Below w.heap.size w w' := by
 have h1 : decide (r < 128) = false := by simp; omega
 have h2 : (r == 65533) = false := by simpa using hne
 have h3 : 0 ≤ r := by omega
 have hval := Tryz.utf8_ValidRune r w
 rw [hv] at hval
 obtain ⟨hE2, hE4, hEl⟩ := encode_facts r (by rw [validRune_eq]; exact hv) h128
 have hcv := run_convert_int_string (P := Tryz.prog) w 21 9 .i32 r (by kernel_rfl) Tryz.underlying9
 generalize Utf8.encode r = E at hE2 hE4 hEl hcv
 have HS := Lib.hid hsa; clear hsa
 have HEl := Lib.hid hEl; clear hEl
 clear hne hv h128
 go_enter Tryz.func184, Tryz.ntmps184
 go_wp2_with (first | (go_at_call 208; refine hval.mono ?_; rintro e w ⟨rfl, rfl⟩))
 have hl0 : (E.size : Int) - 1 = ((E.size - 1 : Nat) : Int) := by omega
 go_step3
 go_wp2
 go_loopw [9, 10] (fun i j wr => ∃ k q : Nat, i = .int .i64 k ∧ j = .int .i64 q ∧ k + 1 = q + E.size ∧ k ≤ 4 ∧ Below w.heap.size w wr) (fun i _ _ => s.size - (intOf i).toNat)
 case atStart => exact ⟨E.size - 1, 0, by rw [← hl0], rfl, by omega, by omega, Below.refl _ _⟩
 case round =>
  obtain ⟨k, q, rfl, rfl, hkq, hk4, hb⟩ := hrel
  have HB := Lib.hid hb; clear hb
  by_cases hlt : k < s.size
  ·have ha := HS.out k hlt
   have hz := HEl.out (by omega)
   have hlast : E.size - 1 < E.size := by omega
   have hcmp : (((s[k]'hlt).toNat : Int) == ((E[E.size - 1]'hlast).toNat : Int)) = false := by simp; omega
   have hcmp2 : (((s[k]'hlt).toNat : Int) != ((E[E.size - 1]'hlast).toNat : Int)) = true := by simp; omega
   go_wp2
   go_step3
   go_wp2
   go_quiet (fail)
   rename_i nq
   have HB2 : Hid (Below w.heap.size w (wr.drewN nq)) := Lib.hid (below_drewN HB.out nq)
   generalize wr.drewN nq = wz at HB2 ⊢
   go_wp2_with fail
   have hib := fun (t : ByteArray) (ht : ∀ b ∈ t.data.toList, b.toNat < 128) (wx : World) => indexByte_far t (E[E.size - 1]'hlast) hz ht wx
   have hsub : ∀ b ∈ (s.extract (k + 1) s.size).data.toList, b.toNat < 128 := fun b hb => by
    have hm := mem_extract hb
    obtain ⟨i, hi, rfl⟩ := List.getElem_of_mem hm
    rw [Array.length_toList] at hi
    exact HS.out i hi
   have hcall := hib _ hsub
   have Hcall := Lib.hid hcall
   clear hib hsub hcall
   have hw1 : IntKind.i64.wrap ((k : Int) + 1) = (k : Int) + 1 := IntWalk.i64_in _ (by omega)
   have hw2 : (0 : Int) ≤ (k : Int) + 1 := by omega
   have hw3 : ((k : Int) + 1).toNat = k + 1 := by omega
   have hw4 : k + 1 ≤ s.size := by omega
   have HKQ := Lib.hid hkq; clear hkq
   go_quiet ((go_at_call 180; exact Calls.quiet_of_same (Hcall.out _)))
   go_wp2
   simp only [Exit.noGoto_ret, Exit.inBlock]
   go_wp2
   simp only [Exit.noGoto_ret, Exit.inBlock]
   go_ret
   exact ⟨rfl, below_drewN HB2.out _⟩
  ·go_wp2
   simp only [Exit.noGoto_ret, Exit.inBlock]
   go_ret
   exact ⟨rfl, HB.out⟩
end Go.Proofs.YtedbhlgjcnnknaaGreatDoor

/- strings.IndexAny at any string, and two or three letters of ASCII. -/
namespace Go.Proofs.YtedbhlgjcnnknaaGreatDoor
open Go.RowKit Qm

theorem decodeN_high (n b0 b1 b2 b3 : Nat) (hn : 1 ≤ n) (h0 : 128 ≤ b0) :
  128 ≤ (Lib.decodeN n b0 b1 b2 b3).1 ∧ 1 ≤ (Lib.decodeN n b0 b1 b2 b3).2 ∧ (Lib.decodeN n b0 b1 b2 b3).2 ≤ n ∧ (2 ≤ (Lib.decodeN n b0 b1 b2 b3).2 → 128 ≤ b1) ∧
   (3 ≤ (Lib.decodeN n b0 b1 b2 b3).2 → 128 ≤ b2) ∧ (4 ≤ (Lib.decodeN n b0 b1 b2 b3).2 → 128 ≤ b3) ∧ (Lib.decodeN n b0 b1 b2 b3).2 ≤ 4 := by
 unfold Lib.decodeN
 rw [if_neg (by omega)]
 repeat' split
 all_goals (refine ⟨?_, ?_, ?_, ?_, ?_, ?_, ?_⟩ <;> simp only [] <;> omega)

theorem decode_high (s : ByteArray) (pos : Nat) (hp : pos < s.size) (hb : 128 ≤ (s.data.toList.getD pos 0).toNat) :
  128 ≤ (Utf8.decode s pos).1 ∧ 1 ≤ (Utf8.decode s pos).2 ∧ pos + (Utf8.decode s pos).2 ≤ s.size ∧ ∀ j, pos ≤ j → j < pos + (Utf8.decode s pos).2 → 128 ≤ (s.data.toList.getD j 0).toNat := by
 have hl : s.size = s.data.toList.length := Lib.size_eq s
 have h := decodeN_high (s.data.toList.length - pos) (s.data.toList.getD pos 0).toNat (s.data.toList.getD (pos + 1) 0).toNat (s.data.toList.getD (pos + 2) 0).toNat (s.data.toList.getD (pos + 3) 0).toNat (by omega) hb
 rw [← Lib.decode_N] at h
 obtain ⟨h1, h2, h3, h4, h5, h6, h7⟩ := h
 refine ⟨h1, h2, by omega, fun j hj hj2 => ?_⟩
 have hc : j = pos ∨ j = pos + 1 ∨ j = pos + 2 ∨ j = pos + 3 := by omega
 rcases hc with rfl | rfl | rfl | rfl
 ·exact hb
 ·exact h4 (by omega)
 ·exact h5 (by omega)
 ·exact h6 (by omega)

theorem noAny_skip {l chars : List UInt8} {pos k : Nat} (h : Lib.NoAny l chars pos) (hc : ∀ b ∈ chars, b.toNat < 128) (hk : ∀ j, pos ≤ j → j < pos + k → 128 ≤ (l.getD j 0).toNat) : Lib.NoAny l chars (pos + k) := by
 intro j b hj hb
 rcases Nat.lt_or_ge j pos with hlt | hge
 ·exact h j b hlt hb
 ·have h1 := hk j hge hj
  have h2 : l.getD j 0 = b := by simp [List.getD, hb]
  rw [h2] at h1
  cases e : chars.contains b
  ·rfl
  ·have := hc b (by simpa using e)
   omega

theorem indexByte_contains (chars : List UInt8) (b : UInt8) : decide (0 ≤ Lib.indexByte chars b) = chars.contains b := by
 induction chars with
 | nil => rfl
 | cons x r ih =>
  unfold Lib.indexByte
  by_cases hx : (x == b) = true
  ·have : x = b := by simpa using hx
   subst this
   simp
  ·have hx' : (x == b) = false := by simpa using hx
   have hx2 : (b == x) = false := by rw [beq_eq_false_iff_ne]; rintro rfl; simp at hx
   rw [List.contains_cons, hx2, Bool.false_or, ← ih, hx']
   have := Lib.indexByte_ge r b
   by_cases h1 : Lib.indexByte r b = -1
   ·simp [h1]
   ·have h2 : (Lib.indexByte r b == -1) = false := by simpa using h1
    simp only [h2, Bool.false_eq_true, if_false]
    rw [Bool.eq_iff_iff]; simp; omega

theorem indexRune_high (s : ByteArray) (r : Int) (w : World) (h128 : 128 ≤ r) (hs : s.size ≤ 3) (hsa : ∀ i (h : i < s.size), (s[i]'h).toNat < 128) :
  Calls Tryz.prog 184 #[.string s, .int .i32 r] w fun e w' => e = .returned (.int .i64 (-1)) ∧ Below w.heap.size w w' := by
 by_cases h1 : r = 65533
 ·subst h1; exact indexRune_err s w hsa
 ·cases hv : Lib.validRune r
  ·exact indexRune_bad s r w h128 h1 hv
  ·exact indexRune_far s r w h128 h1 hv hs hsa

set_option maxRecDepth 100000 in
set_option maxHeartbeats 3200000 in
theorem indexAny_any (s chars : ByteArray) (w : World) (hs : s.size < 4294967281) (hc2 : 2 ≤ chars.size) (hc3 : chars.size ≤ 3) (hca : ∀ b ∈ chars.data.toList, b.toNat < 128) :
  Calls Tryz.prog 179 #[.string s, .string chars] w fun e w' => e = .returned (.int .i64 (Lib.indexAny s.data.toList chars.data.toList)) ∧ Below w.heap.size w w' := by
 have hcj : ∀ (j : Nat) b, chars.data.toList[j]? = some b → b.toNat < 128 := fun j b h => hca b (List.mem_of_getElem? h)
 by_cases h8 : 8 < s.size
 ·refine (Tryz.strings_IndexAny_long (zero_of_info (P := Tryz.prog) (t := 190) (v := .agg (Array.replicate 256 (.bool false))) (n := 256) (by kernel_rfl)).1 s chars w hc2 h8 hs (by omega) hcj).mono ?_
  rintro e w' ⟨rfl, rfl⟩
  exact ⟨rfl, ((Below.refl _ w).alloc (Nat.le_refl _) _).alloc (by simp) _⟩
 ·have hci : ∀ i (h : i < chars.size), (chars[i]'h).toNat < 128 := fun i h => hca _ (Array.getElem_mem_toList (xs := chars.data) h)
  have hhigh := fun (r : Int) (hr : 128 ≤ r) wx => indexRune_high chars r wx hr hc3 hci
  have hlow := fun (r : Int) (h0 : 0 ≤ r) (h1 : r < 128) wx => Tryz.strings_IndexRune_ascii chars r wx h0 h1
  have HH := Lib.hid hhigh
  have HLo := Lib.hid hlow
  have HCA := Lib.hid hca
  have hce : chars.toList.isEmpty = false := by
   rw [Lib.toList_data]
   have : chars.size = chars.data.toList.length := Lib.size_eq chars
   cases e : chars.data.toList
   ·rw [e, List.length_nil] at this; omega
   ·rfl
  have hc1 : ((chars.size : Int) == 1) = false := beq_eq_false_iff_ne.2 (by omega)
  have huse := Tryz.strings_shouldUseASCIISet (s.size : Int) w
  have hu : decide ((8 : Int) < (s.size : Int)) = false := decide_eq_false (by omega)
  rw [hu] at huse
  have HK := Lib.hid (World.iter_heap w s 0)
  have HB : Hid (Below w.heap.size w (w.iter s 0)) := Lib.hid ((Below.refl _ w).alloc (Nat.le_refl _) _)
  have HSL := Lib.hid (Lib.size_eq s)
  clear hhigh hlow hca hcj hci
  go_enter Tryz.func179, Tryz.ntmps179
  go_wp2_with (first | (go_at_call 207; refine huse.mono ?_; rintro e w1 ⟨rfl, hw1⟩; subst w1))
  go_loopw [9, 10] (fun _ _ wr => ∃ pos : Nat, pos ≤ s.size ∧ wr.heap[w.heap.size]? = some (.stringIter s pos) ∧ Lib.NoAny s.data.toList chars.data.toList pos ∧ Below w.heap.size w wr) (fun _ _ wr => s.size - wr.iterPos w.heap.size)
  case atStart => exact ⟨0, Nat.zero_le _, HK.out, Lib.NoAny.zero _ _, HB.out⟩
  case round =>
   obtain ⟨pos, hps, hk, hno, hnx⟩ := hrel
   have HNo := Lib.hid hno; clear hno
   have hmu : wr.iterPos w.heap.size = pos := by simp [World.iterPos, hk]
   have HM := Lib.hid hmu; clear hmu
   by_cases hp : pos < s.size
   ·have hget : s.data.toList[pos]? = some (s[pos]'hp) := by
     rw [List.getElem?_eq_getElem (by have := HSL.out; omega)]; rfl
    have HG := Lib.hid hget; clear hget
    by_cases hb : (s[pos]'hp).toNat < 128
    ·have hnext : ∀ ty, (Instr.next (.pointer (some ⟨w.heap.size, 0, none⟩)) true ty).run Tryz.prog wr = _ := fun ty => Lib.run_next_ascii_at wr w.heap.size s pos ty hk hp hb
     have HK1 := Lib.hid (Lib.iterAt_heap wr w.heap.size s pos (pos + 1) hk)
     have HN := Lib.hid (show Below w.heap.size w (wr.iterAt w.heap.size s (pos + 1)) from Lib.below_iterAt hnx (Nat.le_refl _) s (pos + 1))
     clear hk hnx
     generalize wr.iterAt w.heap.size s (pos + 1) = W1 at hnext HK1 HN
     generalize s[pos]'hp = c at hnext HG hb
     have hcall := HLo.out (c.toNat : Int) (by omega) (by omega) W1
     have hcc : (c.toNat : Int).toNat.toUInt8 = c := by simp
     rw [hcc] at hcall
     have hcon := indexByte_contains chars.data.toList c
     generalize Lib.indexByte chars.data.toList c = z at hcall hcon
     clear hcc
     by_cases hz : 0 ≤ z
     ·rw [decide_eq_true hz] at hcon
      have HC := Lib.hid hcon; clear hcon
      go_wp2_with (first | (go_at_call 184; refine hcall.mono ?_; rintro e W1 ⟨rfl, rfl⟩))
      go_ret
      exact ⟨ret_int (Lib.indexAny_hit HNo.out HG.out HC.out.symm).symm, HN.out⟩
     ·rw [decide_eq_false hz] at hcon
      have hz1 : decide (0 ≤ z) = false := decide_eq_false hz
      have HC := Lib.hid hcon; clear hcon
      go_wp2_with (first | (go_at_call 184; refine hcall.mono ?_; rintro e W1 ⟨rfl, rfl⟩))
      go_roundw
      case rel => exact ⟨pos + 1, by omega, HK1.out, HNo.out.succ HG.out HC.out.symm, HN.out⟩
      case measure =>
       have hmu2 : W1.iterPos w.heap.size = pos + 1 := by simp [World.iterPos, HK1.out]
       rw [HM.out, hmu2]
       omega
    ·have hgd : (s.data.toList.getD pos 0) = s[pos]'hp := by simp [List.getD, HG.out]
     obtain ⟨r1, r2, r3, r4⟩ := decode_high s pos hp (by rw [hgd]; omega)
     have hnext : ∀ ty, (Instr.next (.pointer (some ⟨w.heap.size, 0, none⟩)) true ty).run Tryz.prog wr = _ := fun ty => Lib.run_next_any_at wr w.heap.size s pos ty hk hp
     have HK1 := Lib.hid (Lib.iterAt_heap wr w.heap.size s pos (pos + (Utf8.decode s pos).2) hk)
     have HN := Lib.hid (show Below w.heap.size w (wr.iterAt w.heap.size s (pos + (Utf8.decode s pos).2)) from Lib.below_iterAt hnx (Nat.le_refl _) s _)
     have HSk := Lib.hid (noAny_skip HNo.out HCA.out r4)
     clear hk hnx r4 hgd
     generalize wr.iterAt w.heap.size s (pos + (Utf8.decode s pos).2) = W1 at hnext HK1 HN
     generalize (Utf8.decode s pos).1 = r at hnext r1
     generalize (Utf8.decode s pos).2 = k at HK1 r2 r3 HSk
     have hcall := HH.out (r : Int) (by omega) W1
     go_wp2_with (first | (go_at_call 184; refine hcall.mono ?_; rintro e W2 ⟨rfl, hb2⟩))
     go_roundw
     case rel => exact ⟨pos + k, r3, by rw [hb2.block _ (by have := HK1.out; exact (Array.getElem?_eq_some_iff.1 this).1)]; exact HK1.out, HSk.out, HN.out.trans (hb2.mono HN.out.size)⟩
     case measure =>
      have hmu2 : W2.iterPos w.heap.size = pos + k := by
       have : W2.heap[w.heap.size]? = some (.stringIter s (pos + k)) := by rw [hb2.block _ (Array.getElem?_eq_some_iff.1 HK1.out).1]; exact HK1.out
       simp [World.iterPos, this]
      rw [HM.out, hmu2]
      omega
   ·have hnext : ∀ ty, (Instr.next (.pointer (some ⟨w.heap.size, 0, none⟩)) true ty).run Tryz.prog wr = _ := fun ty => Lib.run_next_end_at wr w.heap.size s pos ty hk hp
    have HN := Lib.hid hnx; clear hnx hk
    go_wp2
    go_ret
    refine ⟨ret_int (Lib.indexAny_none ?_).symm, HN.out⟩
    have h1 := HNo.out
    have h2 : pos = s.data.toList.length := by have := HSL.out; omega
    rw [h2] at h1
    exact h1
end Go.Proofs.YtedbhlgjcnnknaaGreatDoor
