/- Walk: the document's search, a closure that calls itself. -/
import Derived.Test.YtpkbncfnkgofmaaW30
import Derived.Test.YtpkbncfnkgofmaaW21
import Derived.Test.YtpkbncfnkgofmaaW23
import Derived.Test.YtpkbncfnkgofmaaPlain11
import Derived.LoopN
import Derived.WalkSpells
import Derived.Deep.RegionHeld3
import Derived.Deep.AppendLies
import Derived.Deep.DeepCutAuto
import Derived.Laws.EntriesVeiled
namespace Go.Proofs.Ytpkbncfnkgofmaa
open Go.RowKit
def clo (lo : Nat) : Value := .func (.func 58) #[] #[.pointer (some ⟨lo + 1, 0, none⟩), .pointer (some ⟨lo + 4, 0, none⟩), .pointer (some ⟨lo, 0, none⟩), .pointer (some ⟨lo + 3, 0, none⟩), .pointer (some ⟨lo + 5, 0, none⟩)]
def Touch (lo : Nat) (P : Value) (i : Nat) : Prop := i = lo + 1 ∨ i = lo + 3 ∨ i = lo + 4 ∨ some i = P.ownBlock
def In2 (lo hi : Nat) (P : Value) (k : Nat) : Prop := lo + 6 ≤ k ∧ k < hi ∧ P.ownBlock ≠ some k
structure RState (lo N : Nat) (A : Option Addr) (n cap : Nat) (cs : List (List Int)) (S0 : Nat → Prop) (st : Nat) (P : Value) (hs : List (Option Addr × Nat × Nat)) (pf : List (List Int)) (hi : Nat) (w : World) : Prop where
  sb : Whole w (lo + 1) 3 [.int .i64 (st : Int)]
  ob : Whole w (lo + 4) 4 [.bool false]
  fb : Whole w lo 29 [.int .i64 (N : Int), .slice A n cap]
  ab : Whole w (lo + 3) 57 [.slice none 0 0, P]
  nb : Whole w (lo + 5) 82 [clo lo]
  own : w.ownsRow (lo + 6) 37 1 P pf.length (hs.map hd)
  own_hi : ∀ g, P.ownBlock = some g → g < hi
  heads : Heads w (In2 lo hi P) hs pf
  cls : RClauses w S0 A n cs
  hi_ : hi ≤ w.heap.size
  base_ : lo + 6 ≤ hi
  s0 : ∀ k, S0 k → k < lo
section
variable {lo N n cap st hi : Nat} {A : Option Addr} {cs : List (List Int)} {S0 : Nat → Prop} {P : Value} {hs : List (Option Addr × Nat × Nat)} {pf : List (List Int)} {w w' : World}
theorem RState.far {D : Nat → Prop} (h : RState lo N A n cap cs S0 st P hs pf hi w) (k : Far D w w') (hD : ∀ i, i < hi → ¬ D i) : RState lo N A n cap cs S0 st P hs pf hi w' where
  sb := k.whole h.sb (hD _ (by have := h.base_; omega))
  ob := k.whole h.ob (hD _ (by have := h.base_; omega))
  fb := k.whole h.fb (hD _ (by have := h.base_; omega))
  ab := k.whole h.ab (hD _ (by have := h.base_; omega))
  nb := k.whole h.nb (hD _ (by have := h.base_; omega))
  own := k.own h.own (fun g hg => hD g (h.own_hi g hg))
  own_hi := h.own_hi
  heads := k.heads h.heads (fun j hj => ⟨Nat.lt_of_lt_of_le hj.2.1 h.hi_, hD j hj.2.1⟩)
  cls := k.clauses h.cls (fun j hj => by have := h.s0 j hj; have := h.base_; have := h.hi_; exact ⟨by omega, hD j (by omega)⟩)
  hi_ := Nat.le_trans h.hi_ k.size
  base_ := h.base_
  s0 := h.s0
theorem RState.below (h : RState lo N A n cap cs S0 st P hs pf hi w) (k : Below w.heap.size w w') : RState lo N A n cap cs S0 st P hs pf hi w' := h.far (Far.of_below (fun _ => False) k) (fun _ _ h => h)
theorem In2.mono {hi hi' : Nat} (hh : hi ≤ hi') {k : Nat} (h : In2 lo hi P k) : In2 lo hi' P k := ⟨h.1, by have := h.2.1; omega, h.2.2⟩
theorem RState.up (h : RState lo N A n cap cs S0 st P hs pf hi w) {hi' : Nat} (h1 : hi ≤ hi') (h2 : hi' ≤ w.heap.size) : RState lo N A n cap cs S0 st P hs pf hi' w :=
  ⟨h.sb, h.ob, h.fb, h.ab, h.nb, h.own, fun g hg => Nat.lt_of_lt_of_le (h.own_hi g hg) h1, h.heads.more (fun _ hk => hk.mono h1), h.cls, h2, Nat.le_trans h.base_ h1, h.s0⟩
theorem RState.lo_ (h : RState lo N A n cap cs S0 st P hs pf hi w) : ∀ g, P.ownBlock = some g → lo + 6 ≤ g := fun g hg => (h.own.lt g hg).1
theorem RState.steps (h : RState lo N A n cap cs S0 st P hs pf hi w) (st' : Nat) : RState lo N A n cap cs S0 st' P hs pf hi (w.setCell ⟨lo + 1, 0, none⟩ (.int .i64 (st' : Int))) := by
  have hf : Far (fun i => i = lo + 1) w (w.setCell ⟨lo + 1, 0, none⟩ (.int .i64 (st' : Int))) := Far.set_ (D := fun i => i = lo + 1) rfl 0 _
  have hset := Whole.set_ h.sb 0 (.int .i64 (st' : Int))
  exact ⟨hset, hf.whole h.ob (by omega), hf.whole h.fb (by omega), hf.whole h.ab (by omega), hf.whole h.nb (by omega), hf.own h.own (fun g hg e => by have := h.lo_ g hg; omega), h.own_hi, hf.heads h.heads (fun j hj => ⟨Nat.lt_of_lt_of_le hj.2.1 h.hi_, by have := hj.1; omega⟩),
    hf.clauses h.cls (fun j hj => by have := h.s0 j hj; have := h.base_; have := h.hi_; exact ⟨by omega, by omega⟩), by simpa [World.setCell] using h.hi_, h.base_, h.s0⟩
end
def RPost (lo N : Nat) (A : Option Addr) (n cap : Nat) (cs : List (List Int)) (S0 : Nat → Prop) (P : Value) (w : World) (r : Qm.Res) (e : Ending) (w' : World) : Prop :=
  Far (Touch lo P) w w' ∧ match r with
    | .out => e = .returned (.bool true) ∧ Whole w' (lo + 4) 4 [.bool true]
    | .found m => e = .returned (.bool true) ∧ Whole w' (lo + 4) 4 [.bool false] ∧ ∃ (P' : Value) (M : Option Addr) (c : Nat), Whole w' (lo + 3) 57 [.slice M m.length c, P'] ∧ RBools w' (fun k => lo + 6 ≤ k ∧ k < w'.heap.size) M m.length m ∧ m.length ≤ c ∧ c ≤ maxLen ∧ M.isSome = true
    | .no st' pf' => e = .returned (.bool false) ∧ ∃ (P' : Value) (hs' : List (Option Addr × Nat × Nat)), RState lo N A n cap cs S0 st' P' hs' pf' w'.heap.size w' ∧ (P'.ownBlock = P.ownBlock ∨ ∃ g, P'.ownBlock = some g ∧ w.heap.size ≤ g)
theorem RPost.step {lo N : Nat} {A : Option Addr} {n cap : Nat} {cs : List (List Int)} {S0 : Nat → Prop} {P P1 : Value} {w w1 w' : World} {r : Qm.Res} {e : Ending} (k : Far (Touch lo P) w w1) (hP : P1.ownBlock = P.ownBlock ∨ ∃ g, P1.ownBlock = some g ∧ w.heap.size ≤ g)
    (h : RPost lo N A n cap cs S0 P1 w1 r e w') : RPost lo N A n cap cs S0 P w r e w' := by
  obtain ⟨hf, hm⟩ := h
  refine ⟨k.trans hf (fun i hi ht => ?_), ?_⟩
  · rcases ht with ht | ht | ht | ht
    · exact .inl ht
    · exact .inr (.inl ht)
    · exact .inr (.inr (.inl ht))
    · rcases hP with hP | ⟨g, hP, hg⟩
      · exact .inr (.inr (.inr (ht.trans hP)))
      · rw [hP] at ht; injection ht with ht; omega
  · cases r with
    | out => exact hm
    | found m => exact hm
    | no st pf =>
      obtain ⟨h1, P', hs', h2, h3⟩ := hm
      refine ⟨h1, P', hs', h2, ?_⟩
      rcases h3 with h3 | ⟨g, h3, hg⟩
      · rw [h3]; exact hP
      · exact .inr ⟨g, h3, Nat.le_trans k.size hg⟩
theorem RPost.ret {lo N : Nat} {A : Option Addr} {n cap : Nat} {cs : List (List Int)} {S0 : Nat → Prop} {P : Value} {w w' : World} {r : Qm.Res} {e : Ending} (h : RPost lo N A n cap cs S0 P w r e w') : ∃ b, e = .returned (.bool b) := by
  obtain ⟨_, h⟩ := h
  cases r with
  | out => exact ⟨_, h.1⟩
  | found m => exact ⟨_, h.1⟩
  | no st pf => exact ⟨_, h.1⟩
theorem step_append_row {P : Program} {w : World} {ops : Array Oper} {o : Oper} {a : Act} {K : Act → World → Prop} {Q : Exit → Act → World → Prop} {E : Prop} (hgd : o.guard = none) (s x : Operand) (t : TypeId)
    (ho : o.op = .call { callee := .builtin .append, args := #[s, x], argTypes := #[t, t] })
    (base : Nat) (e : TypeId) (i : TypeInfo) (z : Value) (bytes : Nat) (ht : P.underlying t = some (.slice e)) (hi : P.info? e = some i) (hz : i.zero = some z)
    (hsize : i.size = 1) (hby : i.bytes = bytes) (hzs : z.cells.size = 1) (v : Value) (n : Nat) (xs : List Value) (hs : a.eval s = v) (hown : w.ownsRow base e 1 v n xs)
    (A : Option Addr) (m c : Nat) (news : List Value) (hx : a.eval x = .slice A m c) (S : Nat → Prop) (hrow : Row w S A m news) (h1 : ∀ u ∈ news, u.oneCell' = true)
    (h63 : n + m ≤ maxLen) (hbytes : (n + m) * bytes ≤ 140737488355328) (hbase : base ≤ w.heap.size)
    (h : ∀ A' c' w', n + m ≤ c' → c' ≤ maxLen → w'.ownsRow base e 1 (.slice A' (n + m) c') (n + m) (xs ++ news) → w.grownBy w' v.ownBlock → K (a.put o.dst (.slice A' (n + m) c')) w') :
    if Region.wanted o (yielded ops a.tmps) = true then Oper.wp P o a w K Q else E := by
  have hw : Region.wanted o (yielded ops a.tmps) = true := by simp [Region.wanted, hgd]
  rw [if_pos hw]
  obtain ⟨v', w', hr, h2, h3⟩ := run_append_row (P := P) w base t o.type e i z bytes ht hi hz hsize hby hzs v n xs hown A m c news S hrow h1 h63 hbytes hbase
  obtain ⟨A', c', rfl, h4, h5, _⟩ := own_form h2
  unfold Oper.wp execOp
  simp only [ho, resolve, invoke, builtin, Sem.run_bind, Sem.run_pure, Result.andThen_ok, List.map_toArray, List.map_cons, List.map_nil, hs, hx, hr]
  exact h A' c' w' h4 h5 h2 h3
theorem callFuncR (args : Array Value) (W : World) : (callFunc 58 args).run Try.prog W = .ok (.enter 58 args) W := by kernel_rfl
def caps (lo : Nat) (v : Value) : Array Value := #[v, .pointer (some ⟨lo + 1, 0, none⟩), .pointer (some ⟨lo + 4, 0, none⟩), .pointer (some ⟨lo, 0, none⟩), .pointer (some ⟨lo + 3, 0, none⟩), .pointer (some ⟨lo + 5, 0, none⟩)]
theorem own_made_at {base b : Nat} {e : TypeId} (w : World) (hb : base ≤ w.heap.size) (hbb : b = w.heap.size) : (w.alloc (.cells #[] e)).ownsRow base e 1 (.slice (some ⟨b, 0, none⟩) 0 0) 0 [] := by
  subst hbb; exact World.ownsRow_made w #[] 0 hb (Nat.zero_le _) rfl
def boolsL (l : List Int) (k : Nat) : List Value := ((l.take k).map (fun n => decide (0 < n))).map .bool
theorem boolsL_succ {l : List Int} {k : Nat} (h : k < l.length) : boolsL l (k + 1) = boolsL l k ++ [.bool (decide (0 < l.getD k 0))] := by
  unfold boolsL
  rw [List.take_succ_eq_append_getElem h, List.map_append, List.map_append, List.getD_eq_getElem?_getD, List.getElem?_eq_getElem h]; rfl
set_option maxRecDepth 100000 in
set_option maxHeartbeats 16000000 in
theorem rfrom_any (lo N : Nat) (A : Option Addr) (n cap : Nat) (cs : List (List Int)) (S0 : Nat → Prop) (hN : N ≤ 400) (hn : n ≤ cap ∧ cap ≤ maxLen) (hcs : ∀ c ∈ cs, Qm.IsCl N c) :
    ∀ (g st : Nat) (pf : List (List Int)) (hs : List (Option Addr × Nat × Nat)) (P : Value) (tk : List Int) (A' : Option Addr) (n' cap' : Nat) (w : World) (S : Nat → Prop),
      RState lo N A n cap cs S0 st P hs pf w.heap.size w → st ≤ 40000 → pf.length + st ≤ 100000 → RInts w S A' n' tk → (∀ k, S k → lo + 6 ≤ k ∧ k < w.heap.size ∧ P.ownBlock ≠ some k) → n' ≤ maxLen → Qm.IsCl N tk → Qm.Meas N tk g →
      Calls Try.prog 58 (caps lo (.slice A' n' cap')) w (RPost lo N A n cap cs S0 P w (Qm.searchR N cs g st pf tk)) := by
  obtain ⟨j0, hj, hj0, hj1, hj2⟩ := info_parts int_info'
  obtain ⟨k0, hkk, hk0, hk1, hk2⟩ := info_parts bool_info
  obtain ⟨i0, hi, hz0, hz1, hz2⟩ := info_parts clause_info
  have Hj := Lib.hid hj; have Hj0 := Lib.hid hj0; have Hj1 := Lib.hid hj1; have Hj2 := Lib.hid hj2
  have Hk' := Lib.hid hkk; have Hk0 := Lib.hid hk0; have Hk1 := Lib.hid hk1; have Hk2 := Lib.hid hk2
  have Hi := Lib.hid hi; have Hz0 := Lib.hid hz0; have Hz1 := Lib.hid hz1; have Hz2 := Lib.hid hz2
  have Hcs := Lib.hid hcs; have Hn := Lib.hid hn
  clear hj hj0 hj1 hj2 hkk hk0 hk1 hk2 hi hz0 hz1 hz2 hcs hn
  intro g
  induction g with
  | zero => intro st pf hs P tk A' n' cap' w S _ _ _ _ _ _ _ hg; exact hg.zero.elim
  | succ g ih =>
    have Hih := Lib.hid ih
    clear ih
    intro st pf hs P tk A' n' cap' w S h hst hpf hr hS hn' hl hg
    unfold maxLen at hn'
    have Hr := Lib.hid hr; have Hl := Lib.hid hl; have H := Lib.hid h; have HS := Lib.hid hS; have Hlen := Lib.hid hr.len; have Hg := Lib.hid hg
    have hs0 := h.sb.cell 0
    have hsf := h.sb.free 0
    have ho0 := h.ob.cell 0
    have hof := h.ob.free 0
    have hlow : lo + 6 ≤ w.heap.size := h.base_
    simp only [List.getElem?_cons_zero, List.getElem?_cons_succ] at hs0 ho0
    clear hr hl h hS hg
    unfold caps
    by_cases hst0 : st = 0
    · subst hst0
      have HR : Hid (Qm.searchR N cs (g + 1) 0 pf tk = .out) := by show _ = _; unfold Qm.searchR; rw [if_pos (.inl rfl)]
      go_enter Try.func58, Try.ntmps58
      go_wp2_with fail
      go_ret
      rw [HR.out]
      exact ⟨Far.set_ (D := Touch lo P) (.inr (.inr (.inl rfl))) 0 _, rfl, Whole.set_ H.out.ob 0 (.bool true)⟩
    · have hst1 : ((st : Int) == 0) = false := by simp; omega
      by_cases h60 : 60 < n'
      · have h60' : decide ((60 : Int) < (n' : Int)) = true := by simp; omega
        have HR : Hid (Qm.searchR N cs (g + 1) st pf tk = .out) := by show _ = _; unfold Qm.searchR; rw [if_pos (.inr (by rw [Hlen.out]; exact h60))]
        go_enter Try.func58, Try.ntmps58
        go_wp2_with fail
        go_ret
        rw [HR.out]
        exact ⟨Far.set_ (D := Touch lo P) (.inr (.inr (.inl rfl))) 0 _, rfl, Whole.set_ H.out.ob 0 (.bool true)⟩
      · have h60' : decide ((60 : Int) < (n' : Int)) = false := by simp; omega
        have HR : Hid (¬ (st = 0 ∨ 60 < tk.length)) := by show ¬ _; rw [Hlen.out]; omega
        obtain ⟨s1, rfl⟩ : ∃ s, st = s + 1 := ⟨st - 1, by omega⟩
        have hfb0 := H.out.fb.cell 0
        have hfb1 := H.out.fb.cell 1
        simp only [List.getElem?_cons_zero, List.getElem?_cons_succ] at hfb0 hfb1
        go_enter Try.func58, Try.ntmps58
        go_wp2_with fail
        have h1 := H.out.steps s1
        have Hfar0 : Hid (Far (fun i => i = lo + 1) w (w.setCell ⟨lo + 1, 0, none⟩ (.int .i64 (s1 : Int)))) := Far.set_ (D := fun i => i = lo + 1) rfl 0 _
        have hzA : (w.setCell ⟨lo + 1, 0, none⟩ (.int .i64 (s1 : Int))).heap.size = w.heap.size := by simp [World.setCell]
        generalize hwA : w.setCell ⟨lo + 1, 0, none⟩ (.int .i64 (s1 : Int)) = wA at h1 Hfar0 hzA ⊢
        have HzA := Lib.hid hzA; have HA := Lib.hid h1
        have hsA : w.heap.size ≤ wA.heap.size := by rw [hzA]; exact Nat.le_refl _
        have HrA : Hid (RInts wA S A' n' tk) := Hfar0.out.ints Hr.out (fun k hk => ⟨(HS.out k hk).2.1, by have := (HS.out k hk).1; omega⟩)
        have HSA : Hid (∀ k, S k → k < wA.heap.size) := fun k hk => by have := (HS.out k hk).2.1; omega
        clear hwA hzA h1 hs0 hsf ho0 hof hfb0 hfb1
        refine (rfollows_any A A' n cap n' cap' N cs tk wA (fun k => S0 k ∨ S k) (fun k hk => by rcases hk with hk | hk; (have := HA.out.s0 k hk; omega); exact HSA.out k hk) (HA.out.cls.more (fun k hk => .inl hk)) (HrA.out.more (fun k hk => .inr hk)) Hn.out (by omega) hN Hcs.out Hl.out).mono ?_
        rintro e w1 ⟨A1, n1, c1, he, hr1, hn1, hc1, hb1⟩
        subst he
        have HA1 := Lib.hid (HA.out.below hb1)
        have Hr1 := Lib.hid (HrA.out.below hb1 HSA.out)
        have Hb1 := Lib.hid hb1
        have Hrl := Lib.hid hr1
        have hs1 : wA.heap.size ≤ w1.heap.size := hb1.size
        have Hfar1 : Hid (Far (Touch lo P) w w1) := (Hfar0.out.mono (fun i h => .inl h)).trans (Far.of_below (Touch lo P) hb1) (fun i _ h => h)
        have HS1 : Hid (∀ k, S k → lo + 6 ≤ k ∧ k < w1.heap.size ∧ P.ownBlock ≠ some k) := fun k hk => ⟨(HS.out k hk).1, by have := HSA.out k hk; omega, (HS.out k hk).2.2⟩
        clear hb1 hr1
        cases hfv : Qm.followsV N cs tk with
        | none =>
          have HR2 : Hid (Qm.searchR N cs (g + 1) (s1 + 1) pf tk = .no s1 (pf ++ [tk.map Neg.neg])) := by
            show _ = _
            unfold Qm.searchR
            rw [if_neg HR.out, hfv]; rfl
          clear hfv
          obtain ⟨wv, hwv⟩ : ∃ x, x = w1 := ⟨_, rfl⟩
          obtain ⟨stv, hstv⟩ : ∃ x, x = s1 := ⟨_, rfl⟩
          obtain ⟨Pv, hPv⟩ : ∃ x, x = P := ⟨_, rfl⟩
          obtain ⟨hsv, hhsv⟩ : ∃ x, x = hs := ⟨_, rfl⟩
          obtain ⟨pfv, hpfv⟩ : ∃ x, x = pf := ⟨_, rfl⟩
          rw [← hwv]
          have HV : Hid (RState lo N A n cap cs S0 stv Pv hsv pfv w.heap.size wv) := by rw [hwv, hstv, hPv, hhsv, hpfv]; exact HA1.out
          have Hrv : Hid (RInts wv S A' n' tk) := by rw [hwv]; exact Hr1.out
          have HSv : Hid (∀ k, S k → lo + 6 ≤ k ∧ k < wv.heap.size ∧ Pv.ownBlock ≠ some k) := by rw [hwv, hPv]; exact HS1.out
          have Hfarv : Hid (Far (Touch lo P) w wv) := by rw [hwv]; exact Hfar1.out
          have HPv : Hid (Pv.ownBlock = P.ownBlock ∨ ∃ g, Pv.ownBlock = some g ∧ w.heap.size ≤ g) := by rw [hPv]; exact .inl rfl
          have hpv : pfv.length + stv ≤ 100000 := by rw [hpfv, hstv]; omega
          have HR3 : Hid (Qm.searchR N cs (g + 1) (s1 + 1) pf tk = .no stv (pfv ++ [tk.map Neg.neg])) := by rw [hpfv, hstv]; exact HR2.out
          clear hwv hstv hPv hhsv hpfv
          have hpl : pfv.length ≤ 100000 := by omega
          have hvlo := HV.out.base_
          have hvhi := HV.out.hi_
          go_wp2_with fail
          go_loopg [15, 105] n' (fun g v i wr => ∃ k : Nat, Hid (k + g = n') ∧ i = .int .i64 k ∧ wr.ownsRow wv.heap.size 3 1 v k (negTo tk k) ∧ Below wv.heap.size wv wr)
          case atStart => exact ⟨0, Nat.zero_add _, rfl, World.ownsRow_made wv #[] 0 (Nat.le_refl _) (Nat.zero_le _) rfl, (Below.refl _ _).alloc (Nat.le_refl _) _⟩
          case round =>
            obtain ⟨k, Hk, rfl, hown, hbel⟩ := hrel
            have Hown := Lib.hid hown; have Hbel := Lib.hid hbel
            have hwr : wv.heap.size ≤ wr.heap.size := hbel.size
            clear hown hbel
            by_cases hk : k < n'
            · obtain ⟨bi, oi, rfl, hbi, hcell⟩ := (Hrv.out.below Hbel.out (fun k hk => (HSv.out k hk).2.1)).at_ hk
              have hlc : k < tk.length := by rw [Hlen.out]; exact hk
              have hlx : Qm.IsLit N (tk.getD k 0) := Hl.out _ (getD_mem (d := 0) hlc)
              generalize hx : tk.getD k 0 = x at hcell hlx
              have Hsn := Lib.hid (negTo_succ hlc hx)
              clear hx
              have hxb : -400 ≤ x ∧ x ≤ 400 := by have := hlx.2; omega
              clear hlx hlc
              go_wp2_with (at_builtin; refine wpList_append_own _ rfl _ _ 37 rfl wv.heap.size 3 j0 (.int .i64 0) 1 8 Try.underlying37 Hj.out Hj0.out Hj1.out Hj2.out rfl (by decide) _ _ _ rfl (Hown.out.alloc _) ⟨wr.heap.size, 0, none⟩ 1 1 [.int .i64 (-x)] rfl rfl (cell_one_new _ _ _) (by simp [Value.oneCell']) (by unfold maxLen; omega) (by omega) (by simp; omega) ?_)
              intro v' w5 hown5 hg5 _
              have Hown5 : Hid (w5.ownsRow wv.heap.size 3 1 v' (k + 1) (negTo tk (k + 1))) := by rw [Hsn.out]; exact hown5
              have Hbel5 : Hid (Below wv.heap.size wv w5) := (Hbel.out.alloc hwr _).grown hg5 (by simp; omega) (fun k e => (Hown.out.lt k e).1)
              clear hown5 hg5
              go_wp2_with fail
              go_roundg (gk - 1)
              case measure => have := Hk.out; omega
              case rel => exact ⟨k + 1, by have := Hk.out; show _ = _; omega, by go_num, Hown5.out, Hbel5.out⟩
            · obtain rfl : k = n' := by have := Hk.out; omega
              obtain ⟨A2, c2, rfl, h1, h2, hrow⟩ := own_form Hown.out
              have hrow' : RInts wr (fun j => wv.heap.size ≤ j ∧ j < wr.heap.size) A2 k (tk.map Neg.neg) := by
                have := hrow
                unfold negTo at this
                rwa [List.take_of_length_le (by rw [Hlen.out]; exact Nat.le_refl _)] at this
              have Hrow := Lib.hid hrow'; have Hc2 : Hid (k ≤ c2 ∧ c2 ≤ maxLen) := ⟨h1, h2⟩
              have HR_ := Lib.hid (HV.out.below Hbel.out)
              have hs3 := HR_.out.ab.cell 1
              have hsf := HR_.out.ab.free 1
              simp only [List.getElem?_cons_zero, List.getElem?_cons_succ] at hs3
              have hbw : lo + 3 < wr.heap.size := HR_.out.ab.lt
              have Hpne : Hid (Pv.ownBlock ≠ some (lo + 3)) := own_ne HR_.out.own HR_.out.ab (by decide)
              clear hrow hrow' h1 h2
              go_wp2_with (at_builtin; refine wpList_append_own_at _ rfl _ _ 27 rfl (lo + 6) 37 i0 (.slice none 0 0) 1 24 Try.underlying27 Hi.out Hz0.out Hz1.out Hz2.out rfl (by decide) _ _ _ rfl (HR_.out.own.alloc _) ⟨wr.heap.size, 0, none⟩ 1 1 [.slice A2 k c2] rfl rfl (cell_one_new _ _ _) (by simp [Value.oneCell']) (by unfold maxLen; omega) (by omega) (by simp; omega) ?_)
              intro P' w5 hown5 hg5 _ hat
              obtain ⟨A6, c6, rfl, _, _, _⟩ := own_form hown5
              have Hsz : Hid (wr.heap.size < w5.heap.size) := by have := hg5.size; simp at this; show _ < _; omega
              have HfarB : Hid (Far (fun i => some i = Pv.ownBlock) wv w5) := (Far.of_below (fun i => some i = Pv.ownBlock) (Hbel.out.alloc hwr _)).trans (Far.of_grown (D := fun i => some i = Pv.ownBlock) hg5 (fun i e => e)) (fun i _ h => h)
              have HA5 : Hid (Whole w5 (lo + 3) 57 [.slice none 0 0, Pv]) := HfarB.out.whole HV.out.ab (fun e => Hpne.out e.symm)
              have ht3 := HA5.out.cell 1
              have htf := HA5.out.free 1
              simp only [List.getElem?_cons_zero, List.getElem?_cons_succ] at ht3
              have Hown5 := Lib.hid hown5
              have HP' : Hid ((Value.slice A6 (pfv.length + 1) c6).ownBlock = Pv.ownBlock ∨ ∃ g, (Value.slice A6 (pfv.length + 1) c6).ownBlock = some g ∧ wr.heap.size ≤ g) := by
                rcases hat with h | h
                · exact .inl h
                · exact .inr ⟨_, h, by simp⟩
              have Hrow5 : Hid (RInts w5 (fun j => wv.heap.size ≤ j ∧ j < wr.heap.size) A2 k (tk.map Neg.neg)) := ((Far.of_below (fun i => some i = Pv.ownBlock) ((Below.refl wr.heap.size wr).alloc (Nat.le_refl _) _)).trans (Far.of_grown (D := fun i => some i = Pv.ownBlock) hg5 (fun i e => e)) (fun i _ h => h)).ints Hrow.out (fun j hj => ⟨hj.2, fun e => by have := HV.out.own_hi j e.symm; omega⟩)
              clear hs3 hsf hown5 hg5 hat
              go_wp2_with fail
              go_ret
              rw [HR3.out]
              have hset := HA5.out.set_ 1 (.slice A6 (pfv.length + 1) c6)
              have hfs : Far (fun i => i = lo + 3) w5 (w5.setCell ⟨lo + 3, 1, none⟩ (.slice A6 (pfv.length + 1) c6)) := Far.set_ (D := fun i => i = lo + 3) rfl 1 _
              have hfall : Far (fun i => i = lo + 3 ∨ some i = Pv.ownBlock) wv (w5.setCell ⟨lo + 3, 1, none⟩ (.slice A6 (pfv.length + 1) c6)) := (HfarB.out.mono (fun i h => .inr h)).trans hfs (fun i _ h => .inl h)
              have hsz6 : (w5.setCell ⟨lo + 3, 1, none⟩ (.slice A6 (pfv.length + 1) c6)).heap.size = w5.heap.size := by simp [World.setCell]
              have hne : ∀ i, i < lo + 6 → i ≠ lo + 3 → ¬ (i = lo + 3 ∨ some i = Pv.ownBlock) := fun i hi h0 e => by
                rcases e with e | e
                · exact h0 e
                · have := HV.out.lo_ i e.symm; omega
              have hfin : RPost lo N A n cap cs S0 Pv wv (.no stv (pfv ++ [tk.map Neg.neg])) (.returned (.bool false)) (w5.setCell ⟨lo + 3, 1, none⟩ (.slice A6 (pfv.length + 1) c6)) := by
                refine ⟨hfall.mono (fun i h => by rcases h with h | h; exact .inr (.inl h); exact .inr (.inr (.inr h))), rfl, .slice A6 (pfv.length + 1) c6, hsv ++ [(A2, k, c2)], ⟨hfall.whole HV.out.sb (hne _ (by omega) (by omega)), hfall.whole HV.out.ob (hne _ (by omega) (by omega)), hfall.whole HV.out.fb (hne _ (by omega) (by omega)), hset, hfall.whole HV.out.nb (hne _ (by omega) (by omega)), ?_, ?_, ?_, ?_, Nat.le_refl _, by have := Hsz.out; omega, HV.out.s0⟩, ?_⟩
                · have := hfs.own Hown5.out (fun g hg e => by have := (Hown5.out.lt g hg).1; omega)
                  rw [List.map_append, List.length_append]; exact this
                · intro g hg
                  have := (Hown5.out.lt g hg).2; omega
                · have hPn : ∀ j, j < wr.heap.size → Pv.ownBlock ≠ some j → (Value.slice A6 (pfv.length + 1) c6).ownBlock ≠ some j := fun j hj hj2 e => by
                    rcases HP'.out with h | ⟨gg, h, hgg⟩
                    · rw [h] at e; exact hj2 e
                    · rw [h] at e; injection e with e; omega
                  refine ((hfall.heads HV.out.heads (fun j hj => ⟨by have := hj.2.1; omega, fun e => ?_⟩)).more (fun j hj => ⟨hj.1, by have := hj.2.1; have := Hsz.out; omega, hPn j (by have := hj.2.1; omega) hj.2.2⟩)).append
                    ((Heads.one (hfs.ints Hrow5.out (fun j hj => ⟨by have := Hsz.out; omega, by omega⟩)) Hc2.out).more (fun j hj => ⟨by omega, by have := Hsz.out; omega, hPn j hj.2 (fun e => by have := HV.out.own_hi j e; omega)⟩))
                  rcases e with e | e
                  · have := hj.1; omega
                  · exact hj.2.2 e.symm
                · exact hfall.clauses HV.out.cls (fun j hj => by have := HV.out.s0 j hj; exact ⟨by omega, hne j (by omega) (by omega)⟩)
                · rcases HP'.out with h | ⟨gg, h, hgg⟩
                  · exact .inl h
                  · exact .inr ⟨gg, h, by omega⟩
              exact hfin.step Hfarv.out HPv.out
        | some v' =>
          have hL : ffL N cs tk = Qm.litsTo v' N := by unfold ffL; rw [hfv]
          rw [hL] at Hrl
          clear hL
          have Hfv := Lib.hid hfv
          obtain ⟨_, hf', _, _⟩ := Qm.fol_parts Hcs.out Hl.out hfv
          have Hf' := Lib.hid hf'
          have hn1l := Hrl.out.len
          have Hn1l := Lib.hid hn1l
          clear hf' hfv hn1l
          have hfb0 := HA1.out.fb.cell 0
          have hfb1 := HA1.out.fb.cell 1
          simp only [List.getElem?_cons_zero, List.getElem?_cons_succ] at hfb0 hfb1
          cases hix : Qm.idx0 v' with
          | none =>
            have HR2 : Hid (Qm.searchR N cs (g + 1) (s1 + 1) pf tk = .found (Qm.boolsOf v')) := by
              show _ = _
              unfold Qm.searchR
              rw [if_neg HR.out, Hfv.out]
              simp only [hix]
            obtain ⟨h1, h2⟩ := Qm.litsTo_total Hf'.out hix
            obtain rfl : n1 = N := by rw [← Hn1l.out]; exact h1
            have Hbo := Lib.hid h2
            have hl3 : lo + 3 < w1.heap.size := HA1.out.ab.lt
            have hba0 := HA1.out.ab.cell 0
            have hbaf := HA1.out.ab.free 0
            simp only [List.getElem?_cons_zero, List.getElem?_cons_succ] at hba0
            have Hl3 := Lib.hid hl3
            clear hix h1 h2
            go_wp2_with fail
            have hsetA := Whole.alloc (HA1.out.ab.set_ 0 (.slice (some ⟨w1.heap.size, 0, none⟩) 0 0)) (.cells #[] 4)
            have hfarA : Far (fun i => i = lo + 3) w1 ((w1.setCell ⟨lo + 3, 0, none⟩ (.slice (some ⟨w1.heap.size, 0, none⟩) 0 0)).alloc (.cells #[] 4)) := (Far.set_ (D := fun i => i = lo + 3) rfl 0 _).trans (Far.of_below (fun _ => False) ((Below.refl _ _).alloc (Nat.le_refl _) _)) (fun i _ h => absurd h id)
            have hownA : ((w1.setCell ⟨lo + 3, 0, none⟩ (.slice (some ⟨w1.heap.size, 0, none⟩) 0 0)).alloc (.cells #[] 4)).ownsRow w1.heap.size 4 1 (.slice (some ⟨w1.heap.size, 0, none⟩) 0 0) 0 [] := by
              have := World.ownsRow_made (base := w1.heap.size) (e := 4) (size := 1) (w1.setCell ⟨lo + 3, 0, none⟩ (.slice (some ⟨w1.heap.size, 0, none⟩) 0 0)) #[] 0 (by simp [World.setCell]) (Nat.zero_le _) rfl
              have e : (w1.setCell ⟨lo + 3, 0, none⟩ (.slice (some ⟨w1.heap.size, 0, none⟩) 0 0)).heap.size = w1.heap.size := by simp [World.setCell]
              rw [e] at this; exact this
            simp only [List.set_cons_zero] at hsetA
            have HsetA := Lib.hid hsetA; have HfarA := Lib.hid hfarA; have HownA := Lib.hid hownA
            clear hsetA hfarA hownA hba0 hbaf hfb0 hfb1
            go_loopg [46] n1 (fun g i wr => ∃ (k : Nat) (M : Value), Hid (k + g = n1) ∧ i = .int .i64 k ∧ wr.ownsRow w1.heap.size 4 1 M k (boolsL (Qm.litsTo v' n1) k) ∧ M ≠ .slice none 0 0 ∧ Whole wr (lo + 3) 57 [M, P] ∧ Far (fun i => i = lo + 3) w1 wr)
            case atStart => exact ⟨0, _, Nat.zero_add _, rfl, HownA.out, (by intro h; cases h), HsetA.out, HfarA.out⟩
            case round =>
              obtain ⟨k, M, Hk, rfl, hown, hnn, hab, hfar⟩ := hrel
              have Hown := Lib.hid hown; have Hab := Lib.hid hab; have Hfar := Lib.hid hfar; have Hnn := Lib.hid hnn
              have hwr : w1.heap.size ≤ wr.heap.size := hfar.size
              by_cases hk : k < n1
              · obtain ⟨bi, oi, rfl, hbi, hcell⟩ := (hfar.ints Hrl.out (fun j hj => ⟨hj.2, by have := Hl3.out; have := HA.out.base_; have := hj.1; omega⟩)).at_ hk
                have hlc : k < (Qm.litsTo v' n1).length := by rw [Hn1l.out]; exact hk
                have hsn := boolsL_succ hlc
                generalize (Qm.litsTo v' n1).getD k 0 = x at hcell hsn
                have hb4 := hab.cell 0
                have hf4 := hab.free 0
                simp only [List.getElem?_cons_zero, List.getElem?_cons_succ] at hb4
                have Hsn := Lib.hid hsn
                clear hown hab hfar hsn hlc hnn
                have hcx : decide (0 < x) = true ∨ decide (0 < x) = false := by cases decide (0 < x) <;> simp
                rcases hcx with hcx | hcx
                all_goals
                  rw [hcx] at Hsn
                  go_wp2_with (at_builtin; refine wpList_append_own _ rfl _ _ 39 rfl w1.heap.size 4 k0 (.bool false) 1 1 Try.underlying39 Hk'.out Hk0.out Hk1.out Hk2.out rfl (by decide) _ _ _ rfl (Hown.out.alloc _) ⟨wr.heap.size, 0, none⟩ 1 1 [.bool _] rfl rfl (cell_one_new _ _ _) (by simp [Value.oneCell']) (by unfold maxLen; omega) (by omega) (by simp; omega) ?_)
                  intro M' w5 hown5 hg5 hnil5
                  have hnn5 : M' ≠ .slice none 0 0 := by first | exact hnil5 | exact fun e => Hnn.out (hnil5.1 e).1
                  obtain ⟨A5, c5, rfl, _, _, _⟩ := own_form hown5
                  have hMb : M.ownBlock ≠ some (lo + 3) := own_ne Hown.out Hab.out (by decide)
                  have hab5 := Whole.grown (Whole.alloc Hab.out _) hg5 (fun e => hMb e.symm)
                  have hMb5 : (Value.slice A5 (k + 1) c5).ownBlock ≠ some (lo + 3) := own_ne hown5 hab5 (by decide)
                  have h54 := hab5.cell 0
                  have h5f := hab5.free 0
                  simp only [List.getElem?_cons_zero, List.getElem?_cons_succ] at h54
                  have Hfar5 : Hid (Far (fun i => i = lo + 3) w1 w5) := (Hfar.out.trans (Far.of_below (fun _ => False) ((Below.refl _ _).alloc (Nat.le_refl _) _)) (fun i _ h => absurd h (fun x => x))).trans (Far.of_grown (D := fun i => some i = M.ownBlock) hg5 (fun i e => e)) (fun i hi e => by have := (Hown.out.lt i e.symm).1; omega)
                  have Hset := Lib.hid (Whole.set_ hab5 0 (.slice A5 (k + 1) c5))
                  have hfs : Far (fun i => i = lo + 3) w5 (w5.setCell ⟨lo + 3, 0, none⟩ (.slice A5 (k + 1) c5)) := Far.set_ (D := fun i => i = lo + 3) rfl 0 _
                  have Hown6 := Lib.hid (hfs.own hown5 (fun g hg e => hMb5 (by rw [hg, e])))
                  have Hfar6 := Lib.hid (Hfar5.out.trans hfs (fun i _ h => h))
                  have Hnn5 := Lib.hid hnn5
                  clear hown5 hg5 hMb hMb5 hab5 hfs hb4 hf4 hnil5 hnn5
                  go_wp2_with fail
                  go_roundg (gk - 1)
                  case measure => have := Hk.out; omega
                  case rel => exact ⟨k + 1, _, by have := Hk.out; show _ = _; omega, by go_num, by rw [Hsn.out]; exact Hown6.out, Hnn5.out, Hset.out, Hfar6.out⟩
              · obtain rfl : k = n1 := by have := Hk.out; omega
                clear hown hab hfar hnn
                go_wp2_with fail
                go_ret
                rw [HR2.out]
                obtain ⟨AM, cM, rfl, h1, h2, h3⟩ := own_form Hown.out
                have hlen := Qm.boolsOf_len Hf'.out
                have hbt : boolsL (Qm.litsTo v' k) k = (Qm.boolsOf v').map .bool := by unfold boolsL; rw [List.take_of_length_le (by rw [Hn1l.out]; exact Nat.le_refl _), Hbo.out]
                have hA1 := HA1.out
                have hlo1 := HA.out.base_
                have hhi1 := HA.out.hi_
                refine ⟨Hfar1.out.trans Hfar.out (fun i _ h => .inr (.inl h)), rfl, Hfar.out.whole hA1.ob (by omega), P, AM, cM, ?_, ?_, ?_, h2, ?_⟩
                · rw [hlen]; exact Hab.out
                · rw [hlen]
                  rw [hbt] at h3
                  exact Row.more h3 (fun j hj => ⟨by omega, hj.2⟩)
                · rw [hlen]; exact h1
                · cases AM with
                  | some a => rfl
                  | none => exact absurd (show Value.slice none k cM = .slice none 0 0 by
                      rcases Hown.out.2 with ⟨e, _⟩ | ⟨_, _, _, e, _⟩
                      · exact e
                      · cases e) Hnn.out
          | some i =>
            obtain ⟨h1, h2, h3, h4⟩ := Qm.litsTo_open Hf'.out hix
            rw [Hn1l.out] at h1 h2 h4
            obtain ⟨hiN, hi0, _⟩ := Qm.idx0_some Hf'.out hix
            have hne : ((n1 : Int) == (N : Int)) = false := by simp; omega
            have H3 := Lib.hid h3; have H4 := Lib.hid h4; have Hix := Lib.hid hix; have Hi0 := Lib.hid hi0
            clear h1 h3 h4 hix hi0
            go_wp2_with fail
            clear hfb0 hfb1
            go_loopg [12] i (fun g s wr => ∃ q : Nat, Hid (q + g = i) ∧ s = .int .i64 ((q : Int) + 1) ∧ Hid (w1 = wr))
            case atStart => exact ⟨0, Nat.zero_add _, by simp, rfl⟩
            case round =>
              obtain ⟨q, Hq, rfl, Hw⟩ := hrel
              obtain rfl := Hw.out
              clear Hw
              have hqi : q ≤ i := by have := Hq.out; omega
              by_cases hlt : q < i
              · obtain ⟨bi, oi, rfl, _, hcell⟩ := Hrl.out.at_ (k := q) (by omega)
                rcases H3.out q hlt with hx | hx
                · rw [hx] at hcell
                  clear hx
                  go_wp2_with fail
                  go_roundg (gk - 1)
                  case measure => have := Hq.out; omega
                  case rel => exact ⟨q + 1, by have := Hq.out; show _ = _; omega, by simp, rfl⟩
                · rw [hx] at hcell
                  have hne1 : (-((q : Int) + 1) == (q : Int) + 1) = false := by simp; omega
                  clear hx
                  go_wp2_with fail
                  go_roundg (gk - 1)
                  case measure => have := Hq.out; omega
                  case rel => exact ⟨q + 1, by have := Hq.out; show _ = _; omega, by simp, rfl⟩
              · obtain rfl : q = i := by omega
                by_cases hin : q < n1
                · obtain ⟨bi, oi, rfl, _, hcell⟩ := Hrl.out.at_ (k := q) hin
                  have h4 := H4.out hin
                  generalize (Qm.litsTo v' N).getD q 0 = x at hcell h4
                  have hn1' : (x == (q : Int) + 1) = false := by simpa using h4.1
                  have hn2' : (x == -((q : Int) + 1)) = false := by simpa using h4.2
                  clear h4
                  go_wp2_with fail
                  clear hcell hn1' hn2'
                  have Hbs0 : Hid (Below w1.heap.size w1 (w1.alloc (.cells #[.int .i64 (-((q : Int) + 1)), .int .i64 ((q : Int) + 1)] 3))) := (Below.refl _ _).alloc (Nat.le_refl _) _
                  have HSl : Hid (Whole (w1.alloc (.cells #[.int .i64 (-((q : Int) + 1)), .int .i64 ((q : Int) + 1)] 3)) w1.heap.size 3 [.int .i64 (-((q : Int) + 1)), .int .i64 ((q : Int) + 1)]) := Whole.new w1 _ _ _ rfl
                  generalize w1.alloc (.cells #[.int .i64 (-((q : Int) + 1)), .int .i64 ((q : Int) + 1)] 3) = wk at *
                  obtain ⟨bS, hbS⟩ : ∃ x, x = w1.heap.size := ⟨_, rfl⟩
                  rw [← hbS] at HSl ⊢
                  have HbS := Lib.hid hbS; clear hbS
                  have HC0 := Lib.hid (HA1.out.below Hbs0.out)
                  have HTc := Lib.hid (Hr1.out.below Hbs0.out (fun k hk => (HS1.out k hk).2.1))
                  have HSc0 : Hid (∀ k, S k → lo + 6 ≤ k ∧ k < wk.heap.size ∧ P.ownBlock ≠ some k) := fun k hk => ⟨(HS1.out k hk).1, by have := (HS1.out k hk).2.1; have := Hbs0.out.size; omega, (HS1.out k hk).2.2⟩
                  have Hfarc := Lib.hid (Hfar1.out.trans (Far.of_below (Touch lo P) Hbs0.out) (fun i _ h => h))
                  have hq400 : (q : Int) < 400 := by omega
                  have hl1 := Qm.lit_pos hiN
                  have hvq : Qm.vof v' ((q : Int) + 1) = 0 := by rw [Qm.vof_pos]; exact Hi0.out
                  have Hmp : Hid (Qm.Meas N (tk ++ [(q : Int) + 1]) g) := Hg.out.next Hcs.out Hl.out Hfv.out hl1 hvq
                  have Hmn : Hid (Qm.Meas N (tk ++ [-((q : Int) + 1)]) g) := Hg.out.next Hcs.out Hl.out Hfv.out hl1.neg (by rw [Qm.vof_neg v' _ hl1.1, hvq]; rfl)
                  have Hnn := Lib.hid hl1.neg; have Hnp := Lib.hid hl1
                  clear hl1 hvq
                  have hc0 := HSl.out.cell 0
                  have hc1 := HSl.out.cell 1
                  simp only [List.getElem?_cons_zero, List.getElem?_cons_succ] at hc0 hc1
                  have hnnb : -400 ≤ -((q : Int) + 1) ∧ -((q : Int) + 1) < 0 := by omega
                  generalize hnne : -((q : Int) + 1) = nn at *
                  have Hnne := Lib.hid hnne; clear hnne
                  obtain ⟨stc, hstc⟩ : ∃ x, x = s1 := ⟨_, rfl⟩
                  obtain ⟨Pc, hPc⟩ : ∃ x, x = P := ⟨_, rfl⟩
                  obtain ⟨hsc, hhsc⟩ : ∃ x, x = hs := ⟨_, rfl⟩
                  obtain ⟨pfc, hpfc⟩ : ∃ x, x = pf := ⟨_, rfl⟩
                  have HC : Hid (RState lo N A n cap cs S0 stc Pc hsc pfc w.heap.size wk) := by rw [hstc, hPc, hhsc, hpfc]; exact HC0.out
                  have HSc : Hid (∀ k, S k → lo + 6 ≤ k ∧ k < wk.heap.size ∧ Pc.ownBlock ≠ some k) := by rw [hPc]; exact HSc0.out
                  have hstc' : stc ≤ 40000 := by omega
                  have hpfc' : pfc.length + stc ≤ 100000 := by rw [hstc, hpfc]; omega
                  have HPc : Hid (Pc.ownBlock = P.ownBlock ∨ ∃ g, Pc.ownBlock = some g ∧ w.heap.size ≤ g) := by rw [hPc]; exact .inl rfl
                  have Hec := Lib.hid hstc; have Hef := Lib.hid hpfc; have Hep := Lib.hid hPc
                  clear hstc hPc hhsc hpfc HC0 HSc0 Hbs0
                  have Htouch : Hid (∀ i, i < w.heap.size → Touch lo Pc i → Touch lo P i) := by rw [Hep.out]; exact fun i _ h => h
                  have HS0 : Hid (∀ (r1 : Qm.Res), Qm.searchR N cs g s1 pf (tk ++ [nn]) = r1 → Qm.searchR N cs (g + 1) (s1 + 1) pf tk = match r1 with
                      | .out => .out
                      | .found m => .found m
                      | .no st1 pf1 => match Qm.searchR N cs g st1 pf1 (tk ++ [(q : Int) + 1]) with
                        | .out => .out
                        | .found m => .found m
                        | .no st2 pf2 => .no st2 (pf2 ++ [tk.map Neg.neg])) := by
                    intro r1 h1
                    conv => lhs; unfold Qm.searchR
                    rw [if_neg HR.out, Hfv.out]
                    simp only [Hix.out, Nat.add_sub_cancel, Hnne.out, h1]
                    cases r1 <;> rfl
                  refine wp_loop_rounds 3 ?_
                  rw [rounds_succ]
                  go_wp2_with fail
                  have hnb0 := HC.out.nb.cell 0
                  simp only [List.getElem?_cons_zero, clo] at hnb0
                  have hl5c : lo + 5 < wk.heap.size := HC.out.nb.lt
                  have Hcall : Hid (∀ (A6 : Option Addr) (c6 : Nat) (w6 : World), Below wk.heap.size wk w6 → w6.ownsRow wk.heap.size 3 1 (.slice A6 (n' + 1) c6) (n' + 1) (tk.map (.int .i64) ++ [.int .i64 nn]) → Calls Try.prog 58 (caps lo (.slice A6 (n' + 1) c6)) w6 (RPost lo N A n cap cs S0 Pc wk (Qm.searchR N cs g stc pfc (tk ++ [nn])))) := by
                    intro A6 c6 w6 hb ho
                    obtain ⟨_, _, e6, _, _, hrow6⟩ := own_form ho
                    injection e6 with e61 e62 e63
                    subst e61
                    have hst6 : RState lo N A n cap cs S0 stc Pc hsc pfc w6.heap.size w6 := (HC.out.below hb).up (Nat.le_trans HC.out.hi_ hb.size) (Nat.le_refl _)
                    have hr6 : RInts w6 (fun k => wk.heap.size ≤ k ∧ k < w6.heap.size) A6 (n' + 1) (tk ++ [nn]) := by
                      show Row _ _ _ _ _
                      rw [List.map_append]; exact hrow6
                    have hbs := HC.out.base_
                    have hhs := HC.out.hi_
                    exact (Hih.out stc pfc hsc Pc (tk ++ [nn]) A6 (n' + 1) c6 w6 _ hst6 hstc' hpfc' hr6 (fun k hk => ⟨by omega, hk.2, fun e => by have := HC.out.own_hi k e; omega⟩) (by unfold maxLen; omega) (Qm.lits_snoc Hl.out Hnn.out) Hmn.out).mono (fun e w7 h7 => h7.step (Far.of_below (Touch lo Pc) hb) (.inl rfl))
                  generalize hres : Qm.searchR N cs g stc pfc (tk ++ [nn]) = r at Hcall
                  have Hres := Lib.hid hres; clear hres
                  have HEc : Hid (∀ o : Obj, Below wk.heap.size wk (wk.alloc o)) := fun o => (Below.refl _ _).alloc (Nat.le_refl _) o
                  have HTcr : Hid (∀ W, Below wk.heap.size wk W → Row W S A' n' (tk.map (.int .i64))) := fun W hW => Row.below HTc.out hW (fun k hk => (HSc.out k hk).2.1)
                  have henter := callFuncR
                  go_cut [100] (fun s100 wx => RPost lo N A n cap cs S0 Pc wk r (.returned s100) wx)
                  case first =>
                    go_region_held3 (fun w' => w'.cell? ⟨lo + 5, 0, none⟩ = some (.func (.func 58) #[] #[.pointer (some ⟨lo + 1, 0, none⟩), .pointer (some ⟨lo + 4, 0, none⟩), .pointer (some ⟨lo, 0, none⟩), .pointer (some ⟨lo + 3, 0, none⟩), .pointer (some ⟨lo + 5, 0, none⟩)]))
                      (first | go_keep | exact hk5 | exact hk6 | exact hk7)
                      (first
                        | (first
                            | (refine step_append_row rfl (.tmp 94) (.tmp 95) 24 rfl wk.heap.size 3 j0 (.int .i64 0) 8 Try.underlying24 Hj.out Hj0.out Hj1.out Hj2.out rfl (.slice (some ⟨wk.heap.size, 0, none⟩) 0 0) 0 [] (by simp [Act.eval, Act.put]) (World.ownsRow_made wk #[] 0 (Nat.le_refl _) (Nat.zero_le _) rfl) A' n' cap' (tk.map (.int .i64)) (by simp [Act.eval, Act.put]) S (HTcr.out _ (below_drewN (HEc.out _) 1)) (int_one tk) (by unfold maxLen; omega) (by omega) (by simp) ?_
                               intro A5 c5 w5 hn5 hc5 hown5 hg5
                               have hb5 : Below wk.heap.size wk w5 := (below_drewN (HEc.out _) 1).trans (below_of_grown hg5 (by simp) (fun k e => by simp [Value.ownBlock] at e; omega)))
                            | (refine step_append_row rfl (.tmp 94) (.tmp 95) 24 rfl wk.heap.size 3 j0 (.int .i64 0) 8 Try.underlying24 Hj.out Hj0.out Hj1.out Hj2.out rfl (.slice (some ⟨wk.heap.size, 0, none⟩) 0 0) 0 [] (by simp [Act.eval, Act.put]) ((World.ownsRow_made wk #[] 0 (Nat.le_refl _) (Nat.zero_le _) rfl).alloc _) A' n' cap' (tk.map (.int .i64)) (by simp [Act.eval, Act.put]) S (HTcr.out _ (below_drewN ((HEc.out _).alloc (HEc.out _).size _) 1)) (int_one tk) (by unfold maxLen; omega) (by omega) (by simp; omega) ?_
                               intro A5 c5 w5 hn5 hc5 hown5 hg5
                               have hb5 : Below wk.heap.size wk w5 := (below_drewN ((HEc.out _).alloc (HEc.out _).size _) 1).trans (below_of_grown hg5 (by simp; omega) (fun k e => by simp [Value.ownBlock] at e; omega))
                               have hN5 : Whole w5 (wk.heap.size + 1) 3 [.int .i64 nn] := Whole.grown (Whole.drewN (Whole.new (wk.alloc (.cells #[] 3)) (wk.heap.size + 1) 3 [.int .i64 nn] (by simp)) 1) hg5 (fun e => by simp [Value.ownBlock] at e))
                            | (refine step_append_row rfl (.tmp 94) (.tmp 95) 24 rfl wk.heap.size 3 j0 (.int .i64 0) 8 Try.underlying24 Hj.out Hj0.out Hj1.out Hj2.out rfl (.slice (some ⟨wk.heap.size + 1, 0, none⟩) 0 0) 0 [] (by simp [Act.eval, Act.put]) (own_made_at (wk.alloc (.cells #[.int .i64 nn] 3)) (by simp) (by simp)) A' n' cap' (tk.map (.int .i64)) (by simp [Act.eval, Act.put]) S (HTcr.out _ (below_drewN ((HEc.out _).alloc (HEc.out _).size _) 1)) (int_one tk) (by unfold maxLen; omega) (by omega) (by simp; omega) ?_
                               intro A5 c5 w5 hn5 hc5 hown5 hg5
                               have hb5 : Below wk.heap.size wk w5 := (below_drewN ((HEc.out _).alloc (HEc.out _).size _) 1).trans (below_of_grown hg5 (by simp; omega) (fun k e => by simp [Value.ownBlock] at e; omega))
                               have hN5 : Whole w5 wk.heap.size 3 [.int .i64 nn] := Whole.grown (Whole.drewN (Whole.alloc (Whole.new wk wk.heap.size 3 [.int .i64 nn] rfl) _) 1) hg5 (fun e => by simp [Value.ownBlock] at e))
                           have hown5' : w5.ownsRow wk.heap.size 3 1 (.slice A5 n' c5) n' (tk.map (.int .i64)) := by simpa using hown5
                           have hs5 := hb5.size
                           have hl55 : lo + 5 < w5.heap.size := Nat.lt_of_lt_of_le hl5c hs5
                           have hk5 := (hb5.cell (p := ⟨lo + 5, 0, none⟩) hl5c).trans hnb0)
                        | (first
                            | (refine step_append_row rfl (.tmp 96) (.tmp 98) 24 rfl wk.heap.size 3 j0 (.int .i64 0) 8 Try.underlying24 Hj.out Hj0.out Hj1.out Hj2.out rfl (.slice A5 n' c5) n' (tk.map (.int .i64)) (by simp [Act.eval, Act.put]) (hown5'.alloc _) (some ⟨w5.heap.size, 0, none⟩) 1 1 [.int .i64 nn] (by simp [Act.eval, Act.put]) (fun _ => True) (Whole.row (Whole.new w5 w5.heap.size 3 [.int .i64 nn] rfl) trivial rfl) (by simp [Value.oneCell']) (by unfold maxLen; omega) (by omega) (by simp; omega) ?_
                               intro A6 c6 w6 hn6 hc6 hown6 hg6
                               have hb6 : Below wk.heap.size wk w6 := (hb5.alloc hs5 _).trans (below_of_grown hg6 (by simp; omega) (fun k e => (hown5'.lt k e).1)))
                            | (refine step_append_row rfl (.tmp 96) (.tmp 98) 24 rfl wk.heap.size 3 j0 (.int .i64 0) 8 Try.underlying24 Hj.out Hj0.out Hj1.out Hj2.out rfl (.slice A5 n' c5) n' (tk.map (.int .i64)) (by simp [Act.eval, Act.put]) hown5' (some ⟨wk.heap.size + 1, 0, none⟩) 1 1 [.int .i64 nn] (by simp [Act.eval, Act.put]) (fun _ => True) (Whole.row hN5 trivial rfl) (by simp [Value.oneCell']) (by unfold maxLen; omega) (by omega) hs5 ?_
                               intro A6 c6 w6 hn6 hc6 hown6 hg6
                               have hb6 : Below wk.heap.size wk w6 := hb5.trans (below_of_grown hg6 hs5 (fun k e => (hown5'.lt k e).1)))
                            | (refine step_append_row rfl (.tmp 96) (.tmp 98) 24 rfl wk.heap.size 3 j0 (.int .i64 0) 8 Try.underlying24 Hj.out Hj0.out Hj1.out Hj2.out rfl (.slice A5 n' c5) n' (tk.map (.int .i64)) (by simp [Act.eval, Act.put]) hown5' (some ⟨wk.heap.size, 0, none⟩) 1 1 [.int .i64 nn] (by simp [Act.eval, Act.put]) (fun _ => True) (Whole.row hN5 trivial rfl) (by simp [Value.oneCell']) (by unfold maxLen; omega) (by omega) hs5 ?_
                               intro A6 c6 w6 hn6 hc6 hown6 hg6
                               have hb6 : Below wk.heap.size wk w6 := hb5.trans (below_of_grown hg6 hs5 (fun k e => (hown5'.lt k e).1)))
                           have hk6 := (hb6.cell (p := ⟨lo + 5, 0, none⟩) hl5c).trans hnb0)
                        | (go_at_call 58
                           refine (Hcall.out A6 c6 w6 hb6 hown6).mono ?_
                           intro e w7 hpost
                           obtain ⟨bb, rfl⟩ := hpost.ret
                           have hk7 : w7.cell? ⟨lo + 5, 0, none⟩ = some (.func (.func 58) #[] #[.pointer (some ⟨lo + 1, 0, none⟩), .pointer (some ⟨lo + 4, 0, none⟩), .pointer (some ⟨lo, 0, none⟩), .pointer (some ⟨lo + 3, 0, none⟩), .pointer (some ⟨lo + 5, 0, none⟩)]) := (hpost.1.cell (p := ⟨lo + 5, 0, none⟩) hl5c (fun e => by
                             rcases e with e | e | e | e
                             · have e' : lo + 5 = lo + 1 := e; omega
                             · have e' : lo + 5 = lo + 3 := e; omega
                             · have e' : lo + 5 = lo + 4 := e; omega
                             · have := HC.out.lo_ _ e.symm; have e' : lo + 6 ≤ lo + 5 := this; omega)).trans hnb0))
                    all_goals
                      go_wp2_with fail
                      go_meet
                      exact hpost
                  case rest =>
                    have Hres' : Hid (Qm.searchR N cs g s1 pf (tk ++ [nn]) = r) := by rw [← Hec.out, ← Hef.out]; exact Hres.out
                    clear henter hnb0 hc0 hc1
                    cases r with
                    | out =>
                      have HR3 := Lib.hid (HS0.out _ Hres'.out)
                      obtain ⟨hfar, he, hob⟩ := hcut
                      injection he with he
                      subst he
                      have Hfar9 := Lib.hid (Hfarc.out.trans hfar (fun i hi h => Htouch.out i hi h)); have Hob := Lib.hid hob
                      clear hfar hob
                      go_wp2_with fail
                      go_ret
                      rw [HR3.out]
                      exact ⟨Hfar9.out, rfl, Hob.out⟩
                    | found m =>
                      have HR3 := Lib.hid (HS0.out _ Hres'.out)
                      obtain ⟨hfar, he, hob, P9, M9, c9, ha9, hb9, hm9, hm9', hsome⟩ := hcut
                      injection he with he
                      subst he
                      have Hfar9 := Lib.hid (Hfarc.out.trans hfar (fun i hi h => Htouch.out i hi h))
                      have Hall : Hid (_ ∧ _ ∧ _ ∧ _ ∧ _ ∧ _) := ⟨hob, ha9, hb9, hm9, hm9', hsome⟩
                      clear hfar hob ha9 hb9 hm9 hm9' hsome
                      go_wp2_with fail
                      go_ret
                      rw [HR3.out]
                      exact ⟨Hfar9.out, rfl, Hall.out.1, P9, M9, c9, Hall.out.2.1, Hall.out.2.2.1, Hall.out.2.2.2.1, Hall.out.2.2.2.2.1, Hall.out.2.2.2.2.2⟩
                    | no st1 pf1 =>
                      have HS1' := Lib.hid (HS0.out _ Hres'.out)
                      obtain ⟨hfar, he, P1, hs1, hst1, hP1⟩ := hcut
                      injection he with he
                      subst he
                      have hlen := Qm.searchR_len _ _ _ _ Hres.out
                      have hst1' : st1 ≤ 40000 := by omega
                      have hpf1' : pf1.length + st1 ≤ 100000 := by omega
                      have HC2 := Lib.hid hst1
                      have HSl2 : Hid (Whole wc bS 3 [.int .i64 nn, .int .i64 ((q : Int) + 1)]) := hfar.whole HSl.out (fun e => by
                        have hbs1 := HbS.out
                        have hb6 := HA1.out.base_
                        have hh6 := HA1.out.hi_
                        rcases e with e | e | e | e
                        · omega
                        · omega
                        · omega
                        · exact (own_ne HC.out.own HSl.out (by decide)) e.symm)
                      have HT2 : Hid (RInts wc S A' n' tk) := hfar.ints HTc.out (fun k hk => ⟨(HSc.out k hk).2.1, fun e => by
                        have := (HSc.out k hk).1
                        rcases e with e | e | e | e
                        · omega
                        · omega
                        · omega
                        · exact (HSc.out k hk).2.2 e.symm⟩)
                      have HSn : Hid (∀ k, S k → lo + 6 ≤ k ∧ k < wc.heap.size ∧ P1.ownBlock ≠ some k) := fun k hk => ⟨(HSc.out k hk).1, by have := (HSc.out k hk).2.1; have := hfar.size; omega, fun e => by
                        rcases hP1 with h | ⟨gg, h, hgg⟩
                        · rw [h] at e; exact (HSc.out k hk).2.2 e
                        · rw [h] at e; injection e with e; have := (HSc.out k hk).2.1; omega⟩
                      have Hfarc2 := Lib.hid (Hfarc.out.trans hfar (fun i hi h => Htouch.out i hi h))
                      have hwk : w.heap.size ≤ wk.heap.size := Hfarc.out.size
                      have Htouch2 : Hid (∀ i, i < w.heap.size → Touch lo P1 i → Touch lo P i) := fun i hi e => by
                        rcases e with e | e | e | e
                        · exact .inl e
                        · exact .inr (.inl e)
                        · exact .inr (.inr (.inl e))
                        · rcases hP1 with h | ⟨gg, h, hgg⟩
                          · exact Htouch.out i hi (.inr (.inr (.inr (e.trans h))))
                          · rw [h] at e; injection e with e; omega
                      have HP1 : Hid (P1.ownBlock = P.ownBlock ∨ ∃ gg, P1.ownBlock = some gg ∧ w.heap.size ≤ gg) := by
                        rcases hP1 with h | ⟨gg, h, hgg⟩
                        · exact .inl (by rw [h, Hep.out])
                        · exact .inr ⟨gg, h, by omega⟩
                      clear hfar hst1 hP1 hlen
                      have hc1 := HSl2.out.cell 1
                      simp only [List.getElem?_cons_zero, List.getElem?_cons_succ] at hc1
                      go_wp2_with fail
                      rw [rounds_succ]
                      obtain ⟨nm, hnm⟩ : ∃ x, x = nn := ⟨_, rfl⟩
                      have Hnm := Lib.hid hnm; clear hnm
                      obtain ⟨nn, hnn⟩ : ∃ x, x = (q : Int) + 1 := ⟨_, rfl⟩
                      have hnnb : 1 ≤ nn ∧ nn ≤ 400 := by omega
                      rw [← hnn] at hc1
                      have Hnn2 : Hid (Qm.IsLit N nn) := by rw [hnn]; exact Hnp.out
                      have Hmn2 : Hid (Qm.Meas N (tk ++ [nn]) g) := by rw [hnn]; exact Hmp.out
                      have HS1 : Hid (∀ (r2 : Qm.Res), Qm.searchR N cs g st1 pf1 (tk ++ [nn]) = r2 → Qm.searchR N cs (g + 1) (s1 + 1) pf tk = match r2 with
                          | .out => .out
                          | .found m => .found m
                          | .no st2 pf2 => .no st2 (pf2 ++ [tk.map Neg.neg])) := by
                        intro r2 h2
                        rw [HS1'.out, ← hnn, h2]
                      have Hnn3 := Lib.hid hnn
                      clear hnn
                      clear HC HTc HSc Hfarc Htouch Hnn Hmn Hcall HEc HTcr
                      obtain ⟨stc, hstc⟩ : ∃ x, x = st1 := ⟨_, rfl⟩
                      obtain ⟨Pc, hPc⟩ : ∃ x, x = P1 := ⟨_, rfl⟩
                      obtain ⟨hsc, hhsc⟩ : ∃ x, x = hs1 := ⟨_, rfl⟩
                      obtain ⟨pfc, hpfc⟩ : ∃ x, x = pf1 := ⟨_, rfl⟩
                      obtain ⟨wk, hwk⟩ : ∃ x, x = wc := ⟨_, rfl⟩
                      obtain ⟨hic, hhic⟩ : ∃ x, x = wc.heap.size := ⟨_, rfl⟩
                      rw [← hwk] at hc1 ⊢
                      have HC : Hid (RState lo N A n cap cs S0 stc Pc hsc pfc wk.heap.size wk) := by rw [hstc, hPc, hhsc, hpfc, hwk]; exact HC2.out
                      have HTc : Hid (RInts wk S A' n' tk) := by rw [hwk]; exact HT2.out
                      have HSc : Hid (∀ k, S k → lo + 6 ≤ k ∧ k < wk.heap.size ∧ Pc.ownBlock ≠ some k) := by rw [hPc, hwk]; exact HSn.out
                      have Hfarc : Hid (Far (Touch lo P) w wk) := by rw [hwk]; exact Hfarc2.out
                      have Htouch : Hid (∀ i, i < w.heap.size → Touch lo Pc i → Touch lo P i) := by rw [hPc]; exact Htouch2.out
                      have Hnn := Lib.hid Hnn2.out; have Hmn := Lib.hid Hmn2.out
                      have hstc' : stc ≤ 40000 := by omega
                      have hpfc' : pfc.length + stc ≤ 100000 := by rw [hstc, hpfc]; exact hpf1'
                      have Hec2 := Lib.hid hstc; have Hef2 := Lib.hid hpfc; have Hep2 := Lib.hid hPc
                      clear hstc hPc hhsc hpfc hwk HC2 HSl2 HT2 HSn Hfarc2 Htouch2 Hnn2 Hmn2 hhic
                      go_wp2_with fail
                      have hnb0 := HC.out.nb.cell 0
                      simp only [List.getElem?_cons_zero, clo] at hnb0
                      have hl5c : lo + 5 < wk.heap.size := HC.out.nb.lt
                      have Hcall : Hid (∀ (A6 : Option Addr) (c6 : Nat) (w6 : World), Below wk.heap.size wk w6 → w6.ownsRow wk.heap.size 3 1 (.slice A6 (n' + 1) c6) (n' + 1) (tk.map (.int .i64) ++ [.int .i64 nn]) → Calls Try.prog 58 (caps lo (.slice A6 (n' + 1) c6)) w6 (RPost lo N A n cap cs S0 Pc wk (Qm.searchR N cs g stc pfc (tk ++ [nn])))) := by
                        intro A6 c6 w6 hb ho
                        obtain ⟨_, _, e6, _, _, hrow6⟩ := own_form ho
                        injection e6 with e61 e62 e63
                        subst e61
                        have hst6 : RState lo N A n cap cs S0 stc Pc hsc pfc w6.heap.size w6 := (HC.out.below hb).up (Nat.le_trans HC.out.hi_ hb.size) (Nat.le_refl _)
                        have hr6 : RInts w6 (fun k => wk.heap.size ≤ k ∧ k < w6.heap.size) A6 (n' + 1) (tk ++ [nn]) := by
                          show Row _ _ _ _ _
                          rw [List.map_append]; exact hrow6
                        have hbs := HC.out.base_
                        have hhs := HC.out.hi_
                        exact (Hih.out stc pfc hsc Pc (tk ++ [nn]) A6 (n' + 1) c6 w6 _ hst6 hstc' hpfc' hr6 (fun k hk => ⟨by omega, hk.2, fun e => by have := HC.out.own_hi k e; omega⟩) (by unfold maxLen; omega) (Qm.lits_snoc Hl.out Hnn.out) Hmn.out).mono (fun e w7 h7 => h7.step (Far.of_below (Touch lo Pc) hb) (.inl rfl))
                      generalize hres : Qm.searchR N cs g stc pfc (tk ++ [nn]) = r at Hcall
                      have Hres := Lib.hid hres; clear hres
                      have HEc : Hid (∀ o : Obj, Below wk.heap.size wk (wk.alloc o)) := fun o => (Below.refl _ _).alloc (Nat.le_refl _) o
                      have HTcr : Hid (∀ W, Below wk.heap.size wk W → Row W S A' n' (tk.map (.int .i64))) := fun W hW => Row.below HTc.out hW (fun k hk => (HSc.out k hk).2.1)
                      have henter := callFuncR
                      go_cut [100] (fun s100 wx => RPost lo N A n cap cs S0 Pc wk r (.returned s100) wx)
                      case first =>
                        go_region_held3 (fun w' => w'.cell? ⟨lo + 5, 0, none⟩ = some (.func (.func 58) #[] #[.pointer (some ⟨lo + 1, 0, none⟩), .pointer (some ⟨lo + 4, 0, none⟩), .pointer (some ⟨lo, 0, none⟩), .pointer (some ⟨lo + 3, 0, none⟩), .pointer (some ⟨lo + 5, 0, none⟩)]))
                          (first | go_keep | exact hk5 | exact hk6 | exact hk7)
                          (first
                            | (first
                                | (refine step_append_row rfl (.tmp 94) (.tmp 95) 24 rfl wk.heap.size 3 j0 (.int .i64 0) 8 Try.underlying24 Hj.out Hj0.out Hj1.out Hj2.out rfl (.slice (some ⟨wk.heap.size, 0, none⟩) 0 0) 0 [] (by simp [Act.eval, Act.put]) (World.ownsRow_made wk #[] 0 (Nat.le_refl _) (Nat.zero_le _) rfl) A' n' cap' (tk.map (.int .i64)) (by simp [Act.eval, Act.put]) S (HTcr.out _ (below_drewN (HEc.out _) 1)) (int_one tk) (by unfold maxLen; omega) (by omega) (by simp) ?_
                                   intro A5 c5 w5 hn5 hc5 hown5 hg5
                                   have hb5 : Below wk.heap.size wk w5 := (below_drewN (HEc.out _) 1).trans (below_of_grown hg5 (by simp) (fun k e => by simp [Value.ownBlock] at e; omega)))
                                | (refine step_append_row rfl (.tmp 94) (.tmp 95) 24 rfl wk.heap.size 3 j0 (.int .i64 0) 8 Try.underlying24 Hj.out Hj0.out Hj1.out Hj2.out rfl (.slice (some ⟨wk.heap.size, 0, none⟩) 0 0) 0 [] (by simp [Act.eval, Act.put]) ((World.ownsRow_made wk #[] 0 (Nat.le_refl _) (Nat.zero_le _) rfl).alloc _) A' n' cap' (tk.map (.int .i64)) (by simp [Act.eval, Act.put]) S (HTcr.out _ (below_drewN ((HEc.out _).alloc (HEc.out _).size _) 1)) (int_one tk) (by unfold maxLen; omega) (by omega) (by simp; omega) ?_
                                   intro A5 c5 w5 hn5 hc5 hown5 hg5
                                   have hb5 : Below wk.heap.size wk w5 := (below_drewN ((HEc.out _).alloc (HEc.out _).size _) 1).trans (below_of_grown hg5 (by simp; omega) (fun k e => by simp [Value.ownBlock] at e; omega))
                                   have hN5 : Whole w5 (wk.heap.size + 1) 3 [.int .i64 nn] := Whole.grown (Whole.drewN (Whole.new (wk.alloc (.cells #[] 3)) (wk.heap.size + 1) 3 [.int .i64 nn] (by simp)) 1) hg5 (fun e => by simp [Value.ownBlock] at e))
                                | (refine step_append_row rfl (.tmp 94) (.tmp 95) 24 rfl wk.heap.size 3 j0 (.int .i64 0) 8 Try.underlying24 Hj.out Hj0.out Hj1.out Hj2.out rfl (.slice (some ⟨wk.heap.size + 1, 0, none⟩) 0 0) 0 [] (by simp [Act.eval, Act.put]) (own_made_at (wk.alloc (.cells #[.int .i64 nn] 3)) (by simp) (by simp)) A' n' cap' (tk.map (.int .i64)) (by simp [Act.eval, Act.put]) S (HTcr.out _ (below_drewN ((HEc.out _).alloc (HEc.out _).size _) 1)) (int_one tk) (by unfold maxLen; omega) (by omega) (by simp; omega) ?_
                                   intro A5 c5 w5 hn5 hc5 hown5 hg5
                                   have hb5 : Below wk.heap.size wk w5 := (below_drewN ((HEc.out _).alloc (HEc.out _).size _) 1).trans (below_of_grown hg5 (by simp; omega) (fun k e => by simp [Value.ownBlock] at e; omega))
                                   have hN5 : Whole w5 wk.heap.size 3 [.int .i64 nn] := Whole.grown (Whole.drewN (Whole.alloc (Whole.new wk wk.heap.size 3 [.int .i64 nn] rfl) _) 1) hg5 (fun e => by simp [Value.ownBlock] at e))
                               have hown5' : w5.ownsRow wk.heap.size 3 1 (.slice A5 n' c5) n' (tk.map (.int .i64)) := by simpa using hown5
                               have hs5 := hb5.size
                               have hl55 : lo + 5 < w5.heap.size := Nat.lt_of_lt_of_le hl5c hs5
                               have hk5 := (hb5.cell (p := ⟨lo + 5, 0, none⟩) hl5c).trans hnb0)
                            | (first
                                | (refine step_append_row rfl (.tmp 96) (.tmp 98) 24 rfl wk.heap.size 3 j0 (.int .i64 0) 8 Try.underlying24 Hj.out Hj0.out Hj1.out Hj2.out rfl (.slice A5 n' c5) n' (tk.map (.int .i64)) (by simp [Act.eval, Act.put]) (hown5'.alloc _) (some ⟨w5.heap.size, 0, none⟩) 1 1 [.int .i64 nn] (by simp [Act.eval, Act.put]) (fun _ => True) (Whole.row (Whole.new w5 w5.heap.size 3 [.int .i64 nn] rfl) trivial rfl) (by simp [Value.oneCell']) (by unfold maxLen; omega) (by omega) (by simp; omega) ?_
                                   intro A6 c6 w6 hn6 hc6 hown6 hg6
                                   have hb6 : Below wk.heap.size wk w6 := (hb5.alloc hs5 _).trans (below_of_grown hg6 (by simp; omega) (fun k e => (hown5'.lt k e).1)))
                                | (refine step_append_row rfl (.tmp 96) (.tmp 98) 24 rfl wk.heap.size 3 j0 (.int .i64 0) 8 Try.underlying24 Hj.out Hj0.out Hj1.out Hj2.out rfl (.slice A5 n' c5) n' (tk.map (.int .i64)) (by simp [Act.eval, Act.put]) hown5' (some ⟨wk.heap.size + 1, 0, none⟩) 1 1 [.int .i64 nn] (by simp [Act.eval, Act.put]) (fun _ => True) (Whole.row hN5 trivial rfl) (by simp [Value.oneCell']) (by unfold maxLen; omega) (by omega) hs5 ?_
                                   intro A6 c6 w6 hn6 hc6 hown6 hg6
                                   have hb6 : Below wk.heap.size wk w6 := hb5.trans (below_of_grown hg6 hs5 (fun k e => (hown5'.lt k e).1)))
                                | (refine step_append_row rfl (.tmp 96) (.tmp 98) 24 rfl wk.heap.size 3 j0 (.int .i64 0) 8 Try.underlying24 Hj.out Hj0.out Hj1.out Hj2.out rfl (.slice A5 n' c5) n' (tk.map (.int .i64)) (by simp [Act.eval, Act.put]) hown5' (some ⟨wk.heap.size, 0, none⟩) 1 1 [.int .i64 nn] (by simp [Act.eval, Act.put]) (fun _ => True) (Whole.row hN5 trivial rfl) (by simp [Value.oneCell']) (by unfold maxLen; omega) (by omega) hs5 ?_
                                   intro A6 c6 w6 hn6 hc6 hown6 hg6
                                   have hb6 : Below wk.heap.size wk w6 := hb5.trans (below_of_grown hg6 hs5 (fun k e => (hown5'.lt k e).1)))
                               have hk6 := (hb6.cell (p := ⟨lo + 5, 0, none⟩) hl5c).trans hnb0)
                            | (go_at_call 58
                               refine (Hcall.out A6 c6 w6 hb6 hown6).mono ?_
                               intro e w7 hpost
                               obtain ⟨bb, rfl⟩ := hpost.ret
                               have hk7 : w7.cell? ⟨lo + 5, 0, none⟩ = some (.func (.func 58) #[] #[.pointer (some ⟨lo + 1, 0, none⟩), .pointer (some ⟨lo + 4, 0, none⟩), .pointer (some ⟨lo, 0, none⟩), .pointer (some ⟨lo + 3, 0, none⟩), .pointer (some ⟨lo + 5, 0, none⟩)]) := (hpost.1.cell (p := ⟨lo + 5, 0, none⟩) hl5c (fun e => by
                                 rcases e with e | e | e | e
                                 · have e' : lo + 5 = lo + 1 := e; omega
                                 · have e' : lo + 5 = lo + 3 := e; omega
                                 · have e' : lo + 5 = lo + 4 := e; omega
                                 · have := HC.out.lo_ _ e.symm; have e' : lo + 6 ≤ lo + 5 := this; omega)).trans hnb0))
                        all_goals
                          go_wp2_with fail
                          go_meet
                          exact hpost
                      case rest =>
                        have Hres2' : Hid (Qm.searchR N cs g st1 pf1 (tk ++ [nn]) = r) := by rw [← Hec2.out, ← Hef2.out]; exact Hres.out
                        clear henter hnb0 hc1
                        cases r with
                        | out =>
                          have HR3 := Lib.hid (HS1.out _ Hres2'.out)
                          obtain ⟨hfar, he, hob⟩ := hcut
                          injection he with he
                          subst he
                          have Hfar9 := Lib.hid (Hfarc.out.trans hfar (fun i hi h => Htouch.out i hi h)); have Hob := Lib.hid hob
                          clear hfar hob
                          go_wp2_with fail
                          go_ret
                          rw [HR3.out]
                          exact ⟨Hfar9.out, rfl, Hob.out⟩
                        | found m =>
                          have HR3 := Lib.hid (HS1.out _ Hres2'.out)
                          obtain ⟨hfar, he, hob, P9, M9, c9, ha9, hb9, hm9, hm9', hsome⟩ := hcut
                          injection he with he
                          subst he
                          have Hfar9 := Lib.hid (Hfarc.out.trans hfar (fun i hi h => Htouch.out i hi h))
                          have Hall : Hid (_ ∧ _ ∧ _ ∧ _ ∧ _ ∧ _) := ⟨hob, ha9, hb9, hm9, hm9', hsome⟩
                          clear hfar hob ha9 hb9 hm9 hm9' hsome
                          go_wp2_with fail
                          go_ret
                          rw [HR3.out]
                          exact ⟨Hfar9.out, rfl, Hall.out.1, P9, M9, c9, Hall.out.2.1, Hall.out.2.2.1, Hall.out.2.2.2.1, Hall.out.2.2.2.2.1, Hall.out.2.2.2.2.2⟩
                        | no st2 pf2 =>
                          have HR3 := Lib.hid (HS1.out _ Hres2'.out)
                          obtain ⟨hfar, he, P2, hs2, hst2, hP2⟩ := hcut
                          injection he with he
                          subst he
                          have hlen := Qm.searchR_len _ _ _ _ Hres.out
                          obtain ⟨wv, hwv⟩ : ∃ x, x = wc := ⟨_, rfl⟩
                          obtain ⟨stv, hstv⟩ : ∃ x, x = st2 := ⟨_, rfl⟩
                          obtain ⟨Pv, hPv⟩ : ∃ x, x = P2 := ⟨_, rfl⟩
                          obtain ⟨hsv, hhsv⟩ : ∃ x, x = hs2 := ⟨_, rfl⟩
                          obtain ⟨pfv, hpfv⟩ : ∃ x, x = pf2 := ⟨_, rfl⟩
                          rw [← hwv]
                          have HV : Hid (RState lo N A n cap cs S0 stv Pv hsv pfv wv.heap.size wv) := by rw [hwv, hstv, hPv, hhsv, hpfv]; exact hst2
                          have Hrv : Hid (RInts wv S A' n' tk) := by
                            rw [hwv]
                            exact hfar.ints HTc.out (fun k hk => ⟨(HSc.out k hk).2.1, fun e => by
                              have := (HSc.out k hk).1
                              rcases e with e | e | e | e
                              · omega
                              · omega
                              · omega
                              · exact (HSc.out k hk).2.2 e.symm⟩)
                          have HSv : Hid (∀ k, S k → lo + 6 ≤ k ∧ k < wv.heap.size ∧ Pv.ownBlock ≠ some k) := by
                            rw [hwv, hPv]
                            exact fun k hk => ⟨(HSc.out k hk).1, by have := (HSc.out k hk).2.1; have := hfar.size; omega, fun e => by
                              rcases hP2 with h | ⟨gg, h, hgg⟩
                              · rw [h] at e; exact (HSc.out k hk).2.2 e
                              · rw [h] at e; injection e with e; have := (HSc.out k hk).2.1; omega⟩
                          have Hfarv : Hid (Far (Touch lo P) w wv) := by rw [hwv]; exact Hfarc.out.trans hfar (fun i hi h => Htouch.out i hi h)
                          have HPv : Hid (Pv.ownBlock = P.ownBlock ∨ ∃ g, Pv.ownBlock = some g ∧ w.heap.size ≤ g) := by
                            rw [hPv]
                            rcases hP2 with h | ⟨gg, h, hgg⟩
                            · rw [h, Hep2.out]; exact HP1.out
                            · exact .inr ⟨gg, h, by have := Hfarc.out.size; omega⟩
                          have hpv : pfv.length + stv ≤ 100000 := by rw [hpfv, hstv]; omega
                          have HR3 : Hid (Qm.searchR N cs (g + 1) (s1 + 1) pf tk = .no stv (pfv ++ [tk.map Neg.neg])) := by rw [hpfv, hstv]; exact HR3.out
                          clear hwv hstv hPv hhsv hpfv hfar hst2 hP2 hlen
                          go_wp2_with fail
                          rw [rounds_succ]
                          have hpl : pfv.length ≤ 100000 := by omega
                          have hvlo := HV.out.base_
                          have hvhi := HV.out.hi_
                          go_wp2_with fail
                          go_loopg [15, 105] n' (fun g v i wr => ∃ k : Nat, Hid (k + g = n') ∧ i = .int .i64 k ∧ wr.ownsRow wv.heap.size 3 1 v k (negTo tk k) ∧ Below wv.heap.size wv wr)
                          case atStart => exact ⟨0, Nat.zero_add _, rfl, World.ownsRow_made wv #[] 0 (Nat.le_refl _) (Nat.zero_le _) rfl, (Below.refl _ _).alloc (Nat.le_refl _) _⟩
                          case round =>
                            obtain ⟨k, Hk, rfl, hown, hbel⟩ := hrel
                            have Hown := Lib.hid hown; have Hbel := Lib.hid hbel
                            have hwr : wv.heap.size ≤ wr.heap.size := hbel.size
                            clear hown hbel
                            by_cases hk : k < n'
                            · obtain ⟨bi, oi, rfl, hbi, hcell⟩ := (Hrv.out.below Hbel.out (fun k hk => (HSv.out k hk).2.1)).at_ hk
                              have hlc : k < tk.length := by rw [Hlen.out]; exact hk
                              have hlx : Qm.IsLit N (tk.getD k 0) := Hl.out _ (getD_mem (d := 0) hlc)
                              generalize hx : tk.getD k 0 = x at hcell hlx
                              have Hsn := Lib.hid (negTo_succ hlc hx)
                              clear hx
                              have hxb : -400 ≤ x ∧ x ≤ 400 := by have := hlx.2; omega
                              clear hlx hlc
                              go_wp2_with (at_builtin; refine wpList_append_own _ rfl _ _ 37 rfl wv.heap.size 3 j0 (.int .i64 0) 1 8 Try.underlying37 Hj.out Hj0.out Hj1.out Hj2.out rfl (by decide) _ _ _ rfl (Hown.out.alloc _) ⟨wr.heap.size, 0, none⟩ 1 1 [.int .i64 (-x)] rfl rfl (cell_one_new _ _ _) (by simp [Value.oneCell']) (by unfold maxLen; omega) (by omega) (by simp; omega) ?_)
                              intro v' w5 hown5 hg5 _
                              have Hown5 : Hid (w5.ownsRow wv.heap.size 3 1 v' (k + 1) (negTo tk (k + 1))) := by rw [Hsn.out]; exact hown5
                              have Hbel5 : Hid (Below wv.heap.size wv w5) := (Hbel.out.alloc hwr _).grown hg5 (by simp; omega) (fun k e => (Hown.out.lt k e).1)
                              clear hown5 hg5
                              go_wp2_with fail
                              go_roundg (gk - 1)
                              case measure => have := Hk.out; omega
                              case rel => exact ⟨k + 1, by have := Hk.out; show _ = _; omega, by go_num, Hown5.out, Hbel5.out⟩
                            · obtain rfl : k = n' := by have := Hk.out; omega
                              obtain ⟨A2, c2, rfl, h1, h2, hrow⟩ := own_form Hown.out
                              have hrow' : RInts wr (fun j => wv.heap.size ≤ j ∧ j < wr.heap.size) A2 k (tk.map Neg.neg) := by
                                have := hrow
                                unfold negTo at this
                                rwa [List.take_of_length_le (by rw [Hlen.out]; exact Nat.le_refl _)] at this
                              have Hrow := Lib.hid hrow'; have Hc2 : Hid (k ≤ c2 ∧ c2 ≤ maxLen) := ⟨h1, h2⟩
                              have HR_ := Lib.hid (HV.out.below Hbel.out)
                              have hs3 := HR_.out.ab.cell 1
                              have hsf := HR_.out.ab.free 1
                              simp only [List.getElem?_cons_zero, List.getElem?_cons_succ] at hs3
                              have hbw : lo + 3 < wr.heap.size := HR_.out.ab.lt
                              have Hpne : Hid (Pv.ownBlock ≠ some (lo + 3)) := own_ne HR_.out.own HR_.out.ab (by decide)
                              clear hrow hrow' h1 h2
                              go_wp2_with (at_builtin; refine wpList_append_own_at _ rfl _ _ 27 rfl (lo + 6) 37 i0 (.slice none 0 0) 1 24 Try.underlying27 Hi.out Hz0.out Hz1.out Hz2.out rfl (by decide) _ _ _ rfl (HR_.out.own.alloc _) ⟨wr.heap.size, 0, none⟩ 1 1 [.slice A2 k c2] rfl rfl (cell_one_new _ _ _) (by simp [Value.oneCell']) (by unfold maxLen; omega) (by omega) (by simp; omega) ?_)
                              intro P' w5 hown5 hg5 _ hat
                              obtain ⟨A6, c6, rfl, _, _, _⟩ := own_form hown5
                              have Hsz : Hid (wr.heap.size < w5.heap.size) := by have := hg5.size; simp at this; show _ < _; omega
                              have HfarB : Hid (Far (fun i => some i = Pv.ownBlock) wv w5) := (Far.of_below (fun i => some i = Pv.ownBlock) (Hbel.out.alloc hwr _)).trans (Far.of_grown (D := fun i => some i = Pv.ownBlock) hg5 (fun i e => e)) (fun i _ h => h)
                              have HA5 : Hid (Whole w5 (lo + 3) 57 [.slice none 0 0, Pv]) := HfarB.out.whole HV.out.ab (fun e => Hpne.out e.symm)
                              have ht3 := HA5.out.cell 1
                              have htf := HA5.out.free 1
                              simp only [List.getElem?_cons_zero, List.getElem?_cons_succ] at ht3
                              have Hown5 := Lib.hid hown5
                              have HP' : Hid ((Value.slice A6 (pfv.length + 1) c6).ownBlock = Pv.ownBlock ∨ ∃ g, (Value.slice A6 (pfv.length + 1) c6).ownBlock = some g ∧ wr.heap.size ≤ g) := by
                                rcases hat with h | h
                                · exact .inl h
                                · exact .inr ⟨_, h, by simp⟩
                              have Hrow5 : Hid (RInts w5 (fun j => wv.heap.size ≤ j ∧ j < wr.heap.size) A2 k (tk.map Neg.neg)) := ((Far.of_below (fun i => some i = Pv.ownBlock) ((Below.refl wr.heap.size wr).alloc (Nat.le_refl _) _)).trans (Far.of_grown (D := fun i => some i = Pv.ownBlock) hg5 (fun i e => e)) (fun i _ h => h)).ints Hrow.out (fun j hj => ⟨hj.2, fun e => by have := HV.out.own_hi j e.symm; omega⟩)
                              clear hs3 hsf hown5 hg5 hat
                              go_wp2_with fail
                              go_ret
                              rw [HR3.out]
                              have hset := HA5.out.set_ 1 (.slice A6 (pfv.length + 1) c6)
                              have hfs : Far (fun i => i = lo + 3) w5 (w5.setCell ⟨lo + 3, 1, none⟩ (.slice A6 (pfv.length + 1) c6)) := Far.set_ (D := fun i => i = lo + 3) rfl 1 _
                              have hfall : Far (fun i => i = lo + 3 ∨ some i = Pv.ownBlock) wv (w5.setCell ⟨lo + 3, 1, none⟩ (.slice A6 (pfv.length + 1) c6)) := (HfarB.out.mono (fun i h => .inr h)).trans hfs (fun i _ h => .inl h)
                              have hsz6 : (w5.setCell ⟨lo + 3, 1, none⟩ (.slice A6 (pfv.length + 1) c6)).heap.size = w5.heap.size := by simp [World.setCell]
                              have hne : ∀ i, i < lo + 6 → i ≠ lo + 3 → ¬ (i = lo + 3 ∨ some i = Pv.ownBlock) := fun i hi h0 e => by
                                rcases e with e | e
                                · exact h0 e
                                · have := HV.out.lo_ i e.symm; omega
                              have hfin : RPost lo N A n cap cs S0 Pv wv (.no stv (pfv ++ [tk.map Neg.neg])) (.returned (.bool false)) (w5.setCell ⟨lo + 3, 1, none⟩ (.slice A6 (pfv.length + 1) c6)) := by
                                refine ⟨hfall.mono (fun i h => by rcases h with h | h; exact .inr (.inl h); exact .inr (.inr (.inr h))), rfl, .slice A6 (pfv.length + 1) c6, hsv ++ [(A2, k, c2)], ⟨hfall.whole HV.out.sb (hne _ (by omega) (by omega)), hfall.whole HV.out.ob (hne _ (by omega) (by omega)), hfall.whole HV.out.fb (hne _ (by omega) (by omega)), hset, hfall.whole HV.out.nb (hne _ (by omega) (by omega)), ?_, ?_, ?_, ?_, Nat.le_refl _, by have := Hsz.out; omega, HV.out.s0⟩, ?_⟩
                                · have := hfs.own Hown5.out (fun g hg e => by have := (Hown5.out.lt g hg).1; omega)
                                  rw [List.map_append, List.length_append]; exact this
                                · intro g hg
                                  have := (Hown5.out.lt g hg).2; omega
                                · have hPn : ∀ j, j < wr.heap.size → Pv.ownBlock ≠ some j → (Value.slice A6 (pfv.length + 1) c6).ownBlock ≠ some j := fun j hj hj2 e => by
                                    rcases HP'.out with h | ⟨gg, h, hgg⟩
                                    · rw [h] at e; exact hj2 e
                                    · rw [h] at e; injection e with e; omega
                                  refine ((hfall.heads HV.out.heads (fun j hj => ⟨by have := hj.2.1; omega, fun e => ?_⟩)).more (fun j hj => ⟨hj.1, by have := hj.2.1; have := Hsz.out; omega, hPn j (by have := hj.2.1; omega) hj.2.2⟩)).append
                                    ((Heads.one (hfs.ints Hrow5.out (fun j hj => ⟨by have := Hsz.out; omega, by omega⟩)) Hc2.out).more (fun j hj => ⟨by omega, by have := Hsz.out; omega, hPn j hj.2 (fun e => by have := HV.out.own_hi j e; omega)⟩))
                                  rcases e with e | e
                                  · have := hj.1; omega
                                  · exact hj.2.2 e.symm
                                · exact hfall.clauses HV.out.cls (fun j hj => by have := HV.out.s0 j hj; exact ⟨by omega, hne j (by omega) (by omega)⟩)
                                · rcases HP'.out with h | ⟨gg, h, hgg⟩
                                  · exact .inl h
                                  · exact .inr ⟨gg, h, by omega⟩
                              exact hfin.step Hfarv.out HPv.out
                · go_wp2_with fail
                  have Hbs0 : Hid (Below w1.heap.size w1 (w1.alloc (.cells #[.int .i64 (-((q : Int) + 1)), .int .i64 ((q : Int) + 1)] 3))) := (Below.refl _ _).alloc (Nat.le_refl _) _
                  have HSl : Hid (Whole (w1.alloc (.cells #[.int .i64 (-((q : Int) + 1)), .int .i64 ((q : Int) + 1)] 3)) w1.heap.size 3 [.int .i64 (-((q : Int) + 1)), .int .i64 ((q : Int) + 1)]) := Whole.new w1 _ _ _ rfl
                  generalize w1.alloc (.cells #[.int .i64 (-((q : Int) + 1)), .int .i64 ((q : Int) + 1)] 3) = wk at *
                  obtain ⟨bS, hbS⟩ : ∃ x, x = w1.heap.size := ⟨_, rfl⟩
                  rw [← hbS] at HSl ⊢
                  have HbS := Lib.hid hbS; clear hbS
                  have HC0 := Lib.hid (HA1.out.below Hbs0.out)
                  have HTc := Lib.hid (Hr1.out.below Hbs0.out (fun k hk => (HS1.out k hk).2.1))
                  have HSc0 : Hid (∀ k, S k → lo + 6 ≤ k ∧ k < wk.heap.size ∧ P.ownBlock ≠ some k) := fun k hk => ⟨(HS1.out k hk).1, by have := (HS1.out k hk).2.1; have := Hbs0.out.size; omega, (HS1.out k hk).2.2⟩
                  have Hfarc := Lib.hid (Hfar1.out.trans (Far.of_below (Touch lo P) Hbs0.out) (fun i _ h => h))
                  have hq400 : (q : Int) < 400 := by omega
                  have hl1 := Qm.lit_pos hiN
                  have hvq : Qm.vof v' ((q : Int) + 1) = 0 := by rw [Qm.vof_pos]; exact Hi0.out
                  have Hmp : Hid (Qm.Meas N (tk ++ [(q : Int) + 1]) g) := Hg.out.next Hcs.out Hl.out Hfv.out hl1 hvq
                  have Hmn : Hid (Qm.Meas N (tk ++ [-((q : Int) + 1)]) g) := Hg.out.next Hcs.out Hl.out Hfv.out hl1.neg (by rw [Qm.vof_neg v' _ hl1.1, hvq]; rfl)
                  have Hnn := Lib.hid hl1.neg; have Hnp := Lib.hid hl1
                  clear hl1 hvq
                  have hc0 := HSl.out.cell 0
                  have hc1 := HSl.out.cell 1
                  simp only [List.getElem?_cons_zero, List.getElem?_cons_succ] at hc0 hc1
                  have hnnb : -400 ≤ -((q : Int) + 1) ∧ -((q : Int) + 1) < 0 := by omega
                  generalize hnne : -((q : Int) + 1) = nn at *
                  have Hnne := Lib.hid hnne; clear hnne
                  obtain ⟨stc, hstc⟩ : ∃ x, x = s1 := ⟨_, rfl⟩
                  obtain ⟨Pc, hPc⟩ : ∃ x, x = P := ⟨_, rfl⟩
                  obtain ⟨hsc, hhsc⟩ : ∃ x, x = hs := ⟨_, rfl⟩
                  obtain ⟨pfc, hpfc⟩ : ∃ x, x = pf := ⟨_, rfl⟩
                  have HC : Hid (RState lo N A n cap cs S0 stc Pc hsc pfc w.heap.size wk) := by rw [hstc, hPc, hhsc, hpfc]; exact HC0.out
                  have HSc : Hid (∀ k, S k → lo + 6 ≤ k ∧ k < wk.heap.size ∧ Pc.ownBlock ≠ some k) := by rw [hPc]; exact HSc0.out
                  have hstc' : stc ≤ 40000 := by omega
                  have hpfc' : pfc.length + stc ≤ 100000 := by rw [hstc, hpfc]; omega
                  have HPc : Hid (Pc.ownBlock = P.ownBlock ∨ ∃ g, Pc.ownBlock = some g ∧ w.heap.size ≤ g) := by rw [hPc]; exact .inl rfl
                  have Hec := Lib.hid hstc; have Hef := Lib.hid hpfc; have Hep := Lib.hid hPc
                  clear hstc hPc hhsc hpfc HC0 HSc0 Hbs0
                  have Htouch : Hid (∀ i, i < w.heap.size → Touch lo Pc i → Touch lo P i) := by rw [Hep.out]; exact fun i _ h => h
                  have HS0 : Hid (∀ (r1 : Qm.Res), Qm.searchR N cs g s1 pf (tk ++ [nn]) = r1 → Qm.searchR N cs (g + 1) (s1 + 1) pf tk = match r1 with
                      | .out => .out
                      | .found m => .found m
                      | .no st1 pf1 => match Qm.searchR N cs g st1 pf1 (tk ++ [(q : Int) + 1]) with
                        | .out => .out
                        | .found m => .found m
                        | .no st2 pf2 => .no st2 (pf2 ++ [tk.map Neg.neg])) := by
                    intro r1 h1
                    conv => lhs; unfold Qm.searchR
                    rw [if_neg HR.out, Hfv.out]
                    simp only [Hix.out, Nat.add_sub_cancel, Hnne.out, h1]
                    cases r1 <;> rfl
                  refine wp_loop_rounds 3 ?_
                  rw [rounds_succ]
                  go_wp2_with fail
                  have hnb0 := HC.out.nb.cell 0
                  simp only [List.getElem?_cons_zero, clo] at hnb0
                  have hl5c : lo + 5 < wk.heap.size := HC.out.nb.lt
                  have Hcall : Hid (∀ (A6 : Option Addr) (c6 : Nat) (w6 : World), Below wk.heap.size wk w6 → w6.ownsRow wk.heap.size 3 1 (.slice A6 (n' + 1) c6) (n' + 1) (tk.map (.int .i64) ++ [.int .i64 nn]) → Calls Try.prog 58 (caps lo (.slice A6 (n' + 1) c6)) w6 (RPost lo N A n cap cs S0 Pc wk (Qm.searchR N cs g stc pfc (tk ++ [nn])))) := by
                    intro A6 c6 w6 hb ho
                    obtain ⟨_, _, e6, _, _, hrow6⟩ := own_form ho
                    injection e6 with e61 e62 e63
                    subst e61
                    have hst6 : RState lo N A n cap cs S0 stc Pc hsc pfc w6.heap.size w6 := (HC.out.below hb).up (Nat.le_trans HC.out.hi_ hb.size) (Nat.le_refl _)
                    have hr6 : RInts w6 (fun k => wk.heap.size ≤ k ∧ k < w6.heap.size) A6 (n' + 1) (tk ++ [nn]) := by
                      show Row _ _ _ _ _
                      rw [List.map_append]; exact hrow6
                    have hbs := HC.out.base_
                    have hhs := HC.out.hi_
                    exact (Hih.out stc pfc hsc Pc (tk ++ [nn]) A6 (n' + 1) c6 w6 _ hst6 hstc' hpfc' hr6 (fun k hk => ⟨by omega, hk.2, fun e => by have := HC.out.own_hi k e; omega⟩) (by unfold maxLen; omega) (Qm.lits_snoc Hl.out Hnn.out) Hmn.out).mono (fun e w7 h7 => h7.step (Far.of_below (Touch lo Pc) hb) (.inl rfl))
                  generalize hres : Qm.searchR N cs g stc pfc (tk ++ [nn]) = r at Hcall
                  have Hres := Lib.hid hres; clear hres
                  have HEc : Hid (∀ o : Obj, Below wk.heap.size wk (wk.alloc o)) := fun o => (Below.refl _ _).alloc (Nat.le_refl _) o
                  have HTcr : Hid (∀ W, Below wk.heap.size wk W → Row W S A' n' (tk.map (.int .i64))) := fun W hW => Row.below HTc.out hW (fun k hk => (HSc.out k hk).2.1)
                  have henter := callFuncR
                  go_cut [100] (fun s100 wx => RPost lo N A n cap cs S0 Pc wk r (.returned s100) wx)
                  case first =>
                    go_region_held3 (fun w' => w'.cell? ⟨lo + 5, 0, none⟩ = some (.func (.func 58) #[] #[.pointer (some ⟨lo + 1, 0, none⟩), .pointer (some ⟨lo + 4, 0, none⟩), .pointer (some ⟨lo, 0, none⟩), .pointer (some ⟨lo + 3, 0, none⟩), .pointer (some ⟨lo + 5, 0, none⟩)]))
                      (first | go_keep | exact hk5 | exact hk6 | exact hk7)
                      (first
                        | (first
                            | (refine step_append_row rfl (.tmp 94) (.tmp 95) 24 rfl wk.heap.size 3 j0 (.int .i64 0) 8 Try.underlying24 Hj.out Hj0.out Hj1.out Hj2.out rfl (.slice (some ⟨wk.heap.size, 0, none⟩) 0 0) 0 [] (by simp [Act.eval, Act.put]) (World.ownsRow_made wk #[] 0 (Nat.le_refl _) (Nat.zero_le _) rfl) A' n' cap' (tk.map (.int .i64)) (by simp [Act.eval, Act.put]) S (HTcr.out _ (below_drewN (HEc.out _) 1)) (int_one tk) (by unfold maxLen; omega) (by omega) (by simp) ?_
                               intro A5 c5 w5 hn5 hc5 hown5 hg5
                               have hb5 : Below wk.heap.size wk w5 := (below_drewN (HEc.out _) 1).trans (below_of_grown hg5 (by simp) (fun k e => by simp [Value.ownBlock] at e; omega)))
                            | (refine step_append_row rfl (.tmp 94) (.tmp 95) 24 rfl wk.heap.size 3 j0 (.int .i64 0) 8 Try.underlying24 Hj.out Hj0.out Hj1.out Hj2.out rfl (.slice (some ⟨wk.heap.size, 0, none⟩) 0 0) 0 [] (by simp [Act.eval, Act.put]) ((World.ownsRow_made wk #[] 0 (Nat.le_refl _) (Nat.zero_le _) rfl).alloc _) A' n' cap' (tk.map (.int .i64)) (by simp [Act.eval, Act.put]) S (HTcr.out _ (below_drewN ((HEc.out _).alloc (HEc.out _).size _) 1)) (int_one tk) (by unfold maxLen; omega) (by omega) (by simp; omega) ?_
                               intro A5 c5 w5 hn5 hc5 hown5 hg5
                               have hb5 : Below wk.heap.size wk w5 := (below_drewN ((HEc.out _).alloc (HEc.out _).size _) 1).trans (below_of_grown hg5 (by simp; omega) (fun k e => by simp [Value.ownBlock] at e; omega))
                               have hN5 : Whole w5 (wk.heap.size + 1) 3 [.int .i64 nn] := Whole.grown (Whole.drewN (Whole.new (wk.alloc (.cells #[] 3)) (wk.heap.size + 1) 3 [.int .i64 nn] (by simp)) 1) hg5 (fun e => by simp [Value.ownBlock] at e))
                            | (refine step_append_row rfl (.tmp 94) (.tmp 95) 24 rfl wk.heap.size 3 j0 (.int .i64 0) 8 Try.underlying24 Hj.out Hj0.out Hj1.out Hj2.out rfl (.slice (some ⟨wk.heap.size + 1, 0, none⟩) 0 0) 0 [] (by simp [Act.eval, Act.put]) (own_made_at (wk.alloc (.cells #[.int .i64 nn] 3)) (by simp) (by simp)) A' n' cap' (tk.map (.int .i64)) (by simp [Act.eval, Act.put]) S (HTcr.out _ (below_drewN ((HEc.out _).alloc (HEc.out _).size _) 1)) (int_one tk) (by unfold maxLen; omega) (by omega) (by simp; omega) ?_
                               intro A5 c5 w5 hn5 hc5 hown5 hg5
                               have hb5 : Below wk.heap.size wk w5 := (below_drewN ((HEc.out _).alloc (HEc.out _).size _) 1).trans (below_of_grown hg5 (by simp; omega) (fun k e => by simp [Value.ownBlock] at e; omega))
                               have hN5 : Whole w5 wk.heap.size 3 [.int .i64 nn] := Whole.grown (Whole.drewN (Whole.alloc (Whole.new wk wk.heap.size 3 [.int .i64 nn] rfl) _) 1) hg5 (fun e => by simp [Value.ownBlock] at e))
                           have hown5' : w5.ownsRow wk.heap.size 3 1 (.slice A5 n' c5) n' (tk.map (.int .i64)) := by simpa using hown5
                           have hs5 := hb5.size
                           have hl55 : lo + 5 < w5.heap.size := Nat.lt_of_lt_of_le hl5c hs5
                           have hk5 := (hb5.cell (p := ⟨lo + 5, 0, none⟩) hl5c).trans hnb0)
                        | (first
                            | (refine step_append_row rfl (.tmp 96) (.tmp 98) 24 rfl wk.heap.size 3 j0 (.int .i64 0) 8 Try.underlying24 Hj.out Hj0.out Hj1.out Hj2.out rfl (.slice A5 n' c5) n' (tk.map (.int .i64)) (by simp [Act.eval, Act.put]) (hown5'.alloc _) (some ⟨w5.heap.size, 0, none⟩) 1 1 [.int .i64 nn] (by simp [Act.eval, Act.put]) (fun _ => True) (Whole.row (Whole.new w5 w5.heap.size 3 [.int .i64 nn] rfl) trivial rfl) (by simp [Value.oneCell']) (by unfold maxLen; omega) (by omega) (by simp; omega) ?_
                               intro A6 c6 w6 hn6 hc6 hown6 hg6
                               have hb6 : Below wk.heap.size wk w6 := (hb5.alloc hs5 _).trans (below_of_grown hg6 (by simp; omega) (fun k e => (hown5'.lt k e).1)))
                            | (refine step_append_row rfl (.tmp 96) (.tmp 98) 24 rfl wk.heap.size 3 j0 (.int .i64 0) 8 Try.underlying24 Hj.out Hj0.out Hj1.out Hj2.out rfl (.slice A5 n' c5) n' (tk.map (.int .i64)) (by simp [Act.eval, Act.put]) hown5' (some ⟨wk.heap.size + 1, 0, none⟩) 1 1 [.int .i64 nn] (by simp [Act.eval, Act.put]) (fun _ => True) (Whole.row hN5 trivial rfl) (by simp [Value.oneCell']) (by unfold maxLen; omega) (by omega) hs5 ?_
                               intro A6 c6 w6 hn6 hc6 hown6 hg6
                               have hb6 : Below wk.heap.size wk w6 := hb5.trans (below_of_grown hg6 hs5 (fun k e => (hown5'.lt k e).1)))
                            | (refine step_append_row rfl (.tmp 96) (.tmp 98) 24 rfl wk.heap.size 3 j0 (.int .i64 0) 8 Try.underlying24 Hj.out Hj0.out Hj1.out Hj2.out rfl (.slice A5 n' c5) n' (tk.map (.int .i64)) (by simp [Act.eval, Act.put]) hown5' (some ⟨wk.heap.size, 0, none⟩) 1 1 [.int .i64 nn] (by simp [Act.eval, Act.put]) (fun _ => True) (Whole.row hN5 trivial rfl) (by simp [Value.oneCell']) (by unfold maxLen; omega) (by omega) hs5 ?_
                               intro A6 c6 w6 hn6 hc6 hown6 hg6
                               have hb6 : Below wk.heap.size wk w6 := hb5.trans (below_of_grown hg6 hs5 (fun k e => (hown5'.lt k e).1)))
                           have hk6 := (hb6.cell (p := ⟨lo + 5, 0, none⟩) hl5c).trans hnb0)
                        | (go_at_call 58
                           refine (Hcall.out A6 c6 w6 hb6 hown6).mono ?_
                           intro e w7 hpost
                           obtain ⟨bb, rfl⟩ := hpost.ret
                           have hk7 : w7.cell? ⟨lo + 5, 0, none⟩ = some (.func (.func 58) #[] #[.pointer (some ⟨lo + 1, 0, none⟩), .pointer (some ⟨lo + 4, 0, none⟩), .pointer (some ⟨lo, 0, none⟩), .pointer (some ⟨lo + 3, 0, none⟩), .pointer (some ⟨lo + 5, 0, none⟩)]) := (hpost.1.cell (p := ⟨lo + 5, 0, none⟩) hl5c (fun e => by
                             rcases e with e | e | e | e
                             · have e' : lo + 5 = lo + 1 := e; omega
                             · have e' : lo + 5 = lo + 3 := e; omega
                             · have e' : lo + 5 = lo + 4 := e; omega
                             · have := HC.out.lo_ _ e.symm; have e' : lo + 6 ≤ lo + 5 := this; omega)).trans hnb0))
                    all_goals
                      go_wp2_with fail
                      go_meet
                      exact hpost
                  case rest =>
                    have Hres' : Hid (Qm.searchR N cs g s1 pf (tk ++ [nn]) = r) := by rw [← Hec.out, ← Hef.out]; exact Hres.out
                    clear henter hnb0 hc0 hc1
                    cases r with
                    | out =>
                      have HR3 := Lib.hid (HS0.out _ Hres'.out)
                      obtain ⟨hfar, he, hob⟩ := hcut
                      injection he with he
                      subst he
                      have Hfar9 := Lib.hid (Hfarc.out.trans hfar (fun i hi h => Htouch.out i hi h)); have Hob := Lib.hid hob
                      clear hfar hob
                      go_wp2_with fail
                      go_ret
                      rw [HR3.out]
                      exact ⟨Hfar9.out, rfl, Hob.out⟩
                    | found m =>
                      have HR3 := Lib.hid (HS0.out _ Hres'.out)
                      obtain ⟨hfar, he, hob, P9, M9, c9, ha9, hb9, hm9, hm9', hsome⟩ := hcut
                      injection he with he
                      subst he
                      have Hfar9 := Lib.hid (Hfarc.out.trans hfar (fun i hi h => Htouch.out i hi h))
                      have Hall : Hid (_ ∧ _ ∧ _ ∧ _ ∧ _ ∧ _) := ⟨hob, ha9, hb9, hm9, hm9', hsome⟩
                      clear hfar hob ha9 hb9 hm9 hm9' hsome
                      go_wp2_with fail
                      go_ret
                      rw [HR3.out]
                      exact ⟨Hfar9.out, rfl, Hall.out.1, P9, M9, c9, Hall.out.2.1, Hall.out.2.2.1, Hall.out.2.2.2.1, Hall.out.2.2.2.2.1, Hall.out.2.2.2.2.2⟩
                    | no st1 pf1 =>
                      have HS1' := Lib.hid (HS0.out _ Hres'.out)
                      obtain ⟨hfar, he, P1, hs1, hst1, hP1⟩ := hcut
                      injection he with he
                      subst he
                      have hlen := Qm.searchR_len _ _ _ _ Hres.out
                      have hst1' : st1 ≤ 40000 := by omega
                      have hpf1' : pf1.length + st1 ≤ 100000 := by omega
                      have HC2 := Lib.hid hst1
                      have HSl2 : Hid (Whole wc bS 3 [.int .i64 nn, .int .i64 ((q : Int) + 1)]) := hfar.whole HSl.out (fun e => by
                        have hbs1 := HbS.out
                        have hb6 := HA1.out.base_
                        have hh6 := HA1.out.hi_
                        rcases e with e | e | e | e
                        · omega
                        · omega
                        · omega
                        · exact (own_ne HC.out.own HSl.out (by decide)) e.symm)
                      have HT2 : Hid (RInts wc S A' n' tk) := hfar.ints HTc.out (fun k hk => ⟨(HSc.out k hk).2.1, fun e => by
                        have := (HSc.out k hk).1
                        rcases e with e | e | e | e
                        · omega
                        · omega
                        · omega
                        · exact (HSc.out k hk).2.2 e.symm⟩)
                      have HSn : Hid (∀ k, S k → lo + 6 ≤ k ∧ k < wc.heap.size ∧ P1.ownBlock ≠ some k) := fun k hk => ⟨(HSc.out k hk).1, by have := (HSc.out k hk).2.1; have := hfar.size; omega, fun e => by
                        rcases hP1 with h | ⟨gg, h, hgg⟩
                        · rw [h] at e; exact (HSc.out k hk).2.2 e
                        · rw [h] at e; injection e with e; have := (HSc.out k hk).2.1; omega⟩
                      have Hfarc2 := Lib.hid (Hfarc.out.trans hfar (fun i hi h => Htouch.out i hi h))
                      have hwk : w.heap.size ≤ wk.heap.size := Hfarc.out.size
                      have Htouch2 : Hid (∀ i, i < w.heap.size → Touch lo P1 i → Touch lo P i) := fun i hi e => by
                        rcases e with e | e | e | e
                        · exact .inl e
                        · exact .inr (.inl e)
                        · exact .inr (.inr (.inl e))
                        · rcases hP1 with h | ⟨gg, h, hgg⟩
                          · exact Htouch.out i hi (.inr (.inr (.inr (e.trans h))))
                          · rw [h] at e; injection e with e; omega
                      have HP1 : Hid (P1.ownBlock = P.ownBlock ∨ ∃ gg, P1.ownBlock = some gg ∧ w.heap.size ≤ gg) := by
                        rcases hP1 with h | ⟨gg, h, hgg⟩
                        · exact .inl (by rw [h, Hep.out])
                        · exact .inr ⟨gg, h, by omega⟩
                      clear hfar hst1 hP1 hlen
                      have hc1 := HSl2.out.cell 1
                      simp only [List.getElem?_cons_zero, List.getElem?_cons_succ] at hc1
                      go_wp2_with fail
                      rw [rounds_succ]
                      obtain ⟨nm, hnm⟩ : ∃ x, x = nn := ⟨_, rfl⟩
                      have Hnm := Lib.hid hnm; clear hnm
                      obtain ⟨nn, hnn⟩ : ∃ x, x = (q : Int) + 1 := ⟨_, rfl⟩
                      have hnnb : 1 ≤ nn ∧ nn ≤ 400 := by omega
                      rw [← hnn] at hc1
                      have Hnn2 : Hid (Qm.IsLit N nn) := by rw [hnn]; exact Hnp.out
                      have Hmn2 : Hid (Qm.Meas N (tk ++ [nn]) g) := by rw [hnn]; exact Hmp.out
                      have HS1 : Hid (∀ (r2 : Qm.Res), Qm.searchR N cs g st1 pf1 (tk ++ [nn]) = r2 → Qm.searchR N cs (g + 1) (s1 + 1) pf tk = match r2 with
                          | .out => .out
                          | .found m => .found m
                          | .no st2 pf2 => .no st2 (pf2 ++ [tk.map Neg.neg])) := by
                        intro r2 h2
                        rw [HS1'.out, ← hnn, h2]
                      have Hnn3 := Lib.hid hnn
                      clear hnn
                      clear HC HTc HSc Hfarc Htouch Hnn Hmn Hcall HEc HTcr
                      obtain ⟨stc, hstc⟩ : ∃ x, x = st1 := ⟨_, rfl⟩
                      obtain ⟨Pc, hPc⟩ : ∃ x, x = P1 := ⟨_, rfl⟩
                      obtain ⟨hsc, hhsc⟩ : ∃ x, x = hs1 := ⟨_, rfl⟩
                      obtain ⟨pfc, hpfc⟩ : ∃ x, x = pf1 := ⟨_, rfl⟩
                      obtain ⟨wk, hwk⟩ : ∃ x, x = wc := ⟨_, rfl⟩
                      obtain ⟨hic, hhic⟩ : ∃ x, x = wc.heap.size := ⟨_, rfl⟩
                      rw [← hwk] at hc1 ⊢
                      have HC : Hid (RState lo N A n cap cs S0 stc Pc hsc pfc wk.heap.size wk) := by rw [hstc, hPc, hhsc, hpfc, hwk]; exact HC2.out
                      have HTc : Hid (RInts wk S A' n' tk) := by rw [hwk]; exact HT2.out
                      have HSc : Hid (∀ k, S k → lo + 6 ≤ k ∧ k < wk.heap.size ∧ Pc.ownBlock ≠ some k) := by rw [hPc, hwk]; exact HSn.out
                      have Hfarc : Hid (Far (Touch lo P) w wk) := by rw [hwk]; exact Hfarc2.out
                      have Htouch : Hid (∀ i, i < w.heap.size → Touch lo Pc i → Touch lo P i) := by rw [hPc]; exact Htouch2.out
                      have Hnn := Lib.hid Hnn2.out; have Hmn := Lib.hid Hmn2.out
                      have hstc' : stc ≤ 40000 := by omega
                      have hpfc' : pfc.length + stc ≤ 100000 := by rw [hstc, hpfc]; exact hpf1'
                      have Hec2 := Lib.hid hstc; have Hef2 := Lib.hid hpfc; have Hep2 := Lib.hid hPc
                      clear hstc hPc hhsc hpfc hwk HC2 HSl2 HT2 HSn Hfarc2 Htouch2 Hnn2 Hmn2 hhic
                      go_wp2_with fail
                      have hnb0 := HC.out.nb.cell 0
                      simp only [List.getElem?_cons_zero, clo] at hnb0
                      have hl5c : lo + 5 < wk.heap.size := HC.out.nb.lt
                      have Hcall : Hid (∀ (A6 : Option Addr) (c6 : Nat) (w6 : World), Below wk.heap.size wk w6 → w6.ownsRow wk.heap.size 3 1 (.slice A6 (n' + 1) c6) (n' + 1) (tk.map (.int .i64) ++ [.int .i64 nn]) → Calls Try.prog 58 (caps lo (.slice A6 (n' + 1) c6)) w6 (RPost lo N A n cap cs S0 Pc wk (Qm.searchR N cs g stc pfc (tk ++ [nn])))) := by
                        intro A6 c6 w6 hb ho
                        obtain ⟨_, _, e6, _, _, hrow6⟩ := own_form ho
                        injection e6 with e61 e62 e63
                        subst e61
                        have hst6 : RState lo N A n cap cs S0 stc Pc hsc pfc w6.heap.size w6 := (HC.out.below hb).up (Nat.le_trans HC.out.hi_ hb.size) (Nat.le_refl _)
                        have hr6 : RInts w6 (fun k => wk.heap.size ≤ k ∧ k < w6.heap.size) A6 (n' + 1) (tk ++ [nn]) := by
                          show Row _ _ _ _ _
                          rw [List.map_append]; exact hrow6
                        have hbs := HC.out.base_
                        have hhs := HC.out.hi_
                        exact (Hih.out stc pfc hsc Pc (tk ++ [nn]) A6 (n' + 1) c6 w6 _ hst6 hstc' hpfc' hr6 (fun k hk => ⟨by omega, hk.2, fun e => by have := HC.out.own_hi k e; omega⟩) (by unfold maxLen; omega) (Qm.lits_snoc Hl.out Hnn.out) Hmn.out).mono (fun e w7 h7 => h7.step (Far.of_below (Touch lo Pc) hb) (.inl rfl))
                      generalize hres : Qm.searchR N cs g stc pfc (tk ++ [nn]) = r at Hcall
                      have Hres := Lib.hid hres; clear hres
                      have HEc : Hid (∀ o : Obj, Below wk.heap.size wk (wk.alloc o)) := fun o => (Below.refl _ _).alloc (Nat.le_refl _) o
                      have HTcr : Hid (∀ W, Below wk.heap.size wk W → Row W S A' n' (tk.map (.int .i64))) := fun W hW => Row.below HTc.out hW (fun k hk => (HSc.out k hk).2.1)
                      have henter := callFuncR
                      go_cut [100] (fun s100 wx => RPost lo N A n cap cs S0 Pc wk r (.returned s100) wx)
                      case first =>
                        go_region_held3 (fun w' => w'.cell? ⟨lo + 5, 0, none⟩ = some (.func (.func 58) #[] #[.pointer (some ⟨lo + 1, 0, none⟩), .pointer (some ⟨lo + 4, 0, none⟩), .pointer (some ⟨lo, 0, none⟩), .pointer (some ⟨lo + 3, 0, none⟩), .pointer (some ⟨lo + 5, 0, none⟩)]))
                          (first | go_keep | exact hk5 | exact hk6 | exact hk7)
                          (first
                            | (first
                                | (refine step_append_row rfl (.tmp 94) (.tmp 95) 24 rfl wk.heap.size 3 j0 (.int .i64 0) 8 Try.underlying24 Hj.out Hj0.out Hj1.out Hj2.out rfl (.slice (some ⟨wk.heap.size, 0, none⟩) 0 0) 0 [] (by simp [Act.eval, Act.put]) (World.ownsRow_made wk #[] 0 (Nat.le_refl _) (Nat.zero_le _) rfl) A' n' cap' (tk.map (.int .i64)) (by simp [Act.eval, Act.put]) S (HTcr.out _ (below_drewN (HEc.out _) 1)) (int_one tk) (by unfold maxLen; omega) (by omega) (by simp) ?_
                                   intro A5 c5 w5 hn5 hc5 hown5 hg5
                                   have hb5 : Below wk.heap.size wk w5 := (below_drewN (HEc.out _) 1).trans (below_of_grown hg5 (by simp) (fun k e => by simp [Value.ownBlock] at e; omega)))
                                | (refine step_append_row rfl (.tmp 94) (.tmp 95) 24 rfl wk.heap.size 3 j0 (.int .i64 0) 8 Try.underlying24 Hj.out Hj0.out Hj1.out Hj2.out rfl (.slice (some ⟨wk.heap.size, 0, none⟩) 0 0) 0 [] (by simp [Act.eval, Act.put]) ((World.ownsRow_made wk #[] 0 (Nat.le_refl _) (Nat.zero_le _) rfl).alloc _) A' n' cap' (tk.map (.int .i64)) (by simp [Act.eval, Act.put]) S (HTcr.out _ (below_drewN ((HEc.out _).alloc (HEc.out _).size _) 1)) (int_one tk) (by unfold maxLen; omega) (by omega) (by simp; omega) ?_
                                   intro A5 c5 w5 hn5 hc5 hown5 hg5
                                   have hb5 : Below wk.heap.size wk w5 := (below_drewN ((HEc.out _).alloc (HEc.out _).size _) 1).trans (below_of_grown hg5 (by simp; omega) (fun k e => by simp [Value.ownBlock] at e; omega))
                                   have hN5 : Whole w5 (wk.heap.size + 1) 3 [.int .i64 nn] := Whole.grown (Whole.drewN (Whole.new (wk.alloc (.cells #[] 3)) (wk.heap.size + 1) 3 [.int .i64 nn] (by simp)) 1) hg5 (fun e => by simp [Value.ownBlock] at e))
                                | (refine step_append_row rfl (.tmp 94) (.tmp 95) 24 rfl wk.heap.size 3 j0 (.int .i64 0) 8 Try.underlying24 Hj.out Hj0.out Hj1.out Hj2.out rfl (.slice (some ⟨wk.heap.size + 1, 0, none⟩) 0 0) 0 [] (by simp [Act.eval, Act.put]) (own_made_at (wk.alloc (.cells #[.int .i64 nn] 3)) (by simp) (by simp)) A' n' cap' (tk.map (.int .i64)) (by simp [Act.eval, Act.put]) S (HTcr.out _ (below_drewN ((HEc.out _).alloc (HEc.out _).size _) 1)) (int_one tk) (by unfold maxLen; omega) (by omega) (by simp; omega) ?_
                                   intro A5 c5 w5 hn5 hc5 hown5 hg5
                                   have hb5 : Below wk.heap.size wk w5 := (below_drewN ((HEc.out _).alloc (HEc.out _).size _) 1).trans (below_of_grown hg5 (by simp; omega) (fun k e => by simp [Value.ownBlock] at e; omega))
                                   have hN5 : Whole w5 wk.heap.size 3 [.int .i64 nn] := Whole.grown (Whole.drewN (Whole.alloc (Whole.new wk wk.heap.size 3 [.int .i64 nn] rfl) _) 1) hg5 (fun e => by simp [Value.ownBlock] at e))
                               have hown5' : w5.ownsRow wk.heap.size 3 1 (.slice A5 n' c5) n' (tk.map (.int .i64)) := by simpa using hown5
                               have hs5 := hb5.size
                               have hl55 : lo + 5 < w5.heap.size := Nat.lt_of_lt_of_le hl5c hs5
                               have hk5 := (hb5.cell (p := ⟨lo + 5, 0, none⟩) hl5c).trans hnb0)
                            | (first
                                | (refine step_append_row rfl (.tmp 96) (.tmp 98) 24 rfl wk.heap.size 3 j0 (.int .i64 0) 8 Try.underlying24 Hj.out Hj0.out Hj1.out Hj2.out rfl (.slice A5 n' c5) n' (tk.map (.int .i64)) (by simp [Act.eval, Act.put]) (hown5'.alloc _) (some ⟨w5.heap.size, 0, none⟩) 1 1 [.int .i64 nn] (by simp [Act.eval, Act.put]) (fun _ => True) (Whole.row (Whole.new w5 w5.heap.size 3 [.int .i64 nn] rfl) trivial rfl) (by simp [Value.oneCell']) (by unfold maxLen; omega) (by omega) (by simp; omega) ?_
                                   intro A6 c6 w6 hn6 hc6 hown6 hg6
                                   have hb6 : Below wk.heap.size wk w6 := (hb5.alloc hs5 _).trans (below_of_grown hg6 (by simp; omega) (fun k e => (hown5'.lt k e).1)))
                                | (refine step_append_row rfl (.tmp 96) (.tmp 98) 24 rfl wk.heap.size 3 j0 (.int .i64 0) 8 Try.underlying24 Hj.out Hj0.out Hj1.out Hj2.out rfl (.slice A5 n' c5) n' (tk.map (.int .i64)) (by simp [Act.eval, Act.put]) hown5' (some ⟨wk.heap.size + 1, 0, none⟩) 1 1 [.int .i64 nn] (by simp [Act.eval, Act.put]) (fun _ => True) (Whole.row hN5 trivial rfl) (by simp [Value.oneCell']) (by unfold maxLen; omega) (by omega) hs5 ?_
                                   intro A6 c6 w6 hn6 hc6 hown6 hg6
                                   have hb6 : Below wk.heap.size wk w6 := hb5.trans (below_of_grown hg6 hs5 (fun k e => (hown5'.lt k e).1)))
                                | (refine step_append_row rfl (.tmp 96) (.tmp 98) 24 rfl wk.heap.size 3 j0 (.int .i64 0) 8 Try.underlying24 Hj.out Hj0.out Hj1.out Hj2.out rfl (.slice A5 n' c5) n' (tk.map (.int .i64)) (by simp [Act.eval, Act.put]) hown5' (some ⟨wk.heap.size, 0, none⟩) 1 1 [.int .i64 nn] (by simp [Act.eval, Act.put]) (fun _ => True) (Whole.row hN5 trivial rfl) (by simp [Value.oneCell']) (by unfold maxLen; omega) (by omega) hs5 ?_
                                   intro A6 c6 w6 hn6 hc6 hown6 hg6
                                   have hb6 : Below wk.heap.size wk w6 := hb5.trans (below_of_grown hg6 hs5 (fun k e => (hown5'.lt k e).1)))
                               have hk6 := (hb6.cell (p := ⟨lo + 5, 0, none⟩) hl5c).trans hnb0)
                            | (go_at_call 58
                               refine (Hcall.out A6 c6 w6 hb6 hown6).mono ?_
                               intro e w7 hpost
                               obtain ⟨bb, rfl⟩ := hpost.ret
                               have hk7 : w7.cell? ⟨lo + 5, 0, none⟩ = some (.func (.func 58) #[] #[.pointer (some ⟨lo + 1, 0, none⟩), .pointer (some ⟨lo + 4, 0, none⟩), .pointer (some ⟨lo, 0, none⟩), .pointer (some ⟨lo + 3, 0, none⟩), .pointer (some ⟨lo + 5, 0, none⟩)]) := (hpost.1.cell (p := ⟨lo + 5, 0, none⟩) hl5c (fun e => by
                                 rcases e with e | e | e | e
                                 · have e' : lo + 5 = lo + 1 := e; omega
                                 · have e' : lo + 5 = lo + 3 := e; omega
                                 · have e' : lo + 5 = lo + 4 := e; omega
                                 · have := HC.out.lo_ _ e.symm; have e' : lo + 6 ≤ lo + 5 := this; omega)).trans hnb0))
                        all_goals
                          go_wp2_with fail
                          go_meet
                          exact hpost
                      case rest =>
                        have Hres2' : Hid (Qm.searchR N cs g st1 pf1 (tk ++ [nn]) = r) := by rw [← Hec2.out, ← Hef2.out]; exact Hres.out
                        clear henter hnb0 hc1
                        cases r with
                        | out =>
                          have HR3 := Lib.hid (HS1.out _ Hres2'.out)
                          obtain ⟨hfar, he, hob⟩ := hcut
                          injection he with he
                          subst he
                          have Hfar9 := Lib.hid (Hfarc.out.trans hfar (fun i hi h => Htouch.out i hi h)); have Hob := Lib.hid hob
                          clear hfar hob
                          go_wp2_with fail
                          go_ret
                          rw [HR3.out]
                          exact ⟨Hfar9.out, rfl, Hob.out⟩
                        | found m =>
                          have HR3 := Lib.hid (HS1.out _ Hres2'.out)
                          obtain ⟨hfar, he, hob, P9, M9, c9, ha9, hb9, hm9, hm9', hsome⟩ := hcut
                          injection he with he
                          subst he
                          have Hfar9 := Lib.hid (Hfarc.out.trans hfar (fun i hi h => Htouch.out i hi h))
                          have Hall : Hid (_ ∧ _ ∧ _ ∧ _ ∧ _ ∧ _) := ⟨hob, ha9, hb9, hm9, hm9', hsome⟩
                          clear hfar hob ha9 hb9 hm9 hm9' hsome
                          go_wp2_with fail
                          go_ret
                          rw [HR3.out]
                          exact ⟨Hfar9.out, rfl, Hall.out.1, P9, M9, c9, Hall.out.2.1, Hall.out.2.2.1, Hall.out.2.2.2.1, Hall.out.2.2.2.2.1, Hall.out.2.2.2.2.2⟩
                        | no st2 pf2 =>
                          have HR3 := Lib.hid (HS1.out _ Hres2'.out)
                          obtain ⟨hfar, he, P2, hs2, hst2, hP2⟩ := hcut
                          injection he with he
                          subst he
                          have hlen := Qm.searchR_len _ _ _ _ Hres.out
                          obtain ⟨wv, hwv⟩ : ∃ x, x = wc := ⟨_, rfl⟩
                          obtain ⟨stv, hstv⟩ : ∃ x, x = st2 := ⟨_, rfl⟩
                          obtain ⟨Pv, hPv⟩ : ∃ x, x = P2 := ⟨_, rfl⟩
                          obtain ⟨hsv, hhsv⟩ : ∃ x, x = hs2 := ⟨_, rfl⟩
                          obtain ⟨pfv, hpfv⟩ : ∃ x, x = pf2 := ⟨_, rfl⟩
                          rw [← hwv]
                          have HV : Hid (RState lo N A n cap cs S0 stv Pv hsv pfv wv.heap.size wv) := by rw [hwv, hstv, hPv, hhsv, hpfv]; exact hst2
                          have Hrv : Hid (RInts wv S A' n' tk) := by
                            rw [hwv]
                            exact hfar.ints HTc.out (fun k hk => ⟨(HSc.out k hk).2.1, fun e => by
                              have := (HSc.out k hk).1
                              rcases e with e | e | e | e
                              · omega
                              · omega
                              · omega
                              · exact (HSc.out k hk).2.2 e.symm⟩)
                          have HSv : Hid (∀ k, S k → lo + 6 ≤ k ∧ k < wv.heap.size ∧ Pv.ownBlock ≠ some k) := by
                            rw [hwv, hPv]
                            exact fun k hk => ⟨(HSc.out k hk).1, by have := (HSc.out k hk).2.1; have := hfar.size; omega, fun e => by
                              rcases hP2 with h | ⟨gg, h, hgg⟩
                              · rw [h] at e; exact (HSc.out k hk).2.2 e
                              · rw [h] at e; injection e with e; have := (HSc.out k hk).2.1; omega⟩
                          have Hfarv : Hid (Far (Touch lo P) w wv) := by rw [hwv]; exact Hfarc.out.trans hfar (fun i hi h => Htouch.out i hi h)
                          have HPv : Hid (Pv.ownBlock = P.ownBlock ∨ ∃ g, Pv.ownBlock = some g ∧ w.heap.size ≤ g) := by
                            rw [hPv]
                            rcases hP2 with h | ⟨gg, h, hgg⟩
                            · rw [h, Hep2.out]; exact HP1.out
                            · exact .inr ⟨gg, h, by have := Hfarc.out.size; omega⟩
                          have hpv : pfv.length + stv ≤ 100000 := by rw [hpfv, hstv]; omega
                          have HR3 : Hid (Qm.searchR N cs (g + 1) (s1 + 1) pf tk = .no stv (pfv ++ [tk.map Neg.neg])) := by rw [hpfv, hstv]; exact HR3.out
                          clear hwv hstv hPv hhsv hpfv hfar hst2 hP2 hlen
                          go_wp2_with fail
                          rw [rounds_succ]
                          have hpl : pfv.length ≤ 100000 := by omega
                          have hvlo := HV.out.base_
                          have hvhi := HV.out.hi_
                          go_wp2_with fail
                          go_loopg [15, 105] n' (fun g v i wr => ∃ k : Nat, Hid (k + g = n') ∧ i = .int .i64 k ∧ wr.ownsRow wv.heap.size 3 1 v k (negTo tk k) ∧ Below wv.heap.size wv wr)
                          case atStart => exact ⟨0, Nat.zero_add _, rfl, World.ownsRow_made wv #[] 0 (Nat.le_refl _) (Nat.zero_le _) rfl, (Below.refl _ _).alloc (Nat.le_refl _) _⟩
                          case round =>
                            obtain ⟨k, Hk, rfl, hown, hbel⟩ := hrel
                            have Hown := Lib.hid hown; have Hbel := Lib.hid hbel
                            have hwr : wv.heap.size ≤ wr.heap.size := hbel.size
                            clear hown hbel
                            by_cases hk : k < n'
                            · obtain ⟨bi, oi, rfl, hbi, hcell⟩ := (Hrv.out.below Hbel.out (fun k hk => (HSv.out k hk).2.1)).at_ hk
                              have hlc : k < tk.length := by rw [Hlen.out]; exact hk
                              have hlx : Qm.IsLit N (tk.getD k 0) := Hl.out _ (getD_mem (d := 0) hlc)
                              generalize hx : tk.getD k 0 = x at hcell hlx
                              have Hsn := Lib.hid (negTo_succ hlc hx)
                              clear hx
                              have hxb : -400 ≤ x ∧ x ≤ 400 := by have := hlx.2; omega
                              clear hlx hlc
                              go_wp2_with (at_builtin; refine wpList_append_own _ rfl _ _ 37 rfl wv.heap.size 3 j0 (.int .i64 0) 1 8 Try.underlying37 Hj.out Hj0.out Hj1.out Hj2.out rfl (by decide) _ _ _ rfl (Hown.out.alloc _) ⟨wr.heap.size, 0, none⟩ 1 1 [.int .i64 (-x)] rfl rfl (cell_one_new _ _ _) (by simp [Value.oneCell']) (by unfold maxLen; omega) (by omega) (by simp; omega) ?_)
                              intro v' w5 hown5 hg5 _
                              have Hown5 : Hid (w5.ownsRow wv.heap.size 3 1 v' (k + 1) (negTo tk (k + 1))) := by rw [Hsn.out]; exact hown5
                              have Hbel5 : Hid (Below wv.heap.size wv w5) := (Hbel.out.alloc hwr _).grown hg5 (by simp; omega) (fun k e => (Hown.out.lt k e).1)
                              clear hown5 hg5
                              go_wp2_with fail
                              go_roundg (gk - 1)
                              case measure => have := Hk.out; omega
                              case rel => exact ⟨k + 1, by have := Hk.out; show _ = _; omega, by go_num, Hown5.out, Hbel5.out⟩
                            · obtain rfl : k = n' := by have := Hk.out; omega
                              obtain ⟨A2, c2, rfl, h1, h2, hrow⟩ := own_form Hown.out
                              have hrow' : RInts wr (fun j => wv.heap.size ≤ j ∧ j < wr.heap.size) A2 k (tk.map Neg.neg) := by
                                have := hrow
                                unfold negTo at this
                                rwa [List.take_of_length_le (by rw [Hlen.out]; exact Nat.le_refl _)] at this
                              have Hrow := Lib.hid hrow'; have Hc2 : Hid (k ≤ c2 ∧ c2 ≤ maxLen) := ⟨h1, h2⟩
                              have HR_ := Lib.hid (HV.out.below Hbel.out)
                              have hs3 := HR_.out.ab.cell 1
                              have hsf := HR_.out.ab.free 1
                              simp only [List.getElem?_cons_zero, List.getElem?_cons_succ] at hs3
                              have hbw : lo + 3 < wr.heap.size := HR_.out.ab.lt
                              have Hpne : Hid (Pv.ownBlock ≠ some (lo + 3)) := own_ne HR_.out.own HR_.out.ab (by decide)
                              clear hrow hrow' h1 h2
                              go_wp2_with (at_builtin; refine wpList_append_own_at _ rfl _ _ 27 rfl (lo + 6) 37 i0 (.slice none 0 0) 1 24 Try.underlying27 Hi.out Hz0.out Hz1.out Hz2.out rfl (by decide) _ _ _ rfl (HR_.out.own.alloc _) ⟨wr.heap.size, 0, none⟩ 1 1 [.slice A2 k c2] rfl rfl (cell_one_new _ _ _) (by simp [Value.oneCell']) (by unfold maxLen; omega) (by omega) (by simp; omega) ?_)
                              intro P' w5 hown5 hg5 _ hat
                              obtain ⟨A6, c6, rfl, _, _, _⟩ := own_form hown5
                              have Hsz : Hid (wr.heap.size < w5.heap.size) := by have := hg5.size; simp at this; show _ < _; omega
                              have HfarB : Hid (Far (fun i => some i = Pv.ownBlock) wv w5) := (Far.of_below (fun i => some i = Pv.ownBlock) (Hbel.out.alloc hwr _)).trans (Far.of_grown (D := fun i => some i = Pv.ownBlock) hg5 (fun i e => e)) (fun i _ h => h)
                              have HA5 : Hid (Whole w5 (lo + 3) 57 [.slice none 0 0, Pv]) := HfarB.out.whole HV.out.ab (fun e => Hpne.out e.symm)
                              have ht3 := HA5.out.cell 1
                              have htf := HA5.out.free 1
                              simp only [List.getElem?_cons_zero, List.getElem?_cons_succ] at ht3
                              have Hown5 := Lib.hid hown5
                              have HP' : Hid ((Value.slice A6 (pfv.length + 1) c6).ownBlock = Pv.ownBlock ∨ ∃ g, (Value.slice A6 (pfv.length + 1) c6).ownBlock = some g ∧ wr.heap.size ≤ g) := by
                                rcases hat with h | h
                                · exact .inl h
                                · exact .inr ⟨_, h, by simp⟩
                              have Hrow5 : Hid (RInts w5 (fun j => wv.heap.size ≤ j ∧ j < wr.heap.size) A2 k (tk.map Neg.neg)) := ((Far.of_below (fun i => some i = Pv.ownBlock) ((Below.refl wr.heap.size wr).alloc (Nat.le_refl _) _)).trans (Far.of_grown (D := fun i => some i = Pv.ownBlock) hg5 (fun i e => e)) (fun i _ h => h)).ints Hrow.out (fun j hj => ⟨hj.2, fun e => by have := HV.out.own_hi j e.symm; omega⟩)
                              clear hs3 hsf hown5 hg5 hat
                              go_wp2_with fail
                              go_ret
                              rw [HR3.out]
                              have hset := HA5.out.set_ 1 (.slice A6 (pfv.length + 1) c6)
                              have hfs : Far (fun i => i = lo + 3) w5 (w5.setCell ⟨lo + 3, 1, none⟩ (.slice A6 (pfv.length + 1) c6)) := Far.set_ (D := fun i => i = lo + 3) rfl 1 _
                              have hfall : Far (fun i => i = lo + 3 ∨ some i = Pv.ownBlock) wv (w5.setCell ⟨lo + 3, 1, none⟩ (.slice A6 (pfv.length + 1) c6)) := (HfarB.out.mono (fun i h => .inr h)).trans hfs (fun i _ h => .inl h)
                              have hsz6 : (w5.setCell ⟨lo + 3, 1, none⟩ (.slice A6 (pfv.length + 1) c6)).heap.size = w5.heap.size := by simp [World.setCell]
                              have hne : ∀ i, i < lo + 6 → i ≠ lo + 3 → ¬ (i = lo + 3 ∨ some i = Pv.ownBlock) := fun i hi h0 e => by
                                rcases e with e | e
                                · exact h0 e
                                · have := HV.out.lo_ i e.symm; omega
                              have hfin : RPost lo N A n cap cs S0 Pv wv (.no stv (pfv ++ [tk.map Neg.neg])) (.returned (.bool false)) (w5.setCell ⟨lo + 3, 1, none⟩ (.slice A6 (pfv.length + 1) c6)) := by
                                refine ⟨hfall.mono (fun i h => by rcases h with h | h; exact .inr (.inl h); exact .inr (.inr (.inr h))), rfl, .slice A6 (pfv.length + 1) c6, hsv ++ [(A2, k, c2)], ⟨hfall.whole HV.out.sb (hne _ (by omega) (by omega)), hfall.whole HV.out.ob (hne _ (by omega) (by omega)), hfall.whole HV.out.fb (hne _ (by omega) (by omega)), hset, hfall.whole HV.out.nb (hne _ (by omega) (by omega)), ?_, ?_, ?_, ?_, Nat.le_refl _, by have := Hsz.out; omega, HV.out.s0⟩, ?_⟩
                                · have := hfs.own Hown5.out (fun g hg e => by have := (Hown5.out.lt g hg).1; omega)
                                  rw [List.map_append, List.length_append]; exact this
                                · intro g hg
                                  have := (Hown5.out.lt g hg).2; omega
                                · have hPn : ∀ j, j < wr.heap.size → Pv.ownBlock ≠ some j → (Value.slice A6 (pfv.length + 1) c6).ownBlock ≠ some j := fun j hj hj2 e => by
                                    rcases HP'.out with h | ⟨gg, h, hgg⟩
                                    · rw [h] at e; exact hj2 e
                                    · rw [h] at e; injection e with e; omega
                                  refine ((hfall.heads HV.out.heads (fun j hj => ⟨by have := hj.2.1; omega, fun e => ?_⟩)).more (fun j hj => ⟨hj.1, by have := hj.2.1; have := Hsz.out; omega, hPn j (by have := hj.2.1; omega) hj.2.2⟩)).append
                                    ((Heads.one (hfs.ints Hrow5.out (fun j hj => ⟨by have := Hsz.out; omega, by omega⟩)) Hc2.out).more (fun j hj => ⟨by omega, by have := Hsz.out; omega, hPn j hj.2 (fun e => by have := HV.out.own_hi j e; omega)⟩))
                                  rcases e with e | e
                                  · have := hj.1; omega
                                  · exact hj.2.2 e.symm
                                · exact hfall.clauses HV.out.cls (fun j hj => by have := HV.out.s0 j hj; exact ⟨by omega, hne j (by omega) (by omega)⟩)
                                · rcases HP'.out with h | ⟨gg, h, hgg⟩
                                  · exact .inl h
                                  · exact .inr ⟨gg, h, by omega⟩
                              exact hfin.step Hfarv.out HPv.out
end Go.Proofs.Ytpkbncfnkgofmaa
