/- The search's state in memory; what 'from' leaves. -/
import Derived.Test.YtpkbncfnkgofmaaW30
import Derived.Test.YtpkbncfnkgofmaaW22
namespace Go.Proofs.Ytpkbncfnkgofmaa
open Go.RowKit
/-- where a proof's clauses may lie -/
def Inner (base b hi : Nat) (P : Value) (k : Nat) : Prop := base ≤ k ∧ k < hi ∧ k ≠ b ∧ P.ownBlock ≠ some k
structure SState (base b : Nat) (N : Nat) (A : Option Addr) (n cap : Nat) (cs : List (List Int)) (S0 : Nat → Prop) (st : Nat) (P : Value) (hs : List (Option Addr × Nat × Nat)) (pf : List (List Int)) (hi : Nat) (w : World) : Prop where
  blk : SBlk w b (N : Int) A n cap (st : Int) P (.slice none 0 0) false
  own : w.ownsRow base 37 1 P pf.length (hs.map hd)
  own_hi : ∀ g, P.ownBlock = some g → g < hi
  heads : Heads w (Inner base b hi P) hs pf
  cls : RClauses w S0 A n cs
  hi_ : hi ≤ w.heap.size
  base_ : base ≤ hi
  s0 : ∀ k, S0 k → k < base ∧ k ≠ b
section
variable {base b N n cap st hi : Nat} {A : Option Addr} {cs : List (List Int)} {S0 : Nat → Prop} {P : Value} {hs : List (Option Addr × Nat × Nat)} {pf : List (List Int)} {w w' : World}
theorem SState.far {D : Nat → Prop} (h : SState base b N A n cap cs S0 st P hs pf hi w) (k : Far D w w') (hD : ∀ i, i < hi → ¬ D i) (hb : ¬ D b) : SState base b N A n cap cs S0 st P hs pf hi w' where
  blk := k.whole h.blk hb
  own := k.own h.own (fun g hg => hD g (h.own_hi g hg))
  own_hi := h.own_hi
  heads := k.heads h.heads (fun j hj => ⟨Nat.lt_of_lt_of_le hj.2.1 h.hi_, hD j hj.2.1⟩)
  cls := k.clauses h.cls (fun j hj => by have := h.s0 j hj; have := h.base_; have := h.hi_; exact ⟨by omega, hD j (by omega)⟩)
  hi_ := Nat.le_trans h.hi_ k.size
  base_ := h.base_
  s0 := h.s0
theorem SState.below (h : SState base b N A n cap cs S0 st P hs pf hi w) (k : Below w.heap.size w w') : SState base b N A n cap cs S0 st P hs pf hi w' := h.far (Far.of_below (fun _ => False) k) (fun _ _ h => h) (fun h => h)
theorem SState.drewN (h : SState base b N A n cap cs S0 st P hs pf hi w) (k : Nat) : SState base b N A n cap cs S0 st P hs pf hi (w.drewN k) := h.below (below_drewN (Below.refl _ _) k)
theorem Inner.mono {hi hi' : Nat} (hh : hi ≤ hi') {k : Nat} (h : Inner base b hi P k) : Inner base b hi' P k := ⟨h.1, by have := h.2.1; omega, h.2.2⟩
theorem SState.up (h : SState base b N A n cap cs S0 st P hs pf hi w) {hi' : Nat} (h1 : hi ≤ hi') (h2 : hi' ≤ w.heap.size) : SState base b N A n cap cs S0 st P hs pf hi' w :=
  ⟨h.blk, h.own, fun g hg => Nat.lt_of_lt_of_le (h.own_hi g hg) h1, h.heads.more (fun _ hk => hk.mono h1), h.cls, h2, Nat.le_trans h.base_ h1, h.s0⟩
theorem SState.pne {us : List Value} {t : TypeId} {g : Nat} (h : SState base b N A n cap cs S0 st P hs pf hi w) (hw : Whole w g t us) (ht : t ≠ 37) : P.ownBlock ≠ some g := own_ne h.own hw ht
/-- the number of steps turned -/
theorem SState.steps (h : SState base b N A n cap cs S0 st P hs pf hi w) (hb : hi ≤ b ∨ b < base) (st' : Nat) : SState base b N A n cap cs S0 st' P hs pf hi (w.setCell ⟨b, 2, none⟩ (.int .i64 (st' : Int))) := by
  have hf : Far (fun i => i = b) w (w.setCell ⟨b, 2, none⟩ (.int .i64 (st' : Int))) := Far.set_ (D := fun i => i = b) rfl 2 _
  have hpb := h.pne h.blk (by decide)
  have hset := Whole.set_ h.blk 2 (.int .i64 (st' : Int))
  exact ⟨hset, hf.own h.own (fun g hg e => hpb (by rw [hg, e])), h.own_hi, hf.heads h.heads (fun j hj => ⟨Nat.lt_of_lt_of_le hj.2.1 h.hi_, hj.2.2.1⟩), hf.clauses h.cls (fun j hj => by have := h.s0 j hj; have := h.base_; have := h.hi_; exact ⟨by omega, (h.s0 j hj).2⟩), by simpa [World.setCell] using h.hi_, h.base_, h.s0⟩
end
/-- the blocks that 'from' may change -/
def Touched (b : Nat) (P : Value) (i : Nat) : Prop := i = b ∨ some i = P.ownBlock
def FromPost (base b N : Nat) (A : Option Addr) (n cap : Nat) (cs : List (List Int)) (S0 : Nat → Prop) (P : Value) (w : World) (r : Qm.Res) (e : Ending) (w' : World) : Prop :=
  Far (Touched b P) w w' ∧ match r with
    | .out => e = .returned (.bool false) ∧ ∃ (st : Int) (P' : Value), SBlk w' b (N : Int) A n cap st P' (.slice none 0 0) true
    | .found m => e = .returned (.bool true) ∧ ∃ (st : Int) (P' : Value) (M : Option Addr) (c : Nat), SBlk w' b (N : Int) A n cap st P' (.slice M m.length c) false ∧ RBools w' (fun k => base ≤ k ∧ k < w'.heap.size ∧ k ≠ b) M m.length m ∧ m.length ≤ c ∧ c ≤ maxLen ∧ (0 < N → M.isSome = true)
    | .no st' pf' => e = .returned (.bool false) ∧ ∃ (P' : Value) (hs' : List (Option Addr × Nat × Nat)), SState base b N A n cap cs S0 st' P' hs' pf' w'.heap.size w' ∧ (P'.ownBlock = P.ownBlock ∨ ∃ g, P'.ownBlock = some g ∧ w.heap.size ≤ g)
theorem FromPost.step {base b N : Nat} {A : Option Addr} {n cap : Nat} {cs : List (List Int)} {S0 : Nat → Prop} {P P1 : Value} {w w1 w' : World} {r : Qm.Res} {e : Ending} (k : Far (Touched b P) w w1) (hP : P1.ownBlock = P.ownBlock ∨ ∃ g, P1.ownBlock = some g ∧ w.heap.size ≤ g)
    (h : FromPost base b N A n cap cs S0 P1 w1 r e w') : FromPost base b N A n cap cs S0 P w r e w' := by
  obtain ⟨hf, hm⟩ := h
  refine ⟨k.trans hf (fun i hi ht => ?_), ?_⟩
  · rcases ht with ht | ht
    · exact .inl ht
    · rcases hP with hP | ⟨g, hP, hg⟩
      · exact .inr (ht.trans hP)
      · rw [hP] at ht; injection ht with ht; omega
  · cases r with
    | out => exact hm
    | found m => exact hm
    | no st pf =>
      obtain ⟨h1, P', hs', h2, h3⟩ := hm
      refine ⟨h1, P', hs', h2, ?_⟩
      rcases h3 with h3 | ⟨g, h3, hg⟩
      · rw [h3]; exact hP
      · exact .inr ⟨g, h3, Nat.le_trans k.size hg⟩
theorem idx_none {v : List Int} (h : Qm.idx0 v = none) : idxOf (eqTo 0) (v.drop 1) = -1 := by
  unfold Qm.idx0 at h
  unfold idxOf
  have : (v.drop 1).findIdx? (eqTo 0) = none := h
  rw [this]
theorem idx_some {v : List Int} {i : Nat} (h : Qm.idx0 v = some i) : idxOf (eqTo 0) (v.drop 1) = i := by
  unfold Qm.idx0 at h
  unfold idxOf
  have : (v.drop 1).findIdx? (eqTo 0) = some i := h
  rw [this]
/-- 'no', on the state -/
theorem no_state (base b N st : Nat) (A A' : Option Addr) (n cap n' cap' hi : Nat) (P : Value) (cs : List (List Int)) (S0 : Nat → Prop) (hs : List (Option Addr × Nat × Nat)) (pf : List (List Int)) (tk : List Int) (w : World) (S : Nat → Prop) (hS : ∀ k, S k → k < w.heap.size)
    (h : SState base b N A n cap cs S0 st P hs pf hi w) (hr : RInts w S A' n' tk) (hn : n' ≤ 60) (hN : N ≤ 400) (hl : Qm.IsCl N tk) (hnp : pf.length ≤ 100000) (hbb : b < base) :
    Calls Try.prog 64 #[.pointer (some ⟨b, 0, none⟩), .slice A' n' cap'] w (FromPost base b N A n cap cs S0 P w (.no st (pf ++ [tk.map Neg.neg]))) := by
  have hbs : base ≤ w.heap.size := Nat.le_trans h.base_ h.hi_
  refine (no_any base b N (N : Int) (st : Int) A A' n cap n' cap' pf.length P hs tk w S hS h.blk h.own hbs hr hn hN hl hnp).mono ?_
  rintro e w' ⟨A2, c2, P', rfl, h1, h2, h3, h4, h5, h6⟩
  have hpb := own_ne h2 h1 (by decide)
  refine ⟨h5, rfl, P', hs ++ [(A2, tk.length, c2)], ⟨h1, by simpa using h2, fun g hg => (h2.lt g hg).2, ?_, h5.clauses h.cls (fun j hj => ?_), Nat.le_refl _, Nat.le_trans hbs h5.size, h.s0⟩, h6⟩
  · have hin : ∀ k, Inner base b hi P k → k < w.heap.size ∧ ¬ (k = b ∨ some k = P.ownBlock) := fun k hk => ⟨Nat.lt_of_lt_of_le hk.2.1 h.hi_, fun e => by
      rcases e with e | e
      · exact hk.2.2.1 e
      · exact hk.2.2.2 e.symm⟩
    refine ((h5.heads h.heads hin).more (fun k hk => ?_)).append ((Heads.one h3 h4).more (fun k hk => ?_))
    · refine ⟨hk.1, Nat.lt_of_lt_of_le (Nat.lt_of_lt_of_le hk.2.1 h.hi_) h5.size, hk.2.2.1, ?_⟩
      rcases h6 with h6 | ⟨g, h6, hg⟩
      · rw [h6]; exact hk.2.2.2
      · rw [h6]; intro e; injection e with e; have := hk.2.1; have := h.hi_; omega
    · exact ⟨by have := hk.1; omega, hk.2.1, by have := hk.1; omega, hk.2.2⟩
  · have hj' := h.s0 j hj
    refine ⟨by omega, fun e => ?_⟩
    rcases e with e | e
    · exact hj'.2 e
    · have := (h.own.lt j e.symm).1; omega
end Go.Proofs.Ytpkbncfnkgofmaa
