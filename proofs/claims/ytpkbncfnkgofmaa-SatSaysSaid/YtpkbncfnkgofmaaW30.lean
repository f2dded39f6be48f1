/- What a call may change: some blocks alone; the search's 'no'. -/
import Derived.Test.YtpkbncfnkgofmaaW29
import Derived.Test.YtpkbncfnkgofmaaW27
import Derived.Test.YtpkbncfnkgofmaaPlain10
import Derived.Maps.AppendAt
namespace Go.Proofs.Ytpkbncfnkgofmaa
open Go.RowKit
/-- only blocks of D, and new ones, may have changed -/
structure Far (D : Nat → Prop) (w w' : World) : Prop where
  base : Below 0 w w'
  block : ∀ i, i < w.heap.size → ¬ D i → w'.heap[i]? = w.heap[i]?
section
variable {w w' w'' : World} {D D' : Nat → Prop} {S : Nat → Prop} {A : Option Addr} {n b : Nat}
theorem Far.size (h : Far D w w') : w.heap.size ≤ w'.heap.size := h.base.size
theorem Far.refl (D : Nat → Prop) (w : World) : Far D w w := ⟨Below.refl _ _, fun _ _ _ => rfl⟩
theorem Far.trans (h : Far D w w') (k : Far D' w' w'') (hD : ∀ i, i < w.heap.size → D' i → D i) : Far D w w'' :=
  ⟨h.base.trans k.base, fun i hi hn => (k.block i (Nat.lt_of_lt_of_le hi h.size) (fun hd => hn (hD i hi hd))).trans (h.block i hi hn)⟩
theorem Far.of_below (D : Nat → Prop) (h : Below w.heap.size w w') : Far D w w' := ⟨h.mono (Nat.zero_le _), fun i hi _ => h.block i hi⟩
theorem Far.of_grown {row : Option Nat} (h : w.grownBy w' row) (hD : ∀ i, some i = row → D i) : Far D w w' :=
  ⟨below_of_grown h (Nat.zero_le _) (fun _ _ => Nat.zero_le _), fun i hi hn => h.block i hi (fun e => hn (hD i e))⟩
theorem Far.set_ (hb : D b) (i : Nat) (u : Value) : Far D w (w.setCell ⟨b, i, none⟩ u) :=
  ⟨(Below.refl 0 w).setCell (Nat.zero_le _) _, fun k _ hn => heap_setCell_other w _ k u (fun e => hn (by rw [show k = b from e.symm ▸ rfl]; exact hb))⟩
theorem Far.drew (h : Far D w w') : Far D w w'.drew := ⟨below_drewN h.base 1, h.block⟩
theorem Far.drewN (h : Far D w w') (k : Nat) : Far D w (w'.drewN k) := ⟨below_drewN h.base k, h.block⟩
theorem Far.mono (h : Far D w w') (hD : ∀ i, D i → D' i) : Far D' w w' := ⟨h.base, fun i hi hn => h.block i hi (fun hd => hn (hD i hd))⟩
theorem Far.below (h : Far D w w') {B : Nat} (hB : B ≤ w.heap.size) (hD : ∀ i, D i → B ≤ i) : Below B w w' :=
  ⟨h.base.os, h.base.tape, h.base.output, h.size, fun i hi => h.block i (Nat.lt_of_lt_of_le hi hB) (fun hd => absurd (hD i hd) (by omega))⟩
theorem Far.whole {t : TypeId} {vs : List Value} (h : Far D w w') (hw : Whole w b t vs) (hb : ¬ D b) : Whole w' b t vs := (h.block b hw.lt hb).trans hw
theorem Far.cell (h : Far D w w') {p : Addr} (hp : p.block < w.heap.size) (hn : ¬ D p.block) : w'.cell? p = w.cell? p := World.cell?_of_block (h.block _ hp hn)
theorem Far.ints {xs : List Int} (h : Far D w w') (hr : RInts w S A n xs) (hS : ∀ k, S k → k < w.heap.size ∧ ¬ D k) : RInts w' S A n xs := hr.keep fun _ hp => h.cell (hS _ hp).1 (hS _ hp).2
theorem Far.bools {xs : List Bool} (h : Far D w w') (hr : RBools w S A n xs) (hS : ∀ k, S k → k < w.heap.size ∧ ¬ D k) : RBools w' S A n xs := Row.keep hr fun _ hp => h.cell (hS _ hp).1 (hS _ hp).2
theorem Far.clauses {cs : List (List Int)} (h : Far D w w') (hr : RClauses w S A n cs) (hS : ∀ k, S k → k < w.heap.size ∧ ¬ D k) : RClauses w' S A n cs := hr.keep fun _ hp => h.cell (hS _ hp).1 (hS _ hp).2
theorem Far.heads {hs : List (Option Addr × Nat × Nat)} {cs : List (List Int)} (h : Far D w w') (hr : Heads w S hs cs) (hS : ∀ k, S k → k < w.heap.size ∧ ¬ D k) : Heads w' S hs cs := hr.keep fun _ hp => h.cell (hS _ hp).1 (hS _ hp).2
theorem Far.own {base : Nat} {e : TypeId} {v : Value} {vs : List Value} (h : Far D w w') (ho : w.ownsRow base e 1 v n vs) (hv : ∀ g, v.ownBlock = some g → ¬ D g) : w'.ownsRow base e 1 v n vs := by
  rcases ho.2 with h0 | ⟨g, cap, cur, rfl, hb, hh, hc, hm, hs, ht⟩
  · exact ⟨ho.1, .inl h0⟩
  · exact ⟨ho.1, .inr ⟨g, cap, cur, rfl, hb, (h.block g (lt_of_block hh) (hv g rfl)).trans hh, hc, hm, hs, ht⟩⟩
/-- a row that is owned lies in no block of another type -/
theorem own_ne {base : Nat} {e t : TypeId} {v : Value} {vs us : List Value} (ho : w.ownsRow base e 1 v n vs) (hw : Whole w b t us) (ht : t ≠ e) : v.ownBlock ≠ some b := by
  rcases ho.2 with ⟨rfl, _⟩ | ⟨g, cap, cur, rfl, _, hh, _⟩
  · intro h; cases h
  · intro h
    simp only [Value.ownBlock] at h
    injection h with h
    subst h
    unfold Whole at hw
    rw [hh] at hw
    injection hw with hw; injection hw with _ hw
    exact ht hw.symm
end

/-- the search's block -/
def SBlk (w : World) (b : Nat) (vars : Int) (A : Option Addr) (n cap : Nat) (st : Int) (P M : Value) (out : Bool) : Prop :=
  Whole w b 80 [.int .i64 vars, .slice A n cap, .int .i64 st, P, M, .bool out]
theorem bool_info : (Try.prog.info? 4).map (fun i => (i.zero, i.size, i.bytes)) = some (some (.bool false), 1, 1) := by kernel_rfl
def negTo (tk : List Int) (k : Nat) : List Value := ((tk.take k).map Neg.neg).map (.int .i64)
theorem negTo_succ {tk : List Int} {k : Nat} {x : Int} (h : k < tk.length) (hx : tk.getD k 0 = x) : negTo tk (k + 1) = negTo tk k ++ [.int .i64 (-x)] := by
  unfold negTo
  rw [List.take_succ_eq_append_getElem h, List.map_append, List.map_append, ← hx, List.getD_eq_getElem?_getD, List.getElem?_eq_getElem h]; rfl
def NoPost (base b : Nat) (vars : Int) (A : Option Addr) (n cap : Nat) (st : Int) (P : Value) (np : Nat) (hs : List (Option Addr × Nat × Nat)) (tk : List Int) (w : World) (e : Ending) (w' : World) : Prop :=
  ∃ (A2 : Option Addr) (c2 : Nat) (P' : Value), e = .returned (.bool false) ∧ SBlk w' b vars A n cap st P' (.slice none 0 0) false ∧ w'.ownsRow base 37 1 P' (np + 1) ((hs ++ [(A2, tk.length, c2)]).map hd) ∧
    RInts w' (fun k => w.heap.size ≤ k ∧ k < w'.heap.size ∧ P'.ownBlock ≠ some k) A2 tk.length (tk.map Neg.neg) ∧ (tk.length ≤ c2 ∧ c2 ≤ maxLen) ∧ Far (fun i => i = b ∨ some i = P.ownBlock) w w' ∧ (P'.ownBlock = P.ownBlock ∨ ∃ g, P'.ownBlock = some g ∧ w.heap.size ≤ g)
set_option maxHeartbeats 4000000 in
theorem no_any (base b N : Nat) (vars st : Int) (A A' : Option Addr) (n cap n' cap' np : Nat) (P : Value) (hs : List (Option Addr × Nat × Nat)) (tk : List Int) (w : World) (S : Nat → Prop) (hS : ∀ k, S k → k < w.heap.size)
    (hw : SBlk w b vars A n cap st P (.slice none 0 0) false) (ho : w.ownsRow base 37 1 P np (hs.map hd)) (hbase : base ≤ w.heap.size) (hr : RInts w S A' n' tk) (hn : n' ≤ 60) (hN : N ≤ 400) (hl : Qm.IsCl N tk) (hnp : np ≤ 100000) :
    Calls Try.prog 64 #[.pointer (some ⟨b, 0, none⟩), .slice A' n' cap'] w (NoPost base b vars A n cap st P np hs tk w) := by
  obtain ⟨i0, hi, hz0, hz1, hz2⟩ := info_parts clause_info
  obtain ⟨j0, hj, hj0, hj1, hj2⟩ := info_parts int_info'
  have Hi := Lib.hid hi; have Hz0 := Lib.hid hz0; have Hz1 := Lib.hid hz1; have Hz2 := Lib.hid hz2
  have Hj := Lib.hid hj; have Hj0 := Lib.hid hj0; have Hj1 := Lib.hid hj1; have Hj2 := Lib.hid hj2
  have Hw := Lib.hid hw; have Ho := Lib.hid ho; have Hr := Lib.hid hr; have Hl := Lib.hid hl; have Hlen := Lib.hid hr.len
  clear hi hz0 hz1 hz2 hj hj0 hj1 hj2 hw ho hr hl
  go_enter Try.func64, Try.ntmps64
  go_wp2_with fail
  go_loopg [5, 11] n' (fun g v i wr => ∃ k : Nat, Hid (k + g = n') ∧ i = .int .i64 k ∧ wr.ownsRow w.heap.size 3 1 v k (negTo tk k) ∧ Below w.heap.size w wr)
  case atStart => exact ⟨0, Nat.zero_add _, rfl, World.ownsRow_made w #[] 0 (Nat.le_refl _) (Nat.zero_le _) rfl, (Below.refl _ _).alloc (Nat.le_refl _) _⟩
  case round =>
    obtain ⟨k, Hk, rfl, hown, hbel⟩ := hrel
    have Hown := Lib.hid hown; have Hbel := Lib.hid hbel
    have hwr : w.heap.size ≤ wr.heap.size := hbel.size
    clear hown hbel
    by_cases hk : k < n'
    · obtain ⟨bi, oi, rfl, hbi, hcell⟩ := (Hr.out.below Hbel.out hS).at_ hk
      have hlc : k < tk.length := by rw [Hlen.out]; exact hk
      have hlx : Qm.IsLit N (tk.getD k 0) := Hl.out _ (getD_mem (d := 0) hlc)
      generalize hx : tk.getD k 0 = x at hcell hlx
      have Hsn := Lib.hid (negTo_succ hlc hx)
      clear hx
      have hxb : -400 ≤ x ∧ x ≤ 400 := by have := hlx.2; omega
      have Hlc := Lib.hid hlc
      clear hlx hlc
      go_wp2_with (at_builtin; refine wpList_append_own _ rfl _ _ 37 rfl w.heap.size 3 j0 (.int .i64 0) 1 8 Try.underlying37 Hj.out Hj0.out Hj1.out Hj2.out rfl (by decide) _ _ _ rfl (Hown.out.alloc _) ⟨wr.heap.size, 0, none⟩ 1 1 [.int .i64 (-x)] rfl rfl ?c1 ?c2 ?c3 ?c4 ?c5 ?_)
      case c1 => exact cell_one_new _ _ _
      case c2 => simp [Value.oneCell']
      case c3 => unfold maxLen; omega
      case c4 => omega
      case c5 => simp; omega
      intro v' w1 hown1 hg1 _
      have Hown1 : Hid (w1.ownsRow w.heap.size 3 1 v' (k + 1) (negTo tk (k + 1))) := by rw [Hsn.out]; exact hown1
      have Hbel1 : Hid (Below w.heap.size w w1) := (Hbel.out.alloc hwr _).grown hg1 (by simp; omega) (fun k e => (Hown.out.lt k e).1)
      clear hown1 hg1
      go_wp2_with fail
      go_roundg (gk - 1)
      case measure => have := Hk.out; omega
      case rel => exact ⟨k + 1, by have := Hk.out; show _ = _; omega, by go_num, Hown1.out, Hbel1.out⟩
    · obtain rfl : k = n' := by have := Hk.out; omega
      obtain ⟨A2, c2, rfl, h1, h2, hrow⟩ := own_form Hown.out
      have hrow' : RInts wr (fun j => w.heap.size ≤ j ∧ j < wr.heap.size) A2 k (tk.map Neg.neg) := by
        have := hrow
        unfold negTo at this
        rwa [List.take_of_length_le (by rw [Hlen.out]; exact Nat.le_refl _)] at this
      have Hrow := Lib.hid hrow'; have Hc2 : Hid (k ≤ c2 ∧ c2 ≤ maxLen) := ⟨h1, h2⟩
      have HS : Hid (SBlk wr b vars A n cap st P (.slice none 0 0) false) := Whole.below Hw.out Hbel.out Hw.out.lt
      have hs3 := HS.out.cell 3
      have hsf := HS.out.free 3
      simp only [List.getElem?_cons_zero, List.getElem?_cons_succ] at hs3
      have hbw : b < wr.heap.size := HS.out.lt
      have HoW : Hid (wr.ownsRow base 37 1 P np (hs.map hd)) := (Far.of_below (fun _ => False) Hbel.out).own Ho.out (fun _ _ h => h)
      have Hpne : Hid (P.ownBlock ≠ some b) := own_ne HoW.out HS.out (by decide)
      clear hrow hrow' h1 h2
      go_wp2_with (at_builtin; refine wpList_append_own_at _ rfl _ _ 27 rfl base 37 i0 (.slice none 0 0) 1 24 Try.underlying27 Hi.out Hz0.out Hz1.out Hz2.out rfl (by decide) _ _ _ rfl (HoW.out.alloc _) ⟨wr.heap.size, 0, none⟩ 1 1 [.slice A2 k c2] rfl rfl ?d1 ?d2 ?d3 ?d4 ?d5 ?_)
      case d1 => exact cell_one_new _ _ _
      case d2 => simp [Value.oneCell']
      case d3 => unfold maxLen; omega
      case d4 => omega
      case d5 => simp; omega
      intro P' w1 hown1 hg1 _ hat
      obtain ⟨A6, c6, rfl, _, _, _⟩ := own_form hown1
      have Hsz : Hid (wr.heap.size ≤ w1.heap.size) := by have := hg1.size; simp at this; show _ ≤ _; omega
      have HS1 : Hid (SBlk w1 b vars A n cap st P (.slice none 0 0) false) := Whole.grown (HS.out.alloc _) hg1 (fun e => Hpne.out e.symm)
      have ht3 := HS1.out.cell 3
      have htf := HS1.out.free 3
      simp only [List.getElem?_cons_zero, List.getElem?_cons_succ] at ht3
      have Hown1 := Lib.hid hown1; have Hat := Lib.hid hat
      have Hfar1 : Hid (Far (fun i => some i = P.ownBlock) w w1) := (Far.of_below _ Hbel.out).trans ((Far.of_below (fun i => some i = P.ownBlock) ((Below.refl _ _).alloc (Nat.le_refl _) _)).trans (Far.of_grown (D := fun i => some i = P.ownBlock) hg1 (fun i e => e)) (fun i _ h => h)) (fun i _ h => h)
      have Hrow1 : Hid (RInts w1 (fun j => w.heap.size ≤ j ∧ j < wr.heap.size ∧ P.ownBlock ≠ some j) A2 k (tk.map Neg.neg)) := by
        have h0 : RInts wr (fun j => w.heap.size ≤ j ∧ j < wr.heap.size ∧ P.ownBlock ≠ some j) A2 k (tk.map Neg.neg) := Hrow.out.more (fun j hj => ⟨hj.1, hj.2, fun e => by have := (Ho.out.lt j e).2; omega⟩)
        exact ((Far.of_below (fun i => some i = P.ownBlock) ((Below.refl _ _).alloc (Nat.le_refl _) _)).trans (Far.of_grown (D := fun i => some i = P.ownBlock) hg1 (fun i e => e)) (fun i _ h => h)).ints h0 (fun j hj => ⟨hj.2.1, fun e => hj.2.2 e.symm⟩)
      clear hs3 hsf hown1 hg1 hat
      go_wp2_with fail
      go_ret
      have hset := HS1.out.set_ 3 (.slice A6 (np + 1) c6)
      have hPb : (Value.slice A6 (np + 1) c6).ownBlock ≠ some b := by
        rcases Hat.out with h | h
        · rw [h]; exact Hpne.out
        · rw [h]; intro e; injection e with e; omega
      have hfs : Far (fun i => i = b) w1 (w1.setCell ⟨b, 3, none⟩ (.slice A6 (np + 1) c6)) := Far.set_ (D := fun i => i = b) rfl 3 _
      refine ⟨A2, c2, .slice A6 (np + 1) c6, rfl, hset, ?_, ?_, Hlen.out ▸ Hc2.out, (Hfar1.out.mono (fun i h => .inr h)).trans hfs (fun i _ h => .inl h), ?_⟩
      · have := hfs.own Hown1.out (fun g hg h => hPb (by rw [hg, h]))
        rw [List.map_append, Hlen.out]; exact this
      · rw [Hlen.out]
        refine (hfs.ints Hrow1.out (fun j hj => ⟨by have := Hsz.out; omega, by have := Hw.out.lt; omega⟩)).more (fun j hj => ⟨hj.1, by have := Hsz.out; have := hfs.size; omega, ?_⟩)
        rcases Hat.out with h | h
        · rw [h]; exact hj.2.2
        · rw [h]; intro e; injection e with e; omega
      · rcases Hat.out with h | h
        · exact .inl h
        · exact .inr ⟨_, h, by have := Hbel.out.size; simp; omega⟩
end Go.Proofs.Ytpkbncfnkgofmaa
