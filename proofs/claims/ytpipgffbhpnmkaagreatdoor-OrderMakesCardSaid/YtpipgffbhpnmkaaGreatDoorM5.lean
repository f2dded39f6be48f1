/- Parts of the proof: walks and plain laws, side by side. -/
import Derived.Test.YtpipgffbhpnmkaaGreatDoorM3
import Derived.Deep.AppendLies
import Derived.OwnWalk
import Derived.Maps.AppendAt
import Derived.Lib.AppendZerosOnto
import Derived.Lib.Walk
import Derived.Test.YtpipgffbhpnmkaaGreatDoorM4
import Derived.Test.YtpipgffbhpnmkaaGreatDoorShelf
import Derived.Deep.QuietTactic
import Derived.BigQuiet
import Derived.Deep.RegionHeld3
import Derived.Deep.DeepCutAuto
import Derived.Deep.CutBlock
import Derived.Test.YtpipgffbhpnmkaaGreatDoorM1
import Derived.Test.YtpipgffbhpnmkaaGreatDoorM2
import Derived.WalkLawsBesides
import Derived.Sort.Walk0
import Derived.Lib.AppendIntMem
set_option linter.unusedVariables false
set_option linter.unusedSimpArgs false
set_option linter.unusedSectionVars false
/- Laws: append of whatever row. -/
namespace Go.Proofs.YtpipgffbhpnmkaaGreatDoor
open Go.RowKit
theorem own_form {w : World} {base : Nat} {e : TypeId} {v : Value} {n : Nat} {vs : List Value} (h : w.ownsRow base e 1 v n vs) : ∃ (A : Option Addr) (c : Nat), v = .slice A n c ∧ n ≤ c ∧ c ≤ maxLen ∧ Row w (fun k => base ≤ k ∧ k < w.heap.size) A n vs := by
  have h' := h
  rcases h'.2 with ⟨rfl, rfl⟩ | ⟨g, cap, cur, rfl, hb, hh, hc, hm, _⟩
  · exact ⟨none, 0, rfl, Nat.le_refl _, Nat.zero_le _, by have := h.1; simpa using this, fun h => absurd h (by omega)⟩
  · exact ⟨_, cap, rfl, hc, hm, row_of_own h (fun g' e => by simp [Value.ownBlock] at e; subst e; exact ⟨hb, lt_of_block hh⟩)⟩
theorem own_formK {w : World} {base : Nat} {e : TypeId} {size : Nat} {v : Value} {n : Nat} {vs : List Value} (h : w.ownsRow base e size v n vs) : ∃ (A : Option Addr) (c : Nat), v = .slice A n c ∧ n ≤ c ∧ c ≤ maxLen ∧ Row w (fun k => v.ownBlock = some k) A (n * size) vs := by
  rcases h.2 with ⟨rfl, rfl⟩ | ⟨g, cap, cur, rfl, hb, hh, hc, hm, hs, ht⟩
  · exact ⟨none, 0, rfl, Nat.le_refl _, Nat.zero_le _, by have := h.1; simpa using this, fun h => absurd h (by omega)⟩
  · refine ⟨_, cap, rfl, hc, hm, h.1, fun hn => ⟨g, 0, rfl, rfl, fun j hj => ?_⟩⟩
    have hj' : j < cur.size := by rw [hs]; exact Nat.lt_of_lt_of_le hj (Nat.mul_le_mul_right _ hc)
    rw [cell_of_row w g _ _ _ (0, 0) hh, Nat.zero_add, ← ht, List.getElem?_take_of_lt hj]
    simp
theorem news_of_row {w : World} {S : Nat → Prop} {b o n : Nat} {vs : List Value} (h : Row w S (some ⟨b, o, none⟩) n vs) : ∀ j u, vs[j]? = some u → w.cell? ((⟨b, o, none⟩ : Addr).add j) = some u := by
  intro j u hj
  have hjn : j < n := by have := (List.getElem?_eq_some_iff.1 hj).1; rw [h.len] at this; exact this
  obtain ⟨b', o', e, _, hc⟩ := h.at_ hjn
  injection e with e; injection e with e1 e2
  subst e1 e2
  have hadd : (⟨b, o, none⟩ : Addr).add j = ⟨b, o + j, none⟩ := by unfold Addr.add; split <;> simp_all
  rw [hadd, hc, hj]
theorem Row.some_lit {w : World} {S : Nat → Prop} {A : Option Addr} {n : Nat} {vs : List Value} (h : Row w S A n vs) (hn : 0 < n) : ∃ b o, A = some ⟨b, o, none⟩ ∧ S b := by
  obtain ⟨b, o, e, hS, _⟩ := h.at_ hn
  exact ⟨b, o, e, hS⟩
end Go.Proofs.YtpipgffbhpnmkaaGreatDoor

/- atom.ops, atom.Print, walked. -/
namespace Go.Proofs.YtpipgffbhpnmkaaGreatDoor
open Go.RowKit Qm

def opsV : Value := .agg #[.string ⟨#[]⟩, .string ⟨#[61]⟩, .string ⟨#[62, 61]⟩, .string ⟨#[60]⟩]

set_option maxHeartbeats 1600000 in
theorem ops_any (w : World) :
    Calls Tryz.prog 174 #[] w fun e w' => e = .returned opsV ∧ Below w.heap.size w w' := by
  go_enter Tryz.func174, Tryz.ntmps174
  go_wp2
  refine bodyPost_ret (v := opsV) (by simp [results, Tryz.results174, go_sem]; rfl) rfl ⟨rfl, ?_⟩
  exact (Below.refl _ _).alloc (Nat.le_refl _) _

theorem ops_any' (w : World) : Calls Tryz.prog 174 #[] w fun e w' => e = .returned (.agg #[.string ⟨#[]⟩, .string ⟨#[61]⟩, .string ⟨#[62, 61]⟩, .string ⟨#[60]⟩]) ∧ Below w.heap.size w w' := ops_any w

/-- The atom in its box, in a world later than w. -/
structure Boxed (w : World) (s : ByteArray) (op ver slot : Int) (f : ByteArray) (on : Bool) (wx : World) : Prop where
  c0 : wx.cell? ⟨w.heap.size, 0, none⟩ = some (.string s)
  c1 : wx.cell? ⟨w.heap.size, 1, none⟩ = some (.int .i64 op)
  c2 : wx.cell? ⟨w.heap.size, 2, none⟩ = some (.int .i64 ver)
  c3 : wx.cell? ⟨w.heap.size, 3, none⟩ = some (.int .i64 slot)
  c4 : wx.cell? ⟨w.heap.size, 4, none⟩ = some (.string f)
  c5 : wx.cell? ⟨w.heap.size, 5, none⟩ = some (.bool on)
  b : Below w.heap.size w wx
theorem Boxed.below {w : World} {s : ByteArray} {op ver slot : Int} {f : ByteArray} {on : Bool} {wx wy : World} (h : Boxed w s op ver slot f on wx) (hb : Below wx.heap.size wx wy) : Boxed w s op ver slot f on wy :=
  ⟨(hb.cell (World.block_lt_of_cell? _ _ h.c0)).trans h.c0, (hb.cell (World.block_lt_of_cell? _ _ h.c1)).trans h.c1, (hb.cell (World.block_lt_of_cell? _ _ h.c2)).trans h.c2,
    (hb.cell (World.block_lt_of_cell? _ _ h.c3)).trans h.c3, (hb.cell (World.block_lt_of_cell? _ _ h.c4)).trans h.c4, (hb.cell (World.block_lt_of_cell? _ _ h.c5)).trans h.c5, h.b.trans (hb.mono h.b.size)⟩
theorem Boxed.new (w : World) (s : ByteArray) (op ver slot : Int) (f : ByteArray) (on : Bool) {t : TypeId} : Boxed w s op ver slot f on (w.alloc (.cells #[.string s, .int .i64 op, .int .i64 ver, .int .i64 slot, .string f, .bool on] t)) := by
  refine ⟨?_, ?_, ?_, ?_, ?_, ?_, (Below.refl _ w).alloc (Nat.le_refl _) _⟩ <;> simp [World.cell?, World.alloc, -World.alloc_eq]

theorem bs_size (a : List UInt8) : (⟨a.toArray⟩ : ByteArray).size = a.length := by show a.toArray.size = _; simp

theorem ops_at1 (wx : World) : (Instr.index 202 (.agg #[.string ⟨#[]⟩, .string ⟨#[61]⟩, .string ⟨#[62, 61]⟩, .string ⟨#[60]⟩]) (.int .i64 1)).run Tryz.prog wx = .ok (.string ⟨#[61]⟩) wx := by
  simp [Instr.index, run_underlying Tryz.underlying202, go_sem]
theorem ops_at2 (wx : World) : (Instr.index 202 (.agg #[.string ⟨#[]⟩, .string ⟨#[61]⟩, .string ⟨#[62, 61]⟩, .string ⟨#[60]⟩]) (.int .i64 2)).run Tryz.prog wx = .ok (.string ⟨#[62, 61]⟩) wx := by
  simp [Instr.index, run_underlying Tryz.underlying202, go_sem]
theorem ops_at3 (wx : World) : (Instr.index 202 (.agg #[.string ⟨#[]⟩, .string ⟨#[61]⟩, .string ⟨#[62, 61]⟩, .string ⟨#[60]⟩]) (.int .i64 3)).run Tryz.prog wx = .ok (.string ⟨#[60]⟩) wx := by
  simp [Instr.index, run_underlying Tryz.underlying202, go_sem]
end Go.Proofs.YtpipgffbhpnmkaaGreatDoor

/- need.words, walked. -/
namespace Go.Proofs.YtpipgffbhpnmkaaGreatDoor
open Go.RowKit Qm

def strs (ws : List Qm.W) : List Value := ws.map fun l => .string ⟨l.toArray⟩
theorem strs_append (a b : List Qm.W) : strs (a ++ b) = strs a ++ strs b := by simp [strs]
theorem strs_len (a : List Qm.W) : (strs a).length = a.length := by simp [strs]
theorem string_info : (Tryz.prog.info? 9).map (fun i => (i.zero, i.size, i.bytes)) = some (some (.string ⟨#[]⟩), 1, 16) := by kernel_rfl

/-- The words gathered so far, beside a box. -/
structure Wd (w : World) (box : List Value) (ws : List Qm.W) (A : Option Addr) (c : Nat) (wx : World) : Prop where
  own : wx.ownsRow (w.heap.size + 1) 9 1 (.slice A ws.length c) ws.length (strs ws)
  box : Whole wx w.heap.size 40 box
  bel : Below w.heap.size w wx
theorem Wd.alloc {w wx : World} {box : List Value} {ws : List Qm.W} {A : Option Addr} {c : Nat} (h : Wd w box ws A c wx) (o : Obj) : Wd w box ws A c (wx.alloc o) :=
  ⟨h.own.alloc o, h.box.alloc o, h.bel.alloc h.bel.size o⟩
theorem own_below {w w' : World} {base : Nat} {e : TypeId} {size : Nat} {v : Value} {n : Nat} {xs : List Value} (h : w.ownsRow base e size v n xs) (hb : Below w.heap.size w w') : w'.ownsRow base e size v n xs :=
  h.kept (grown_of_below hb none) (by cases hv : v.ownBlock <;> simp)
theorem Wd.below {w wx wy : World} {box : List Value} {ws : List Qm.W} {A : Option Addr} {c : Nat} (h : Wd w box ws A c wx) (hb : Below wx.heap.size wx wy) : Wd w box ws A c wy :=
  ⟨own_below h.own hb, h.box.below hb h.box.lt, h.bel.trans (hb.mono h.bel.size)⟩
theorem Wd.more {w wx wy : World} {box : List Value} {ws : List Qm.W} {A : Option Addr} {c : Nat} (h : Wd w box ws A c wx) {ws' : List Qm.W} {v' : Value} {news : List Value} {m : Nat} (hm : m = ws'.length) (hn : news = strs ws')
    (hown : wy.ownsRow (w.heap.size + 1) 9 1 v' (ws.length + m) (strs ws ++ news)) (hg : wx.grownBy wy (Value.slice A ws.length c).ownBlock) : ∃ A' c', v' = .slice A' (ws.length + m) c' ∧ Wd w box (ws ++ ws') A' c' wy := by
  subst hm hn
  obtain ⟨A', c', rfl, _, _, _⟩ := own_form hown
  refine ⟨A', c', rfl, ?_, ?_, ?_⟩
  · rw [strs_append, List.length_append]; exact hown
  · have hlt := h.own.lt
    refine h.box.grown hg ?_
    intro e
    have := (hlt _ e.symm).1
    omega
  · exact h.bel.grown hg h.bel.size fun k e => by have := (h.own.lt k e).1; omega

def WordsPost (w : World) (y : Nd) (e : Ending) (w' : World) : Prop :=
  ∃ A c, e = .returned (.slice A (wordsN y).length c) ∧ w'.ownsRow w.heap.size 9 1 (.slice A (wordsN y).length c) (wordsN y).length (strs (wordsN y)) ∧ Below w.heap.size w w'
theorem own_lower {w : World} {base base' : Nat} {e : TypeId} {size : Nat} {v : Value} {n : Nat} {xs : List Value} (h : w.ownsRow base e size v n xs) (hb : base' ≤ base) : w.ownsRow base' e size v n xs :=
  ⟨h.1, h.2.imp id fun ⟨g, cap, cur, h1, h2, h3⟩ => ⟨g, cap, cur, h1, Nat.le_trans hb h2, h3⟩⟩
theorem Wd.post {w wx : World} {box : List Value} {y : Nd} {A : Option Addr} {c : Nat} (h : Wd w box (wordsN y) A c wx) : WordsPost w y (.returned (.slice A (wordsN y).length c)) wx :=
  ⟨A, c, rfl, own_lower h.own (Nat.le_succ _), h.bel⟩

theorem own_row {w : World} {base : Nat} {e : TypeId} {A : Option Addr} {n c : Nat} {vs : List Value} (h : w.ownsRow base e 1 (.slice A n c) n vs) : Row w (fun k => base ≤ k ∧ k < w.heap.size) A n vs := by
  obtain ⟨A', c', he, _, _, hr⟩ := own_form h
  injection he with h1 _ _
  subst h1
  exact hr
theorem take_snocN {ks : List Nd} {j : Nat} {y : Nd} (h : ks[j]? = some y) : ks.take (j + 1) = ks.take j ++ [y] := by
  obtain ⟨hj, e⟩ := List.getElem?_eq_some_iff.1 h
  rw [List.take_succ_eq_append_getElem hj, e]
/- one word behind: of P at wp, the words WS; the word L -/
end Go.Proofs.YtpipgffbhpnmkaaGreatDoor

/- What a call may change: some blocks alone. -/
namespace Go.Proofs.YtpipgffbhpnmkaaGreatDoor
open Go.RowKit
/-- only blocks of D, and new ones, may have changed -/
structure Far (D : Nat → Prop) (w w' : World) : Prop where
  base : Below 0 w w'
  block : ∀ i, i < w.heap.size → ¬ D i → w'.heap[i]? = w.heap[i]?
section
variable {w w' w'' : World} {D D' : Nat → Prop} {S : Nat → Prop} {A : Option Addr} {n b : Nat}
theorem Far.size (h : Far D w w') : w.heap.size ≤ w'.heap.size := h.base.size
theorem Far.refl (D : Nat → Prop) (w : World) : Far D w w := ⟨Below.refl _ _, fun _ _ _ => rfl⟩
theorem Far.trans (h : Far D w w') (k : Far D' w' w'') (hD : ∀ i, i < w.heap.size → D' i → D i) : Far D w w'' :=
  ⟨h.base.trans k.base, fun i hi hn => (k.block i (Nat.lt_of_lt_of_le hi h.size) (fun hd => hn (hD i hi hd))).trans (h.block i hi hn)⟩
theorem Far.of_below (D : Nat → Prop) (h : Below w.heap.size w w') : Far D w w' := ⟨h.mono (Nat.zero_le _), fun i hi _ => h.block i hi⟩
theorem Far.of_grown {row : Option Nat} (h : w.grownBy w' row) (hD : ∀ i, some i = row → D i) : Far D w w' :=
  ⟨below_of_grown h (Nat.zero_le _) (fun _ _ => Nat.zero_le _), fun i hi hn => h.block i hi (fun e => hn (hD i e))⟩
theorem Far.set_ (hb : D b) (i : Nat) (u : Value) : Far D w (w.setCell ⟨b, i, none⟩ u) :=
  ⟨(Below.refl 0 w).setCell (Nat.zero_le _) _, fun k _ hn => heap_setCell_other w _ k u (fun e => hn (by rw [show k = b from e.symm ▸ rfl]; exact hb))⟩
theorem Far.drew (h : Far D w w') : Far D w w'.drew := ⟨below_drewN h.base 1, h.block⟩
theorem Far.drewN (h : Far D w w') (k : Nat) : Far D w (w'.drewN k) := ⟨below_drewN h.base k, h.block⟩
theorem Far.mono (h : Far D w w') (hD : ∀ i, D i → D' i) : Far D' w w' := ⟨h.base, fun i hi hn => h.block i hi (fun hd => hn (hD i hd))⟩
theorem Far.below (h : Far D w w') {B : Nat} (hB : B ≤ w.heap.size) (hD : ∀ i, D i → B ≤ i) : Below B w w' :=
  ⟨h.base.os, h.base.tape, h.base.output, h.size, fun i hi => h.block i (Nat.lt_of_lt_of_le hi hB) (fun hd => absurd (hD i hd) (by omega))⟩
theorem Far.whole {t : TypeId} {vs : List Value} (h : Far D w w') (hw : Whole w b t vs) (hb : ¬ D b) : Whole w' b t vs := (h.block b hw.lt hb).trans hw
theorem Far.cell (h : Far D w w') {p : Addr} (hp : p.block < w.heap.size) (hn : ¬ D p.block) : w'.cell? p = w.cell? p := World.cell?_of_block (h.block _ hp hn)
theorem Far.ints {xs : List Int} (h : Far D w w') (hr : RInts w S A n xs) (hS : ∀ k, S k → k < w.heap.size ∧ ¬ D k) : RInts w' S A n xs := hr.keep fun _ hp => h.cell (hS _ hp).1 (hS _ hp).2
theorem Far.bools {xs : List Bool} (h : Far D w w') (hr : RBools w S A n xs) (hS : ∀ k, S k → k < w.heap.size ∧ ¬ D k) : RBools w' S A n xs := Row.keep hr fun _ hp => h.cell (hS _ hp).1 (hS _ hp).2
theorem Far.clauses {cs : List (List Int)} (h : Far D w w') (hr : RClauses w S A n cs) (hS : ∀ k, S k → k < w.heap.size ∧ ¬ D k) : RClauses w' S A n cs := hr.keep fun _ hp => h.cell (hS _ hp).1 (hS _ hp).2
theorem Far.own {base : Nat} {e : TypeId} {size : Nat} {v : Value} {vs : List Value} (h : Far D w w') (ho : w.ownsRow base e size v n vs) (hv : ∀ g, v.ownBlock = some g → ¬ D g) : w'.ownsRow base e size v n vs := by
  rcases ho.2 with h0 | ⟨g, cap, cur, rfl, hb, hh, hc, hm, hs, ht⟩
  · exact ⟨ho.1, .inl h0⟩
  · exact ⟨ho.1, .inr ⟨g, cap, cur, rfl, hb, (h.block g (lt_of_block hh) (hv g rfl)).trans hh, hc, hm, hs, ht⟩⟩
/-- a row that is owned lies in no block of another type -/
theorem own_ne {base : Nat} {e t : TypeId} {size : Nat} {v : Value} {vs us : List Value} (ho : w.ownsRow base e size v n vs) (hw : Whole w b t us) (ht : t ≠ e) : v.ownBlock ≠ some b := by
  rcases ho.2 with ⟨rfl, _⟩ | ⟨g, cap, cur, rfl, _, hh, _⟩
  · intro h; cases h
  · intro h
    simp only [Value.ownBlock] at h
    injection h with h
    subst h
    unfold Whole at hw
    rw [hh] at hw
    injection hw with hw; injection hw with _ hw
    exact ht hw.symm
end
end Go.Proofs.YtpipgffbhpnmkaaGreatDoor

/- need.Print, the reader's next, walked. (Of the shelf: Tryz.strings_HasSuffix Tryz.strings_Split Tryz.slices_Sort_string Tryz.slices_Sort_string_none Tryz.slices_Compact_string Tryz.slices_Compact_string_empty Tryz.slices_Equal_string Tryz.slices_Equal_string_lens Tryz.slices_Equal_string_empty) -/
namespace Go.Proofs.YtpipgffbhpnmkaaGreatDoor
open Go.RowKit Qm

theorem RNd.far {w w' : World} {S D : Nat → Prop} {x : List Value} {y : Nd} (h : RNd w S x y) (hf : Far D w w') (hS : ∀ k, S k → k < w.heap.size ∧ ¬ D k) : RNd w' S x y := h.keep fun _ hp => hf.cell (hS _ hp).1 (hS _ hp).2
/-- As the words come, in literal form. -/
def WordsLit (w : World) (y : Nd) (e : Ending) (w' : World) : Prop :=
  ∃ b o c, e = .returned (.slice (some ⟨b, o, none⟩) (wordsN y).length c) ∧ (wordsN y).length ≤ c ∧ Row w' (fun k => w.heap.size ≤ k ∧ k < w'.heap.size) (some ⟨b, o, none⟩) (wordsN y).length (strs (wordsN y)) ∧ Below w.heap.size w w'
theorem WordsPost.lit {w w' : World} {y : Nd} {e : Ending} (h : WordsPost w y e w') : WordsLit w y e w' := by
  obtain ⟨A, c, rfl, hown, hb⟩ := h
  have hp : 0 < (wordsN y).length := by
    cases e : wordsN y
    · exact absurd e (words_ne y)
    · simp
  have hrow := own_row hown
  obtain ⟨A', c', he, hc1, hc2, _⟩ := own_form hown
  injection he with _ _ he
  subst he
  obtain ⟨b, o, rfl, _⟩ := hrow.some_lit hp
  exact ⟨b, o, c, rfl, hc1, hrow, hb⟩

/-! the reader of words -/
/-- The reader's block R: what is left of the words, which lie in blocks of S. -/
def RdSt (w : World) (R : Nat) (S : Nat → Prop) (ws : List Qm.W) : Prop :=
  ∃ A c, Whole w R 159 [.slice A ws.length c] ∧ ws.length ≤ c ∧ c ≤ maxLen ∧ Row w S A ws.length (strs ws) ∧ ¬ S R
theorem RdSt.far {w w' : World} {R : Nat} {S D : Nat → Prop} {ws : List Qm.W} (h : RdSt w R S ws) (hf : Far D w w') (hR : ¬ D R) (hS : ∀ k, S k → k < w.heap.size ∧ ¬ D k) : RdSt w' R S ws := by
  obtain ⟨A, c, h1, h2, h3, h4, h5⟩ := h
  exact ⟨A, c, hf.whole h1 hR, h2, h3, h4.keep fun _ hp => hf.cell (hS _ hp).1 (hS _ hp).2, h5⟩
theorem RdSt.lt {w : World} {R : Nat} {S : Nat → Prop} {ws : List Qm.W} (h : RdSt w R S ws) : R < w.heap.size := by
  obtain ⟨A, c, h1, _⟩ := h; exact h1.lt

def NextPost (w : World) (R : Nat) (S : Nat → Prop) (ws : List Qm.W) (e : Ending) (w' : World) : Prop :=
  e = .returned (.string ⟨(ws.headD []).toArray⟩) ∧ RdSt w' R S ws.tail ∧ Far (fun i => i = R) w w' ∧ w'.heap.size = w.heap.size
set_option maxHeartbeats 1600000 in
theorem next_any (R : Nat) (S : Nat → Prop) (ws : List Qm.W) (w : World) (h : RdSt w R S ws) :
    Calls Tryz.prog 137 #[.pointer (some ⟨R, 0, none⟩)] w (NextPost w R S ws) := by
  obtain ⟨A, c, hw, hc1, hc2, hr, hS⟩ := h
  have HW := Lib.hid hw; have HR := Lib.hid hr; have HS := Lib.hid hS
  have g0 := hw.cell 0
  have f0 := hw.free 0
  simp only [List.getElem?_cons_zero] at g0
  unfold maxLen at hc2
  cases ws with
  | nil =>
    clear hw hr hS
    simp only [List.length_nil] at g0
    go_enter Tryz.func137, Tryz.ntmps137
    go_wp2
    go_ret
    exact ⟨rfl, ⟨A, c, HW.out, hc1, by unfold maxLen; omega, HR.out, HS.out⟩, Far.refl _ _, rfl⟩
  | cons a r =>
    obtain ⟨b, o, rfl, hb⟩ := hr.some_lit (by simp)
    have hcell := (hr.2 (by simp))
    obtain ⟨b', o', e, _, hcell⟩ := hcell
    injection e with e; injection e with e1 e2
    subst e1 e2
    have k0 := hcell 0 (by simp)
    simp only [Nat.add_zero, strs, List.map_cons, List.getElem?_cons_zero] at k0
    clear hcell
    have hl : (a :: r).length = r.length + 1 := rfl
    rw [hl] at g0 hc1
    have hdrop := hr.drop (k := 1) (cap := c) (by simp) hc1
    have Hdrop := Lib.hid hdrop
    clear hw hr hS hdrop hl
    by_cases c1 : c = 1
    · subst c1
      go_enter Tryz.func137, Tryz.ntmps137
      go_wp2
      go_ret
      obtain rfl : r = [] := List.eq_nil_of_length_eq_zero (by omega)
      refine ⟨rfl, ⟨some ⟨b, o, none⟩, 0, HW.out.set_ 0 _, Nat.le_refl _, by unfold maxLen; omega, ?_, HS.out⟩, Far.set_ (D := fun i => i = R) rfl 0 _, by simp [World.setCell]⟩
      have hd := Hdrop.out
      simp only [if_true] at hd
      exact hd.keep fun p hp => World.cell?_setCell_other _ _ _ _ (fun e => HS.out (by rw [← e] at hp; exact hp))
    · have h2 : 2 ≤ c := by omega
      go_enter Tryz.func137, Tryz.ntmps137
      go_wp2
      go_ret
      refine ⟨rfl, ⟨some ⟨b, o + 1, none⟩, c - 1, HW.out.set_ 0 _, by simp only [List.tail_cons]; omega, by unfold maxLen; omega, ?_, HS.out⟩, Far.set_ (D := fun i => i = R) rfl 0 _, by simp [World.setCell]⟩
      have hd := Hdrop.out
      rw [if_neg (by omega)] at hd
      exact hd.keep fun p hp => World.cell?_setCell_other _ _ _ _ (fun e => HS.out (by rw [← e] at hp; exact hp))
end Go.Proofs.YtpipgffbhpnmkaaGreatDoor

/- Words in memory, as strings. -/
namespace Go.Proofs.YtpipgffbhpnmkaaGreatDoor
open Go.RowKit Qm

def bas (ws : List Qm.W) : List ByteArray := ws.map fun l => ⟨l.toArray⟩
theorem strs_cell {w : World} {S : Nat → Prop} {b o : Nat} {ws : List Qm.W} (h : Row w S (some ⟨b, o, none⟩) ws.length (strs ws)) : ∀ j, j < (bas ws).length → w.cell? ⟨b, o + j, none⟩ = some (.string ((bas ws).getD j ByteArray.empty)) := by
  intro j hj
  have hj' : j < ws.length := by simpa [bas] using hj
  obtain ⟨b', o', e, _, hc⟩ := h.at_ hj'
  injection e with e; injection e with e1 e2
  subst e1 e2
  rw [hc]
  simp only [strs, bas, List.getElem?_map, List.getD_eq_getElem?_getD, List.getElem?_eq_getElem hj', Option.map_some, Option.getD_some]
end Go.Proofs.YtpipgffbhpnmkaaGreatDoor

/-
  Rows of structs in memory (whatever the structs read as); packages and trees in memory.
-/
namespace Go.Proofs.YtpipgffbhpnmkaaGreatDoor
open Go.RowKit Qm

theorem flatG {K : Nat} {cs : List (List Value)} (h : ∀ x ∈ cs, x.length = K) : ∀ {j : Nat} {x : List Value}, cs[j]? = some x → ∀ i, i < K → cs.flatten[j * K + i]? = x[i]? := by
  induction cs with
  | nil => intro j x hj; simp at hj
  | cons c r ih =>
    intro j x hj i hi
    have hc := h c (List.mem_cons_self ..)
    rw [List.flatten_cons]
    cases j with
    | zero =>
      simp only [List.getElem?_cons_zero, Option.some.injEq] at hj
      subst hj
      rw [List.getElem?_append_left (by omega)]; congr 1; omega
    | succ j =>
      rw [List.getElem?_cons_succ] at hj
      have he : (j + 1) * K = j * K + K := Nat.succ_mul j K
      rw [List.getElem?_append_right (by omega)]
      rw [← ih (fun y hy => h y (List.mem_cons_of_mem _ hy)) hj i hi]
      congr 1; omega

/-- n elements of K cells each; R says how an element's cells read. -/
def RSeq {α : Type} (K : Nat) (R : List Value → α → Prop) (w : World) (S : Nat → Prop) (A : Option Addr) (n : Nat) (ys : List α) : Prop :=
  ∃ cs : List (List Value), ys.length = n ∧ cs.length = n ∧ Row w S A (n * K) cs.flatten ∧ (∀ x ∈ cs, x.length = K) ∧ ∀ (j : Nat) (x : List Value) (y : α), cs[j]? = some x → ys[j]? = some y → R x y
section
variable {α : Type} {K : Nat} {R R' : List Value → α → Prop} {w w' : World} {S S' : Nat → Prop} {A : Option Addr} {n : Nat} {ys : List α}
theorem RSeq.len (h : RSeq K R w S A n ys) : ys.length = n := by obtain ⟨_, h, _⟩ := h; exact h
theorem RSeq.nil_ : RSeq K R w S A 0 [] := ⟨[], rfl, rfl, by rw [Nat.zero_mul]; exact Row.nil_, fun x h => by simp at h, fun j x y h _ => by simp at h⟩
theorem RSeq.keep (h : RSeq K R w S A n ys) (hw : ∀ p : Addr, S p.block → w'.cell? p = w.cell? p) (hR : ∀ x y, R x y → R' x y) : RSeq K R' w' S A n ys := by
  obtain ⟨cs, hk, hcs, hrow, hK, hr⟩ := h
  exact ⟨cs, hk, hcs, hrow.keep hw, hK, fun j x y h1 h2 => hR x y (hr j x y h1 h2)⟩
theorem RSeq.more (hS : ∀ k, S k → S' k) (h : RSeq K R w S A n ys) (hR : ∀ x y, R x y → R' x y) : RSeq K R' w S' A n ys := by
  obtain ⟨cs, hk, hcs, hrow, hK, hr⟩ := h
  exact ⟨cs, hk, hcs, hrow.more hS, hK, fun j x y h1 h2 => hR x y (hr j x y h1 h2)⟩
/-- The element at a place. -/
theorem RSeq.at_ (h : RSeq K R w S A n ys) {j : Nat} (hj : j < n) (hK0 : 0 < K) :
    ∃ b o x y, A = some ⟨b, o, none⟩ ∧ S b ∧ ys[j]? = some y ∧ R x y ∧ x.length = K ∧ ∀ i, i < K → w.cell? ⟨b, o + j * K + i, none⟩ = x[i]? := by
  obtain ⟨cs, hk, hcs, hrow, hK, hr⟩ := h
  have hjK : j * K + K ≤ n * K := by rw [← Nat.succ_mul]; exact Nat.mul_le_mul_right K hj
  obtain ⟨b, o, hA, hb, hc⟩ := hrow.2 (by omega)
  have e1 : cs[j]? = some (cs[j]'(by omega)) := List.getElem?_eq_getElem (by omega)
  have e2 : ys[j]? = some (ys[j]'(by omega)) := List.getElem?_eq_getElem (by omega)
  refine ⟨b, o, _, _, hA, hb, e2, hr j _ _ e1 e2, hK _ (List.getElem_mem _), fun i hi => ?_⟩
  rw [Nat.add_assoc, hc (j * K + i) (by omega)]
  exact flatG hK e1 i hi
end

/-- The fourteen cells of a package. -/
def pkRow (p : Pk) (A : Option Addr) (n c : Nat) (x : List Value) : List Value := .string ⟨p.nm.toArray⟩ :: .int .i64 p.ver :: .int .i64 p.slot :: .slice A n c :: x
/-- Words in memory, each of a length that there may be. -/
structure RWords (w : World) (S : Nat → Prop) (A : Option Addr) (n : Nat) (fs : List Qm.W) : Prop where
  row : Row w S A n (strs fs)
  small : ∀ f ∈ fs, f.length ≤ maxLen
theorem RWords.len {w : World} {S : Nat → Prop} {A : Option Addr} {n : Nat} {fs : List Qm.W} (h : RWords w S A n fs) : fs.length = n := by have := h.row.len; simpa [strs] using this
theorem RWords.keep {w w' : World} {S : Nat → Prop} {A : Option Addr} {n : Nat} {fs : List Qm.W} (h : RWords w S A n fs) (hw : ∀ p : Addr, S p.block → w'.cell? p = w.cell? p) : RWords w' S A n fs := ⟨h.row.keep hw, h.small⟩
theorem RWords.more {w : World} {S S' : Nat → Prop} (hS : ∀ k, S k → S' k) {A : Option Addr} {n : Nat} {fs : List Qm.W} (h : RWords w S A n fs) : RWords w S' A n fs := ⟨h.row.more hS, h.small⟩
theorem RWords.under {w w' : World} {S : Nat → Prop} {B : Nat} {A : Option Addr} {n : Nat} {fs : List Qm.W} (h : RWords w S A n fs) (hb : Below B w w') (hS : ∀ k, S k → k < B) : RWords w' S A n fs := h.keep fun _ hp => hb.cell (hS _ hp)
theorem RWords.nil_ {w : World} {S : Nat → Prop} {A : Option Addr} : RWords w S A 0 [] := ⟨Row.nil_, fun _ h => by cases h⟩
theorem RWords.at_ {w : World} {S : Nat → Prop} {A : Option Addr} {n : Nat} {fs : List Qm.W} (h : RWords w S A n fs) {j : Nat} (hj : j < n) :
    ∃ b o f, A = some ⟨b, o, none⟩ ∧ S b ∧ fs[j]? = some f ∧ f.length ≤ maxLen ∧ w.cell? ⟨b, o + j, none⟩ = some (.string ⟨f.toArray⟩) := by
  have hl := h.len
  obtain ⟨b, o, hA, hb, hc⟩ := h.row.at_ hj
  have e : fs[j]? = some (fs[j]'(by omega)) := List.getElem?_eq_getElem (by omega)
  refine ⟨b, o, _, hA, hb, e, h.small _ (List.getElem_mem _), ?_⟩
  rw [hc]
  simp only [strs, List.getElem?_map, e, Option.map_some]

structure PkAt (w : World) (S : Nat → Prop) (p : Pk) (A : Option Addr) (n c : Nat) (x : List Value) : Prop where
  cap : n ≤ c
  max : c ≤ maxLen
  nm : p.nm.length ≤ maxLen
  fs : RWords w S A n p.fs
  nd : RNd w S x p.nd
def RPk (w : World) (S : Nat → Prop) (cs : List Value) (p : Pk) : Prop := ∃ A n c x, cs = pkRow p A n c x ∧ PkAt w S p A n c x
theorem PkAt.keep {w w' : World} {S : Nat → Prop} {p : Pk} {A : Option Addr} {n c : Nat} {x : List Value} (h : PkAt w S p A n c x) (hw : ∀ p : Addr, S p.block → w'.cell? p = w.cell? p) : PkAt w' S p A n c x :=
  ⟨h.cap, h.max, h.nm, h.fs.keep hw, h.nd.keep hw⟩
theorem PkAt.more {w : World} {S S' : Nat → Prop} (hS : ∀ k, S k → S' k) {p : Pk} {A : Option Addr} {n c : Nat} {x : List Value} (h : PkAt w S p A n c x) : PkAt w S' p A n c x :=
  ⟨h.cap, h.max, h.nm, h.fs.more hS, h.nd.more hS⟩
theorem PkAt.under {w w' : World} {S : Nat → Prop} {B : Nat} {p : Pk} {A : Option Addr} {n c : Nat} {x : List Value} (h : PkAt w S p A n c x) (hb : Below B w w') (hS : ∀ k, S k → k < B) : PkAt w' S p A n c x := h.keep fun _ hp => hb.cell (hS _ hp)
theorem RPk.keep {w w' : World} {S : Nat → Prop} {x : List Value} {p : Pk} (h : RPk w S x p) (hw : ∀ p : Addr, S p.block → w'.cell? p = w.cell? p) : RPk w' S x p := by
  obtain ⟨A, n, c, y, rfl, h⟩ := h; exact ⟨A, n, c, y, rfl, h.keep hw⟩
theorem RPk.more {w : World} {S S' : Nat → Prop} (hS : ∀ k, S k → S' k) {x : List Value} {p : Pk} (h : RPk w S x p) : RPk w S' x p := by
  obtain ⟨A, n, c, y, rfl, h⟩ := h; exact ⟨A, n, c, y, rfl, h.more hS⟩
theorem RPk.under {w w' : World} {S : Nat → Prop} {B : Nat} {x : List Value} {p : Pk} (h : RPk w S x p) (hb : Below B w w') (hS : ∀ k, S k → k < B) : RPk w' S x p := h.keep fun _ hp => hb.cell (hS _ hp)
theorem RPk.len {w : World} {S : Nat → Prop} {x : List Value} {p : Pk} (h : RPk w S x p) : x.length = 14 := by
  obtain ⟨A, n, c, y, rfl, h⟩ := h; simp [pkRow, h.nd.ten]

/-- Packages in memory. -/
def RTree (w : World) (S : Nat → Prop) (A : Option Addr) (n : Nat) (ps : List Pk) : Prop := RSeq 14 (RPk w S) w S A n ps
section
variable {w w' : World} {S S' : Nat → Prop} {A : Option Addr} {n : Nat} {ps : List Pk}
theorem RTree.len (h : RTree w S A n ps) : ps.length = n := RSeq.len h
theorem RTree.nil_ : RTree w S A 0 [] := RSeq.nil_
theorem RTree.keep (h : RTree w S A n ps) (hw : ∀ p : Addr, S p.block → w'.cell? p = w.cell? p) : RTree w' S A n ps := RSeq.keep h hw fun _ _ h => h.keep hw
theorem RTree.more (hS : ∀ k, S k → S' k) (h : RTree w S A n ps) : RTree w S' A n ps := RSeq.more hS h fun _ _ h => h.more hS
theorem RTree.under {B : Nat} (h : RTree w S A n ps) (hb : Below B w w') (hS : ∀ k, S k → k < B) : RTree w' S A n ps := h.keep fun _ hp => hb.cell (hS _ hp)
/-- The package at a place, its cells spelt out. -/
theorem RTree.at_ (h : RTree w S A n ps) {j : Nat} (hj : j < n) :
    ∃ b o p B m c k a f no D q d, A = some ⟨b, o, none⟩ ∧ S b ∧ ps[j]? = some p ∧ PkAt w S p B m c (ndRow k a f no D q d) ∧ ∀ i, i < 14 → w.cell? ⟨b, o + j * 14 + i, none⟩ = (pkRow p B m c (ndRow k a f no D q d))[i]? := by
  obtain ⟨b, o, x, p, hA, hb, hp, ⟨B, m, c, y, rfl, hR⟩, _, hc⟩ := RSeq.at_ h hj (by decide)
  obtain ⟨k, a, f, no, ks⟩ : Nd := p.nd
  have := hR.nd
  rcases p with ⟨nm, ver, slot, fs, ⟨k, a, f, no, ks⟩⟩
  obtain ⟨D, q, d, rfl, -⟩ := this.open_
  exact ⟨b, o, _, B, m, c, k, a, f, no, D, q, d, hA, hb, hp, hR, hc⟩
end
end Go.Proofs.YtpipgffbhpnmkaaGreatDoor

/- tree.before, walked. -/
namespace Go.Proofs.YtpipgffbhpnmkaaGreatDoor
open Go.RowKit Qm

set_option maxHeartbeats 1600000 in
theorem before_any (p p' : Pk) (A A' : Option Addr) (n c n' c' : Nat) (k k' : Int) (a a' : At) (f f' : Qm.W) (no no' : Bool) (D D' : Option Addr) (q d q' d' : Nat) (w : World) :
    Calls Tryz.prog 86 #[.agg (pkRow p A n c (ndRow k a f no D q d)).toArray, .agg (pkRow p' A' n' c' (ndRow k' a' f' no' D' q' d')).toArray] w fun e w' =>
      e = .returned (.bool (beforeP p p')) ∧ Below w.heap.size w w' := by
  unfold pkRow ndRow
  have HR : Hid (beforeP p p' = (decide (p.nm < p'.nm) || (decide (p.nm = p'.nm) && decide (p.ver < p'.ver)))) := Lib.hid rfl
  generalize beforeP p p' = R at HR ⊢
  obtain ⟨nm, ver, slot, fs, nd⟩ := p
  obtain ⟨nm', ver', slot', fs', nd'⟩ := p'
  have hb := bytesLess_eq nm nm'
  dsimp only at HR hb ⊢
  by_cases h1 : nm < nm'
  · rw [decide_eq_true h1] at hb
    have H1 := Lib.hid h1; clear h1
    go_enter Tryz.func86, Tryz.ntmps86
    go_wp2
    go_ret
    exact ⟨ret_bool (by rw [HR.out, decide_eq_true H1.out]; rfl), ((Below.refl _ w).alloc (Nat.le_refl _) _).alloc (by simp) _⟩
  · rw [decide_eq_false h1] at hb
    have H1 := Lib.hid h1; clear h1
    by_cases h2 : nm = nm'
    · subst h2
      by_cases h3 : ver < ver'
      · go_enter Tryz.func86, Tryz.ntmps86
        go_wp2
        go_ret
        exact ⟨ret_bool (by rw [HR.out, decide_eq_false H1.out, decide_eq_true h3]; simp), ((Below.refl _ w).alloc (Nat.le_refl _) _).alloc (by simp) _⟩
      · go_enter Tryz.func86, Tryz.ntmps86
        go_wp2
        go_ret
        exact ⟨ret_bool (by rw [HR.out, decide_eq_false H1.out, decide_eq_false (Int.not_lt.2 h3)]; simp), ((Below.refl _ w).alloc (Nat.le_refl _) _).alloc (by simp) _⟩
    · have H2 := Lib.hid h2
      have h2' : (nm == nm') = false := by simpa using h2
      clear h2
      go_enter Tryz.func86, Tryz.ntmps86
      go_wp2
      go_ret
      exact ⟨ret_bool (by rw [HR.out, decide_eq_false H1.out, decide_eq_false H2.out]; rfl), ((Below.refl _ w).alloc (Nat.le_refl _) _).alloc (by simp) _⟩
end Go.Proofs.YtpipgffbhpnmkaaGreatDoor

/- slices.Contains of words. -/
namespace Go.Proofs.YtpipgffbhpnmkaaGreatDoor
open Go.RowKit Qm

theorem containsS_any (A : Option Addr) (n c : Nat) (fs : List Qm.W) (x : Qm.W) (w : World) (S : Nat → Prop) (h : Row w S A n (strs fs)) (hn : n ≤ maxLen) :
    Calls Tryz.prog 53 #[.slice A n c, .string ⟨x.toArray⟩] w fun e w' => e = .returned (.bool (fs.contains x)) ∧ w' = w := by
  have hl : fs.length = n := by have := h.len; simpa [strs] using this
  unfold maxLen at hn
  by_cases h0 : n = 0
  · subst h0
    obtain rfl := List.eq_nil_of_length_eq_zero hl
    exact (Tryz.slices_Contains_string_empty A c ⟨x.toArray⟩ w).mono fun e w' ⟨he, hw⟩ => ⟨by simpa using he, hw⟩
  · obtain ⟨b, o, rfl, _⟩ := h.some_lit (by omega)
    refine (Tryz.slices_Contains_string b o n c (bas fs) ⟨x.toArray⟩ w (by simp [bas, hl]) (by omega) (strs_cell (by rw [hl]; exact h))).mono fun e w' ⟨he, hw⟩ => ⟨?_, hw⟩
    rw [he, List.take_of_length_le (by simp [bas, hl])]
    congr 2
    rw [Bool.eq_iff_iff, Lib.containsS_iff, List.contains_iff_mem]
    unfold bas
    rw [List.mem_map]
    constructor
    · rintro ⟨y, hy, e⟩
      have := congrArg (·.data.toList) e
      simp only at this
      rwa [← show y = x from this]
    · intro hx; exact ⟨x, hx, rfl⟩
end Go.Proofs.YtpipgffbhpnmkaaGreatDoor

/- atom.Fits, atom.number, walked; what the listed variables hold. -/
namespace Go.Proofs.YtpipgffbhpnmkaaGreatDoor
open Go.RowKit Qm

/-- What the library's functions read: laid in the row. -/
structure LaidV (w : World) : Prop where
  syn : ∃ tp p, w.var? Tryz.prog "strconv.ErrSyntax" = some #[.iface tp p]
  rng : ∃ tp p, w.var? Tryz.prog "strconv.ErrRange" = some #[.iface tp p]
  tab : Lib.TabIs Tryz.prog w "internal/strconv.uint64pow10" .u64 Lib.pow10Tab

theorem var_below {P : Program} {w w' : World} {n : String} {cs : Array Value} (h : w.var? P n = some cs) (hb : Below w.heap.size w w') : w'.var? P n = some cs := by
  unfold World.var? at h ⊢
  cases hg : P.globalNamed n with
  | none => rw [hg] at h; cases h
  | some g =>
    rw [hg] at h
    simp only [Option.bind_some] at h ⊢
    have hlt : g < w.heap.size := by
      rcases Nat.lt_or_ge g w.heap.size with hlt | hge
      · exact hlt
      · rw [Array.getElem?_eq_none hge] at h; cases h
    rw [hb.block g hlt]
    exact h

theorem LaidV.below {w w' : World} (h : LaidV w) (hb : Below w.heap.size w w') : LaidV w' := by
  obtain ⟨⟨t1, p1, h1⟩, ⟨t2, p2, h2⟩, h3⟩ := h
  exact ⟨⟨t1, p1, var_below h1 hb⟩, ⟨t2, p2, var_below h2 hb⟩, var_below h3 hb⟩

theorem bs_eq (a : List UInt8) (s : ByteArray) : (a == s.toList) = decide (a = s.data.toList) := by
  rw [Lib.toList_data, Bool.eq_iff_iff]
  simp

set_option maxHeartbeats 3200000 in
theorem number_any (s : ByteArray) (w : World) (hs : s.size ≤ 140737488355328) (hL : LaidV w) :
    Calls Tryz.prog 173 #[.string s] w fun e w' => ∃ n, e = .returned (.tuple #[.int .i64 n, .bool (number s.data.toList).isSome]) ∧ (∀ v, number s.data.toList = some v → n = v) ∧ Below w.heap.size w w' := by
  obtain ⟨⟨tp, p, h1⟩, ⟨tp2, p2, h2⟩, h3⟩ := hL
  rcases h : Lib.atoiAll s.data.toList with v | _ | _
  · skip
    have hat := Tryz.strconv_Atoi_ok s (by omega) v h w
    obtain ⟨hv0, hv1⟩ := Lib.atoiAll_bounds h
    go_enter Tryz.func173, Tryz.ntmps173
    go_wp2_with (first | (go_at_call 115; refine hat.mono ?_; rintro e w1 ⟨rfl, hw1⟩; refine Hid.out ?_))
    have hb1 : Hid (Below w.heap.size w w1) := Lib.hid (by
      rcases hw1 with rfl | ⟨t, rfl⟩
      · exact Below.refl _ _
      · exact Lib.bytesWorld_below _ _ _)
    clear hw1
    have hit := Tryz.strconv_Itoa v (by omega) (by omega) w1 (var_below h3 hb1.out)
    have Hit := Lib.hid hit
    clear hit
    have hcmp := bs_eq (Lib.itoa v) s
    have HV := Lib.hid (show number s.data.toList = if Lib.itoa v = s.data.toList then some v else none by unfold number; rw [h])
    clear h
    generalize Lib.itoa v = T at hcmp HV Hit
    by_cases e1 : T = s.data.toList
    · rw [decide_eq_true e1] at hcmp
      have E1 := Lib.hid e1; clear e1
      refine Lib.hid ?_
      go_wp2_with (first | (go_at_call 116; refine Hit.out.mono ?_; rintro e w2 ⟨rfl, k, os, hw2⟩))
      go_ret2
      refine ⟨v, ?_, ?_, hb1.out.trans (by subst hw2; exact (Lib.below_grow _ _ (Nat.le_refl _) _ _).mono hb1.out.size)⟩
      · rw [HV.out, if_pos E1.out]; rfl
      · rw [HV.out, if_pos E1.out]; intro u hu; injection hu
    · rw [decide_eq_false e1] at hcmp
      have E1 := Lib.hid e1; clear e1
      refine Lib.hid ?_
      go_wp2_with (first | (go_at_call 116; refine Hit.out.mono ?_; rintro e w2 ⟨rfl, k, os, hw2⟩))
      go_ret2
      refine ⟨v, ?_, ?_, hb1.out.trans (by subst hw2; exact (Lib.below_grow _ _ (Nat.le_refl _) _ _).mono hb1.out.size)⟩
      · rw [HV.out, if_neg E1.out]; rfl
      · rw [HV.out, if_neg E1.out]; intro u hu; cases hu
  · have hat := Any.strconv_Atoi_syntax_var Tryz.laysC172 s (by omega) h tp p w h1
    go_enter Tryz.func173, Tryz.ntmps173
    go_wp2_with (first | (go_at_call 115; refine hat.mono ?_; rintro e w1 ⟨N, rfl, -, -, hb⟩))
    go_ret2
    have hn : number s.data.toList = none := by unfold number; rw [h]
    exact ⟨_, by rw [hn]; rfl, (by rw [hn]; intro v hv; cases hv), hb⟩
  · have hat := Tryz.strconv_Atoi_range_var s (by omega) h tp2 p2 w h2
    go_enter Tryz.func173, Tryz.ntmps173
    go_wp2_with (first | (go_at_call 115; refine hat.mono ?_; rintro e w1 ⟨N, rfl, -, -, hb⟩))
    go_ret2
    have hn : number s.data.toList = none := by unfold number; rw [h]
    exact ⟨_, by rw [hn]; rfl, (by rw [hn]; intro v hv; cases hv), hb⟩
end Go.Proofs.YtpipgffbhpnmkaaGreatDoor
