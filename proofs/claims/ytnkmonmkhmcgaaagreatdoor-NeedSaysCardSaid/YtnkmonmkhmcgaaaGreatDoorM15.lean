/- Parts of the proof: walks and plain laws, side by side. -/
import Derived.Test.YtnkmonmkhmcgaaaGreatDoorM12
import Derived.Test.YtnkmonmkhmcgaaaGreatDoorM13
import Derived.Test.YtnkmonmkhmcgaaaGreatDoorM9
import Derived.Test.YtnkmonmkhmcgaaaGreatDoorM14
import Derived.Test.YtnkmonmkhmcgaaaGreatDoorM1
import Derived.Test.YtnkmonmkhmcgaaaGreatDoorM2
import Derived.Test.YtnkmonmkhmcgaaaGreatDoorM3
import Derived.Test.YtnkmonmkhmcgaaaGreatDoorM4
import Derived.Test.YtnkmonmkhmcgaaaGreatDoorM5
import Derived.Test.YtnkmonmkhmcgaaaGreatDoorM6
import Derived.Test.YtnkmonmkhmcgaaaGreatDoorM7
import Derived.Test.YtnkmonmkhmcgaaaGreatDoorM8
import Derived.Test.YtnkmonmkhmcgaaaGreatDoorM10
import Derived.Test.YtnkmonmkhmcgaaaGreatDoorM11
set_option linter.unusedVariables false
set_option linter.unusedSimpArgs false
set_option linter.unusedSectionVars false
/- quartermasterref.ReadNeed: the state of its loop. (Of the shelf: Tryz.strings_TrimSuffix Tryz.strings_HasPrefix Tryz.strings_HasSuffix) -/
namespace Go.Proofs.YtnkmonmkhmcgaaaGreatDoor
open Go.RowKit Qm

/-- What stands still in the loop: the result's box, the words. -/
structure Rw (w : World) (ws : List Qm.W) (wx : World) : Prop where
  res : Whole wx w.heap.size 26 [.int .i64 0, .string ⟨#[]⟩, .int .i64 0, .int .i64 0, .int .i64 0, .string ⟨#[]⟩, .bool false, .string ⟨#[]⟩, .bool false, .slice none 0 0]
  words : Whole wx (w.heap.size + 1 + 1 + 1) 9 (strs ws)
  bel : Below w.heap.size w wx
  sz : w.heap.size + 1 + 1 + 1 + 1 ≤ wx.heap.size
section
variable {w wx wy : World} {ws : List Qm.W}
theorem Rw.far (h : Rw w ws wx) (hf : Far (fun i => i = w.heap.size + 1 ∨ i = w.heap.size + 1 + 1 ∨ w.heap.size + 1 + 1 + 1 + 1 ≤ i) wx wy) : Rw w ws wy :=
  ⟨hf.whole h.res (by omega), hf.whole h.words (by omega), h.bel.trans (hf.below h.bel.size fun i hi => by omega), Nat.le_trans h.sz hf.size⟩
theorem Rw.below (h : Rw w ws wx) (hb : Below wx.heap.size wx wy) : Rw w ws wy := h.far (Far.of_below _ hb)
end
/-- While nothing whole stands. -/
structure Ra (w : World) (ws : List Qm.W) (j : Nat) (Q : Option Nd) (fs : List Fr) (hs : List Hd) (A : Option Addr) (c : Nat) (wx : World) : Prop where
  rw_ : Rw w ws wx
  bo : Bo (w.heap.size + 1 + 1 + 1 + 1) (w.heap.size + 1) (w.heap.size + 1 + 1) fs hs A c (.pointer none) wx
  q : Q = STK fs (ws.drop j)
  few : fs.length ≤ 4
  ys : ∀ f ∈ fs, f.ys.length ≤ j
/-- The whole one stands in block p. -/
structure Rb (w : World) (ws : List Qm.W) (j : Nat) (Q : Option Nd) (p : Nat) (row : List Value) (n : Nd) (wx : World) : Prop where
  rw_ : Rw w ws wx
  bx : Whole wx (w.heap.size + 1 + 1) 62 [.pointer (some ⟨p, 0, none⟩)]
  wh : Whole wx p 26 row
  nd : RNd wx (fun i => w.heap.size + 1 + 1 + 1 + 1 ≤ i ∧ i < wx.heap.size) row n
  q : Q = if ws.drop j = [] then some n else none
def Rst (w : World) (ws : List Qm.W) (j : Nat) (Q : Option Nd) (wx : World) : Prop := (∃ fs hs A c, Ra w ws j Q fs hs A c wx) ∨ ∃ p row n, Rb w ws j Q p row n wx
theorem bel1 (w : World) (o1 : Obj) : Below w.heap.size w (w.alloc o1) := (Below.refl _ w).alloc (Nat.le_refl _) _
/-- The top one is taken off, and stands in a box of its own. -/
theorem Ra.shutw {w wr : World} {ws : List Qm.W} {j c b : Nat} {Q : Option Nd} {g : Fr} {gs : List Fr} {hd : Hd} {hs : List Hd} (h : Ra w ws j Q (g :: gs) (hd :: hs) (some ⟨b, 0, none⟩) c wr) (o : Obj) :
    Rw w ws ((wr.setCell ⟨w.heap.size + 1, 0, none⟩ (.slice (some ⟨b, 0, none⟩) gs.length c)).alloc o) ∧
    Bo (w.heap.size + 1 + 1 + 1 + 1) (w.heap.size + 1) (w.heap.size + 1 + 1) gs hs (some ⟨b, 0, none⟩) c (.pointer none) ((wr.setCell ⟨w.heap.size + 1, 0, none⟩ (.slice (some ⟨b, 0, none⟩) gs.length c)).alloc o) ∧
    RNd ((wr.setCell ⟨w.heap.size + 1, 0, none⟩ (.slice (some ⟨b, 0, none⟩) gs.length c)).alloc o) (Fre ((wr.setCell ⟨w.heap.size + 1, 0, none⟩ (.slice (some ⟨b, 0, none⟩) gs.length c)).alloc o) (w.heap.size + 1 + 1 + 1 + 1) (some ⟨b, 0, none⟩) hs) (frow g hd) g.shut := by
  obtain ⟨hp, hn⟩ := h.bo.op.pop
  have f1 : Far (fun i => i = w.heap.size + 1) wr (wr.setCell ⟨w.heap.size + 1, 0, none⟩ (.slice (some ⟨b, 0, none⟩) gs.length c)) := Far.set_ (D := fun i => i = w.heap.size + 1) rfl 0 _
  have f2 : Far (fun i => i = w.heap.size + 1) wr ((wr.setCell ⟨w.heap.size + 1, 0, none⟩ (.slice (some ⟨b, 0, none⟩) gs.length c)).alloc o) := f1.trans (Far.of_below (fun _ => False) (bel1 _ o)) fun _ _ e => e.elim
  have hne := h.bo.ne
  refine ⟨h.rw_.far (f2.mono fun i e => .inl e), ⟨(h.bo.o.set_ 0 _).alloc _, f2.whole h.bo.h (fun e => hne e.symm), hp.far (f2.mono fun i e => by omega), h.bo.lo, h.bo.lh, h.bo.ne⟩, ?_⟩
  exact (hn.keep fun p hq => f2.cell hq.2.1 (by have := hq.1; omega)).more fun i hi => ⟨hi.1, Nat.lt_of_lt_of_le hi.2.1 f2.size, hi.2.2⟩
set_option maxHeartbeats 1600000 in
theorem rput_any {w W : World} {ws : List Qm.W} {j c : Nat} {Q : Option Nd} {fs : List Fr} {hs : List Hd} {A : Option Addr} (x : List Value) (n : Nd) (hrw : Rw w ws W) (hbo : Bo (w.heap.size + 1 + 1 + 1 + 1) (w.heap.size + 1) (w.heap.size + 1 + 1) fs hs A c (.pointer none) W)
    (hn : RNd W (Fre W (w.heap.size + 1 + 1 + 1 + 1) A hs) x n) (hq : Q = putS STK n fs (ws.drop (j + 1))) (few : fs.length ≤ 4) (hys : ∀ f ∈ fs, f.ys.length ≤ j) (hj : j ≤ 30000) :
    Calls Tryz.prog 35 #[.agg x.toArray, .pointer (some ⟨w.heap.size + 1, 0, none⟩), .pointer (some ⟨w.heap.size + 1 + 1, 0, none⟩)] W fun e w' => e = .returned (.bool true) ∧ Rst w ws (j + 1) Q w' := by
  cases fs with
  | nil =>
    obtain rfl : hs = [] := by
      cases hs with
      | nil => rfl
      | cons hd hs' => exact absurd hbo.op.kids (by simp [KidsOk])
    refine (rput_nil x W hn.ten hbo).mono ?_
    rintro e w' ⟨rfl, h1, h2, h3⟩
    refine ⟨rfl, .inr ⟨W.heap.size, x, n, ?_⟩⟩
    exact ⟨hrw.far (h3.mono fun i e => .inr (.inl e)), h1.h, h2, (hn.keep fun p hp => h3.cell hp.2.1 (by have := hp.1; omega)).more fun i hi => ⟨hi.1, Nat.lt_of_lt_of_le hi.2.1 h3.size⟩, hq⟩
  | cons g gs =>
    obtain ⟨hd, hs', rfl⟩ : ∃ hd hs', hs = hd :: hs' := by
      cases hs with
      | nil => exact absurd hbo.op.kids (by simp [KidsOk])
      | cons hd hs' => exact ⟨hd, hs', rfl⟩
    simp only [List.length_cons] at few
    have hg := hys g (List.mem_cons_self ..)
    refine (rput_cons x n W hbo hn hrw.sz (by omega) (by omega)).mono ?_
    rintro e w' ⟨rfl, hd', h1, h2⟩
    refine ⟨rfl, .inl ⟨g.push n :: gs, hd' :: hs', A, c, ?_⟩⟩
    refine ⟨hrw.far (h2.mono fun i e => .inr (.inr e)), h1, hq, by simp; omega, fun f hf => ?_⟩
    rcases List.mem_cons.1 hf with rfl | hf
    · simp [Fr.push]; omega
    · have := hys f (List.mem_cons_of_mem _ hf); omega
theorem ra_start (w : World) (ws : List Qm.W) (hl : ws.length ≤ maxLen) :
    Ra w ws 0 (STK [] ws) [] [] none 0 ((((w.alloc (.cells #[.int .i64 0, .string ⟨#[]⟩, .int .i64 0, .int .i64 0, .int .i64 0, .string ⟨#[]⟩, .bool false, .string ⟨#[]⟩, .bool false, .slice none 0 0] 26)).alloc (.cells #[.slice none 0 0] 24)).alloc (.cells #[.pointer none] 62)).alloc (.cells (strs ws).toArray 9)) := by
  have hb : Below w.heap.size w ((((w.alloc (.cells #[.int .i64 0, .string ⟨#[]⟩, .int .i64 0, .int .i64 0, .int .i64 0, .string ⟨#[]⟩, .bool false, .string ⟨#[]⟩, .bool false, .slice none 0 0] 26)).alloc (.cells #[.slice none 0 0] 24)).alloc (.cells #[.pointer none] 62)).alloc (.cells (strs ws).toArray 9)) := (bel3 w _ _ _).alloc (by simp; omega) _
  refine ⟨⟨(((Whole.new w _ _ [_, _, _, _, _, _, _, _, _, _] rfl).alloc _).alloc _).alloc _, Whole.new _ _ _ _ (by simp), hb, by simp⟩, ⟨((Whole.new _ _ _ [_] (by simp)).alloc _).alloc _, (Whole.new _ _ _ [_] (by simp)).alloc _, Op.nil _, by omega, by omega, by omega⟩, rfl, by simp, by simp⟩

/-- What is known behind the append to 'open'. -/
structure Oaf (BO b8 m nb : Nat) (v : Value) (row : List Value) (w8 : World) : Prop where
  cell : ∀ i, i < 10 → w8.cell? ⟨b8, m * 10 + i, none⟩ = ([.int .i64 0, .string ⟨#[]⟩, .int .i64 0, .int .i64 0, .int .i64 0, .string ⟨#[]⟩, .bool false, .string ⟨#[]⟩, .bool false, .slice none 0 0] : List Value)[i]? ∧ w8.frozen? ⟨b8, m * 10 + i, none⟩ = false
  lt : b8 < w8.heap.size
  n : Whole w8 nb 26 row
  o : Whole w8 BO 24 [v]
  ne : b8 ≠ BO
theorem Bo.aft {B BO BW c c8 b8 nb m : Nat} {fs : List Fr} {hs : List Hd} {A : Option Addr} {wh : Value} {wr wx w8 : World} {row : List Value} (h : Bo B BO BW fs hs A c wh wr) (hbel : Below wr.heap.size wr wx) (hm : fs.length = m)
    (hown8 : w8.ownsRow B 26 10 (.slice (some ⟨b8, 0, none⟩) (m + 1) c8) (m + 1) (frows fs hs ++ [.int .i64 0, .string ⟨#[]⟩, .int .i64 0, .int .i64 0, .int .i64 0, .string ⟨#[]⟩, .bool false, .string ⟨#[]⟩, .bool false, .slice none 0 0]))
    (hg8 : wx.grownBy w8 (Value.slice A m c).ownBlock) (hN : Whole wx nb 26 row) (hnb : ∀ i, (Value.slice A m c).ownBlock = some i → i ≠ nb) : Oaf BO b8 m nb (.slice A m c) row w8 := by
  have hl := h.op.kids.len
  have hA : ∀ i, (Value.slice A m c).ownBlock = some i → B ≤ i ∧ i < wr.heap.size := fun i e => h.op.own.lt i (by rw [hm]; exact e)
  have hlo := h.lo
  refine ⟨fun i hi => own_top hown8 (by rw [frows_len hl, hm]) hi, (hown8.lt b8 rfl).2, hN.grown hg8 fun e => hnb _ e.symm rfl, ?_, ?_⟩
  · have := ((h.o.below hbel h.o.lt).grown hg8 fun e => by have := hA _ e.symm; omega)
    rw [hm] at this
    exact this
  · have := (hown8.lt b8 rfl).1; omega
theorem Ra.opened {w wr wx w8 wz : World} {ws : List Qm.W} {j j' m b8 c c8 : Nat} {Q : Option Nd} {fs : List Fr} {hs : List Hd} {A : Option Addr} {k : Int} {f : Qm.W} {no : Bool} (h : Ra w ws j Q fs hs A c wr) (hm : fs.length = m) (hm4 : m < 4) (hQ : Q = STK (⟨k, f, no, []⟩ :: fs) (ws.drop j')) (hj : j ≤ j') (hf : f.length ≤ maxLen)
    (hbel : Below wr.heap.size wr wx)
    (hown8 : w8.ownsRow (w.heap.size + 1 + 1 + 1 + 1) 26 10 (.slice (some ⟨b8, 0, none⟩) (m + 1) c8) (m + 1) (frows fs hs ++ [.int .i64 0, .string ⟨#[]⟩, .int .i64 0, .int .i64 0, .int .i64 0, .string ⟨#[]⟩, .bool false, .string ⟨#[]⟩, .bool false, .slice none 0 0]))
    (hg8 : wx.grownBy w8 (Value.slice A m c).ownBlock) (hv8 : (Value.slice (some ⟨b8, 0, none⟩) (m + 1) c8).ownBlock = (Value.slice A m c).ownBlock ∨ (Value.slice (some ⟨b8, 0, none⟩) (m + 1) c8).ownBlock = some wx.heap.size)
    (hz : ((((((((((((w8.setCell ⟨b8, m * 10, none⟩ (.int .i64 k)).setCell ⟨b8, m * 10 + 1, none⟩ (.string ⟨#[]⟩)).setCell ⟨b8, m * 10 + 2, none⟩ (.int .i64 0)).setCell ⟨b8, m * 10 + 3, none⟩ (.int .i64 0)).setCell ⟨b8, m * 10 + 4, none⟩ (.int .i64 0)).setCell ⟨b8, m * 10 + 5, none⟩ (.string ⟨#[]⟩)).setCell ⟨b8, m * 10 + 6, none⟩ (.bool false)).setCell ⟨b8, m * 10 + 7, none⟩ (.string ⟨f.toArray⟩)).setCell ⟨b8, m * 10 + 8, none⟩ (.bool no)).setCell ⟨b8, m * 10 + 9, none⟩ (.slice none 0 0))).setCell ⟨w.heap.size + 1, 0, none⟩ (.slice (some ⟨b8, 0, none⟩) (m + 1) c8)) = wz ∨
      (((((((((((w8.setCell ⟨w.heap.size + 1, 0, none⟩ (.slice (some ⟨b8, 0, none⟩) (m + 1) c8)).setCell ⟨b8, m * 10, none⟩ (.int .i64 k)).setCell ⟨b8, m * 10 + 1, none⟩ (.string ⟨#[]⟩)).setCell ⟨b8, m * 10 + 2, none⟩ (.int .i64 0)).setCell ⟨b8, m * 10 + 3, none⟩ (.int .i64 0)).setCell ⟨b8, m * 10 + 4, none⟩ (.int .i64 0)).setCell ⟨b8, m * 10 + 5, none⟩ (.string ⟨#[]⟩)).setCell ⟨b8, m * 10 + 6, none⟩ (.bool false)).setCell ⟨b8, m * 10 + 7, none⟩ (.string ⟨f.toArray⟩)).setCell ⟨b8, m * 10 + 8, none⟩ (.bool no)).setCell ⟨b8, m * 10 + 9, none⟩ (.slice none 0 0)) = wz) :
    Ra w ws j' Q (⟨k, f, no, []⟩ :: fs) ((none, 0) :: hs) (some ⟨b8, 0, none⟩) c8 wz := by
  subst hm
  have hl := h.bo.op.kids.len
  have ho8 := (h.bo.op.below hbel).open_ (k := 0) (f := []) (no := false) (Nat.zero_le _) hown8 hg8 hv8
  have hA : ∀ i, (Value.slice A fs.length c).ownBlock = some i → w.heap.size + 1 + 1 + 1 + 1 ≤ i := fun i e => (h.bo.op.own.lt i e).1
  have f8 : Far (fun i => w.heap.size + 1 + 1 + 1 + 1 ≤ i) wr w8 := (Far.of_below _ hbel).trans (Far.of_grown (D := fun i => w.heap.size + 1 + 1 + 1 + 1 ≤ i) hg8 fun i e => hA i e.symm) fun _ _ e => e
  have hb8 := (hown8.lt b8 rfl).1
  have o8 := f8.whole h.bo.o (by omega)
  have w8h := f8.whole h.bo.h (by omega)
  have key : Op (w.heap.size + 1 + 1 + 1 + 1) (⟨k, f, no, []⟩ :: fs) ((none, 0) :: hs) (some ⟨b8, 0, none⟩) c8 wz ∧ Whole wz (w.heap.size + 1) 24 [.slice (some ⟨b8, 0, none⟩) (fs.length + 1) c8] ∧ Far (fun i => i = b8 ∨ i = w.heap.size + 1) w8 wz := by
    rcases hz with hz | hz
    · obtain ⟨e1, e2⟩ := ho8.retop hf rfl
      have f2 := Far.set_ (D := fun i => i = w.heap.size + 1) (w := (((((((((((w8.setCell ⟨b8, fs.length * 10, none⟩ (.int .i64 k)).setCell ⟨b8, fs.length * 10 + 1, none⟩ (.string ⟨#[]⟩)).setCell ⟨b8, fs.length * 10 + 2, none⟩ (.int .i64 0)).setCell ⟨b8, fs.length * 10 + 3, none⟩ (.int .i64 0)).setCell ⟨b8, fs.length * 10 + 4, none⟩ (.int .i64 0)).setCell ⟨b8, fs.length * 10 + 5, none⟩ (.string ⟨#[]⟩)).setCell ⟨b8, fs.length * 10 + 6, none⟩ (.bool false)).setCell ⟨b8, fs.length * 10 + 7, none⟩ (.string ⟨f.toArray⟩)).setCell ⟨b8, fs.length * 10 + 8, none⟩ (.bool no)).setCell ⟨b8, fs.length * 10 + 9, none⟩ (.slice none 0 0)))) rfl 0 (.slice (some ⟨b8, 0, none⟩) (fs.length + 1) c8)
      rw [hz] at f2
      have o9 := (e2.whole o8 (fun e => by omega)).set_ 0 (.slice (some ⟨b8, 0, none⟩) (fs.length + 1) c8)
      rw [hz] at o9
      exact ⟨e1.far (f2.mono fun i e => by omega), o9, (e2.mono fun i e => .inl e).trans (f2.mono fun i e => .inr e) fun _ _ e => e⟩
    · have f2 : Far (fun i => i = w.heap.size + 1) w8 (w8.setCell ⟨w.heap.size + 1, 0, none⟩ (.slice (some ⟨b8, 0, none⟩) (fs.length + 1) c8)) := Far.set_ (D := fun i => i = w.heap.size + 1) rfl 0 _
      obtain ⟨e1, e2⟩ := (ho8.far (f2.mono fun i e => by omega)).retop hf hz
      exact ⟨e1, e2.whole (o8.set_ 0 _) (fun e => by omega), (f2.mono fun i e => .inr e).trans (e2.mono fun i e => .inl e) fun _ _ e => e⟩
  obtain ⟨k1, k2, k3⟩ := key
  have fall : Far (fun i => i = w.heap.size + 1 ∨ i = w.heap.size + 1 + 1 ∨ w.heap.size + 1 + 1 + 1 + 1 ≤ i) wr wz := (f8.mono fun i e => .inr (.inr e)).trans (k3.mono (D' := fun i => i = w.heap.size + 1 ∨ i = w.heap.size + 1 + 1 ∨ w.heap.size + 1 + 1 + 1 + 1 ≤ i) fun i e => by omega) fun _ _ e => e
  refine ⟨h.rw_.far fall, ⟨k2, k3.whole w8h (by omega), k1, h.bo.lo, h.bo.lh, h.bo.ne⟩, hQ, by simp; omega, fun g hg => ?_⟩
  rcases List.mem_cons.1 hg with rfl | hg
  · exact Nat.zero_le _
  · exact Nat.le_trans (h.ys g hg) hj
theorem Ra.below {w wx wy : World} {ws : List Qm.W} {j c : Nat} {Q : Option Nd} {fs : List Fr} {hs : List Hd} {A : Option Addr} (h : Ra w ws j Q fs hs A c wx) (hb : Below wx.heap.size wx wy) : Ra w ws j Q fs hs A c wy := ⟨h.rw_.below hb, h.bo.below hb, h.q, h.few, h.ys⟩
theorem bel1d (w : World) (o1 : Obj) : Below w.heap.size w ((w.alloc o1).drew) := below_drewN (bel1 w o1) 1
theorem ncells1d (w : World) (xs : List Value) (t : TypeId) : ∀ j u, xs[j]? = some u → ((w.alloc (.cells xs.toArray t)).drew).cell? ((⟨w.heap.size, 0, none⟩ : Addr).add j) = some u := by
  intro j u hj
  have h := (Whole.new w w.heap.size t xs rfl).cell j
  have hadd : (⟨w.heap.size, 0, none⟩ : Addr).add j = ⟨w.heap.size, j, none⟩ := by unfold Addr.add; split <;> simp_all
  rw [hadd, ← hj, ← h]; rfl
theorem bel2d (w : World) (o1 o2 : Obj) : Below w.heap.size w (((w.alloc o1).alloc o2).drew) := below_drewN (((Below.refl _ w).alloc (Nat.le_refl _) _).alloc (by simp) _) 1
theorem bel2 (w : World) (o1 o2 : Obj) : Below w.heap.size w ((w.alloc o1).alloc o2) := ((Below.refl _ w).alloc (Nat.le_refl _) _).alloc (by simp) _
theorem ncells2d (w : World) (o1 : Obj) (xs : List Value) (t : TypeId) : ∀ j u, xs[j]? = some u → (((w.alloc o1).alloc (.cells xs.toArray t)).drew).cell? ((⟨w.heap.size + 1, 0, none⟩ : Addr).add j) = some u := by
  intro j u hj
  have h := (Whole.new (w.alloc o1) (w.heap.size + 1) t xs (by simp)).cell j
  have hadd : (⟨w.heap.size + 1, 0, none⟩ : Addr).add j = ⟨w.heap.size + 1, j, none⟩ := by unfold Addr.add; split <;> simp_all
  rw [hadd, ← hj, ← h]; rfl

theorem store6 {w : World} {b : Nat} {t : TypeId} {k y1 y2 y3 y4 y5 y6 u7 u8 u9 : Value} (h : Whole w b t [k, y1, y2, y3, y4, y5, y6, u7, u8, u9]) (v1 v2 v3 v4 v5 v6 : Value) :
    ∃ wz, (((((((w.setCell ⟨b, 1, none⟩ v1).setCell ⟨b, 2, none⟩ v2).setCell ⟨b, 3, none⟩ v3).setCell ⟨b, 4, none⟩ v4).setCell ⟨b, 5, none⟩ v5).setCell ⟨b, 6, none⟩ v6)) = wz ∧ Whole wz b t [k, v1, v2, v3, v4, v5, v6, u7, u8, u9] ∧ Far (fun i => i = b) w wz := by
  refine ⟨_, rfl, (((((h.set_ 1 v1).set_ 2 v2).set_ 3 v3).set_ 4 v4).set_ 5 v5).set_ 6 v6, ?_⟩
  have st : ∀ (wx : World) (i : Nat) (u : Value), Far (fun i => i = b) wx (wx.setCell ⟨b, i, none⟩ u) := fun wx i u => Far.set_ (D := fun i => i = b) rfl i u
  refine (st w 1 v1).trans ((st _ 2 v2).trans ((st _ 3 v3).trans ((st _ 4 v4).trans ((st _ 5 v5).trans (st _ 6 v6) ?_) ?_) ?_) ?_) ?_ <;> exact fun _ _ h => h
/-- A leaf's need stands in its box. -/
theorem leaf_nd {W : World} {F : Nat → Prop} {k : Int} {x : At} (hx : ckAtom x = 0) : RNd W F (ndRow k x [] false none 0 0) (.mk k x [] false []) := by
  have ha := atOk hx
  have h1 := isName_len ha.nm
  have h2 : x.fl.length ≤ 8 := by
    by_cases e : x.fl = []
    · rw [e]; exact Nat.zero_le _
    · exact (isName_len (ha.fl e)).2
  exact RNd.shut (Nat.le_refl _) (Nat.zero_le _) (by unfold maxLen; omega) (by unfold maxLen; omega) (Nat.zero_le _) RKids.nil_
/-- Behind the switch: what opens stands in the need's box. -/
def CutN (wr : World) (fs : List Fr) (ws : List Qm.W) (j : Nat) (Q : Option Nd) (wx : World) : Prop :=
  ∃ k f no, f.length ≤ 20000 ∧ Whole wx wr.heap.size 26 (ndRow k At.zero f no none 0 0) ∧ Below wr.heap.size wr wx ∧ Q = openS STK ⟨k, f, no, []⟩ fs (ws.drop j)
end Go.Proofs.YtnkmonmkhmcgaaaGreatDoor

/- quartermasterref.ReadNeed: the round of its loop. (Of the shelf: Tryz.strings_TrimSuffix Tryz.strings_HasPrefix Tryz.strings_HasSuffix) -/
namespace Go.Proofs.YtnkmonmkhmcgaaaGreatDoor
open Go.RowKit Qm

def RNPost (w : World) (R : Nd × Int) (e : Ending) (w' : World) : Prop :=
  ∃ k a f no A n c, e = .returned (.tuple #[.agg (ndRow k a f no A n c).toArray, .int .i64 R.2]) ∧ RNd w' (fun i => w.heap.size ≤ i ∧ i < w'.heap.size) (ndRow k a f no A n c) R.1 ∧ Below w.heap.size w w'
/-- The first loop in a piece of code. -/
def loopIn : Code → Option Code
  | .loop b => some b
  | .seq a b => match loopIn a with | some x => some x | none => loopIn b
  | .block _ c => loopIn c
  | .cond _ a b => match loopIn a with | some x => some x | none => loopIn b
  | .scope c => loopIn c
  | _ => none
def roundOf (f : Func) : Code := match f.body with | some c => (match loopIn c with | some b => b | none => .skip) | none => .skip
def rnFrame (s : ByteArray) (w : World) (n : Nat) (u3 u9 u10 u11 u12 u13 u14 u19 u20 u21 u22 u23 u24 u25 u26 u27 u28 u29 u30 u31 u32 u33 u34 u35 u36 u37 u38 u39 u40 u41 u42 u43 u44 u45 u46 u47 u48 u49 u50 u51 u52 u53 u54 u55 u56 u57 u58 u59 u60 u61 u62 u63 u64 u65 u66 u67 u68 u69 u70 u71 u72 u73 u74 u75 u76 u77 u78 u79 u80 u81 u82 u83 u84 u85 u86 u87 u88 u89 u90 u91 u92 u93 u94 u95 u96 u97 u98 u99 u100 u101 u102 u103 u104 u105 u106 u107 u108 u109 u110 u111 u112 u113 u114 u115 u116 u117 u118 u119 u120 u121 u122 u123 u124 u125 u126 u127 u128 u129 u130 u131 u132 u133 u134 u135 u136 u137 u138 u139 u140 u141 u142 u143 u144 u145 u146 u147 u148 u149 u150 u151 u152 u153 u154 u155 u156 u157 u158 u159 u160 u161 : Value) : Act := { tmps := #[Value.string s, undef, Value.pointer (some { block := w.heap.size, off := 0 }), u3, Value.func (Fn.func 34) #[] #[], Value.pointer (some { block := w.heap.size + 1, off := 0 }), Value.pointer (some { block := w.heap.size + 1 + 1, off := 0 }), Value.func (Fn.func 35) #[] #[Value.pointer (some { block := w.heap.size + 1, off := 0 }), Value.pointer (some { block := w.heap.size + 1 + 1, off := 0 })], Value.slice (some { block := w.heap.size + 1 + 1 + 1, off := 0 }) n n, u9, u10, u11, u12, u13, u14, undef, Value.func (Fn.func 35) #[] #[Value.pointer (some { block := w.heap.size + 1, off := 0 }), Value.pointer (some { block := w.heap.size + 1 + 1, off := 0 })], Value.string s, Value.slice (some { block := w.heap.size + 1 + 1 + 1, off := 0 }) n n, u19, u20, u21, u22, u23, u24, u25, u26, u27, u28, u29, u30, u31, u32, u33, u34, u35, u36, u37, u38, u39, u40, u41, u42, u43, u44, u45, u46, u47, u48, u49, u50, u51, u52, u53, u54, u55, u56, u57, u58, u59, u60, u61, u62, u63, u64, u65, u66, u67, u68, u69, u70, u71, u72, u73, u74, u75, u76, u77, u78, u79, u80, u81, u82, u83, u84, u85, u86, u87, u88, u89, u90, u91, u92, u93, u94, u95, u96, u97, u98, u99, u100, u101, u102, u103, u104, u105, u106, u107, u108, u109, u110, u111, u112, u113, u114, u115, u116, u117, u118, u119, u120, u121, u122, u123, u124, u125, u126, u127, u128, u129, u130, u131, u132, u133, u134, u135, u136, u137, u138, u139, u140, u141, u142, u143, u144, u145, u146, u147, u148, u149, u150, u151, u152, u153, u154, u155, u156, u157, u158, u159, u160, u161, undef, undef, undef, undef, undef, undef, undef, undef, undef, undef, undef, undef, undef, undef, undef, undef, undef], defers := [] }
def rnJ (s : ByteArray) (w : World) (ws : List Qm.W) (Q : Option Nd) (n : Nat) (J : Nat → Act → World → Prop) : Prop := ∀ (k : Nat) (a' : Act) (w' : World), (∃ u3 u9 u10 u11 u12 u13 u14 u19 u20 u21 u22 u23 u24 u25 u26 u27 u28 u29 u30 u31 u32 u33 u34 u35 u36 u37 u38 u39 u40 u41 u42 u43 u44 u45 u46 u47 u48 u49 u50 u51 u52 u53 u54 u55 u56 u57 u58 u59 u60 u61 u62 u63 u64 u65 u66 u67 u68 u69 u70 u71 u72 u73 u74 u75 u76 u77 u78 u79 u80 u81 u82 u83 u84 u85 u86 u87 u88 u89 u90 u91 u92 u93 u94 u95 u96 u97 u98 u99 u100 u101 u102 u103 u104 u105 u106 u107 u108 u109 u110 u111 u112 u113 u114 u115 u116 u117 u118 u119 u120 u121 u122 u123 u124 u125 u126 u127 u128 u129 u130 u131 u132 u133 u134 u135 u136 u137 u138 u139 u140 u141 u142 u143 u144 u145 u146 u147 u148 u149 u150 u151 u152 u153 u154 u155 u156 u157 u158 u159 u160 u161 : Value, (∃ j : Nat, Hid (j + k = n) ∧ u9 = Value.int IntKind.i64 ↑j ∧ Hid (Rst w ws j Q w')) ∧ a' = rnFrame s w n u3 u9 u10 u11 u12 u13 u14 u19 u20 u21 u22 u23 u24 u25 u26 u27 u28 u29 u30 u31 u32 u33 u34 u35 u36 u37 u38 u39 u40 u41 u42 u43 u44 u45 u46 u47 u48 u49 u50 u51 u52 u53 u54 u55 u56 u57 u58 u59 u60 u61 u62 u63 u64 u65 u66 u67 u68 u69 u70 u71 u72 u73 u74 u75 u76 u77 u78 u79 u80 u81 u82 u83 u84 u85 u86 u87 u88 u89 u90 u91 u92 u93 u94 u95 u96 u97 u98 u99 u100 u101 u102 u103 u104 u105 u106 u107 u108 u109 u110 u111 u112 u113 u114 u115 u116 u117 u118 u119 u120 u121 u122 u123 u124 u125 u126 u127 u128 u129 u130 u131 u132 u133 u134 u135 u136 u137 u138 u139 u140 u141 u142 u143 u144 u145 u146 u147 u148 u149 u150 u151 u152 u153 u154 u155 u156 u157 u158 u159 u160 u161) → J k a' w'
end Go.Proofs.YtnkmonmkhmcgaaaGreatDoor

/- quartermasterref.ReadNeed, a round of its loop: a closing bracket. -/
namespace Go.Proofs.YtnkmonmkhmcgaaaGreatDoor
open Go.RowKit Qm

set_option maxRecDepth 100000 in
set_option maxHeartbeats 12800000 in
theorem rn_shut (s : ByteArray) (w : World) (hs0 : s.size ≤ 20000) (HSZ : Hid (s.size = s.data.toList.length)) (HLV : Hid (LaidV w)) (HMV : Hid (MaxV w)) (R : Nd × Int) (ws : List Qm.W) (Hw1 : Hid (∀ (x : Qm.W), x ∈ ws → List.length x ≤ s.size)) (Q : Option Nd) (HT : Hid (stkTold Q = R)) (n : Nat) (hw2 : n ≤ s.size + 1) (HN : Hid (ws.length = n)) (gk : Nat) (wr : World) (u3 u10 u11 u12 u13 u14 u19 u20 u21 u22 u23 u24 u25 u26 u27 u28 u29 u30 u31 u32 u33 u34 u35 u36 u37 u38 u39 u40 u41 u42 u43 u44 u45 u46 u47 u48 u49 u50 u51 u52 u53 u54 u55 u56 u57 u58 u59 u60 u61 u62 u63 u64 u65 u66 u67 u68 u69 u70 u71 u72 u73 u74 u75 u76 u77 u78 u79 u80 u81 u82 u83 u84 u85 u86 u87 u88 u89 u90 u91 u92 u93 u94 u95 u96 u97 u98 u99 u100 u101 u102 u103 u104 u105 u106 u107 u108 u109 u110 u111 u112 u113 u114 u115 u116 u117 u118 u119 u120 u121 u122 u123 u124 u125 u126 u127 u128 u129 u130 u131 u132 u133 u134 u135 u136 u137 u138 u139 u140 u141 u142 u143 u144 u145 u146 u147 u148 u149 u150 u151 u152 u153 u154 u155 u156 u157 u158 u159 u160 u161 : Value) (J : Nat → Act → World → Prop) (K K1 : Act → World → Prop) (hJ : rnJ s w ws Q n J) (hK : ∀ (a' : Act) (w' : World), Handed J gk a' w' → K a' w') (j : Nat) (Hj : Hid (j + gk = n)) (fs : List Fr) (hs : List Hd) (A : Option Addr) (c : Nat) (HA : Hid (Ra w ws j Q fs hs A c wr)) (hj : j < n)
    (hsel : ∀ a, ws[j]? = some a → a = [41]) :
    Code.wp Tryz.prog (roundOf Tryz.f16) (Exit.then K (Exit.inBlock 0 (Exit.then K1 (bodyPost Tryz.prog Tryz.f16 (fun e w' => RNPost w R e w'))))) (rnFrame s w n u3 (.int .i64 j) u10 u11 u12 u13 u14 u19 u20 u21 u22 u23 u24 u25 u26 u27 u28 u29 u30 u31 u32 u33 u34 u35 u36 u37 u38 u39 u40 u41 u42 u43 u44 u45 u46 u47 u48 u49 u50 u51 u52 u53 u54 u55 u56 u57 u58 u59 u60 u61 u62 u63 u64 u65 u66 u67 u68 u69 u70 u71 u72 u73 u74 u75 u76 u77 u78 u79 u80 u81 u82 u83 u84 u85 u86 u87 u88 u89 u90 u91 u92 u93 u94 u95 u96 u97 u98 u99 u100 u101 u102 u103 u104 u105 u106 u107 u108 u109 u110 u111 u112 u113 u114 u115 u116 u117 u118 u119 u120 u121 u122 u123 u124 u125 u126 u127 u128 u129 u130 u131 u132 u133 u134 u135 u136 u137 u138 u139 u140 u141 u142 u143 u144 u145 u146 u147 u148 u149 u150 u151 u152 u153 u154 u155 u156 u157 u158 u159 u160 u161) wr := by
  have hb0 := HA.out.bo.h.cell 0
  have hb1 := HA.out.bo.o.cell 0
  simp only [List.getElem?_cons_zero] at hb0 hb1
  have hblt := HA.out.bo.h.lt
  obtain ⟨a, ha⟩ : ∃ a, ws[j]? = some a := ⟨_, List.getElem?_eq_getElem (by have := HN.out; omega)⟩
  have hq : Q = STK fs (a :: ws.drop (j + 1)) := by
    rw [HA.out.q, List.drop_eq_getElem_cons (by have := HN.out; omega)]
    congr 2
    rw [List.getElem?_eq_getElem (by have := HN.out; omega)] at ha
    injection ha
  have hla : a.length ≤ 20000 := by have := Hw1.out a (List.mem_of_getElem? ha); omega
  have hcell := HA.out.rw_.words.cell j
  rw [show (strs ws)[j]? = some (.string ⟨a.toArray⟩) by simp [strs, ha]] at hcell
  have hwlt := HA.out.rw_.words.lt
  have HQ := Lib.hid hq
  have hsl := hsel a ha
  clear hq ha hsel
  obtain ⟨i0, hi, hz0, hz1, hz2⟩ : ∃ i0, Tryz.prog.info? 26 = some i0 ∧ i0.zero = some (.agg #[.int .i64 0, .string ⟨#[]⟩, .int .i64 0, .int .i64 0, .int .i64 0, .string ⟨#[]⟩, .bool false, .string ⟨#[]⟩, .bool false, .slice none 0 0]) ∧ i0.size = 10 ∧ i0.bytes = 120 := by
    have h := need_info2
    cases hh : Tryz.prog.info? 26 with
    | none => rw [hh] at h; simp at h
    | some i => rw [hh] at h; simp at h; exact ⟨i, rfl, h.1, h.2.1, h.2.2⟩
  have Hi := Lib.hid hi; have Hz0 := Lib.hid hz0; have Hz1 := Lib.hid hz1; have Hz2 := Lib.hid hz2
  clear hi hz0 hz1 hz2
  unfold rnJ rnFrame at hJ
  unfold rnFrame
  show Code.wp Tryz.prog (Code.seq _ _) _ _ _
  subst hsl
  rw [STK_cons, if_pos rfl] at HQ
  cases fs with
  | nil =>
    have HQ0 : Hid (Q = none) := Lib.hid (by rw [HQ.out]; rfl)
    simp only [List.length_nil] at hb1
    go_wp2_with (first | (go_at_call 34; refine (rnbad_any _).mono ?_; rintro e wb ⟨rfl, hbb⟩; refine Hid.out ?_))
    refine Lib.hid ?_
    have HRW := Lib.hid (Rw.below (HA.out.rw_) hbb)
    clear hbb
    have z0 := HRW.out.res.cell 0; have z1 := HRW.out.res.cell 1; have z2 := HRW.out.res.cell 2; have z3 := HRW.out.res.cell 3; have z4 := HRW.out.res.cell 4; have z5 := HRW.out.res.cell 5; have z6 := HRW.out.res.cell 6; have z7 := HRW.out.res.cell 7; have z8 := HRW.out.res.cell 8; have z9 := HRW.out.res.cell 9
    have y0 := HRW.out.res.free 0; have y1 := HRW.out.res.free 1; have y2 := HRW.out.res.free 2; have y3 := HRW.out.res.free 3; have y4 := HRW.out.res.free 4; have y5 := HRW.out.res.free 5; have y6 := HRW.out.res.free 6; have y7 := HRW.out.res.free 7; have y8 := HRW.out.res.free 8; have y9 := HRW.out.res.free 9
    simp only [List.getElem?_cons_zero, List.getElem?_cons_succ] at z0 z1 z2 z3 z4 z5 z6 z7 z8 z9
    have hz9 := HRW.out.res.lt
    go_wp2_with fail
    obtain ⟨wz, hwz, hW, hF, hsz⟩ := store10 HRW.out.res rfl (.int .i64 0) (.string ⟨#[]⟩) (.int .i64 0) (.int .i64 0) (.int .i64 0) (.string ⟨#[]⟩) (.bool false) (.string ⟨#[]⟩) (.bool false) (.slice none 0 0)
    rw [hwz]
    clear hwz
    have HBEL := far_ownB HRW.out.bel hF (Nat.le_refl _)
    have e0 := hW.cell 0; have e1 := hW.cell 1; have e2 := hW.cell 2; have e3 := hW.cell 3; have e4 := hW.cell 4; have e5 := hW.cell 5; have e6 := hW.cell 6; have e7 := hW.cell 7; have e8 := hW.cell 8; have e9 := hW.cell 9
    simp only [List.getElem?_cons_zero, List.getElem?_cons_succ] at e0 e1 e2 e3 e4 e5 e6 e7 e8 e9
    refine bodyPost_ret (v := .tuple #[.agg #[_, _, _, _, _, _, _, _, _, _], .int .i64 _]) (by simp [results, Tryz.results16, go_sem, e0, e1, e2, e3, e4, e5, e6, e7, e8, e9]; exact ⟨⟨rfl, rfl, rfl, rfl, rfl, rfl, rfl, rfl, rfl, rfl⟩, rfl⟩) rfl ?_
    unfold RNPost
    exact ⟨0, At.zero, [], false, none, 0, 0, by rw [← HT.out, HQ0.out]; rfl, by rw [← HT.out, HQ0.out]; exact RNd.zero _ _, HBEL⟩
  | cons g gs =>
    obtain ⟨hd, hs', rfl⟩ : ∃ hd hs', hs = hd :: hs' := by
      cases hs with
      | nil => exact absurd HA.out.bo.op.kids (by simp [KidsOk])
      | cons hd hs' => exact ⟨hd, hs', rfl⟩
    obtain ⟨b, rfl⟩ := own_block HA.out.bo.op.own (by simp)
    have HSW := Lib.hid (fun o => HA.out.shutw o)
    have htop := fun i hi => own_top (i := i) HA.out.bo.op.own (frows_len HA.out.bo.op.kids.2.len) hi
    have hblt2 := (HA.out.bo.op.own.lt b rfl).2
    obtain ⟨hmc, hcm⟩ : (gs.length + 1 ≤ c) ∧ c ≤ 9223372036854775807 := by
      obtain ⟨A', c', he, k1, k2, _⟩ := own_formK HA.out.bo.op.own
      injection he with _ _ e2
      subst e2
      unfold maxLen at k2
      exact ⟨k1, k2⟩
    have hbne : b ≠ w.heap.size + 1 := by have := (HA.out.bo.op.own.lt b rfl).1; omega
    have hbo4 := HA.out.bo.o.lt
    have hbof := HA.out.bo.o.free 0
    have hgs : gs.length ≤ 4 := by have := HA.out.few; simp at this; omega
    have hys := HA.out.ys
    have HQP : Hid (Q = putS STK g.shut gs (ws.drop (j + 1))) := HQ
    have hgl := HA.out.bo.op.kids.1
    obtain ⟨gk1, gf1, gn1, gy1⟩ := g
    obtain ⟨A2, c2⟩ := hd
    simp only [frow, ndRow, At.zero] at htop
    unfold frow ndRow At.zero at HSW
    simp only [List.length_cons] at hb1
    obtain ⟨m, hm⟩ : ∃ m, gs.length = m := ⟨_, rfl⟩
    rw [hm] at htop hb1 hgs hmc
    have hmc2 : (m : Int) ≤ (c : Int) := by omega
    have hmc3 : m ≤ c := by omega
    have hmc4 : ¬ c = 0 := by omega
    have z0 := (htop 0 (by decide)).1; have z1 := (htop 1 (by decide)).1; have z2 := (htop 2 (by decide)).1; have z3 := (htop 3 (by decide)).1; have z4 := (htop 4 (by decide)).1; have z5 := (htop 5 (by decide)).1; have z6 := (htop 6 (by decide)).1; have z7 := (htop 7 (by decide)).1; have z8 := (htop 8 (by decide)).1; have z9 := (htop 9 (by decide)).1
    simp only [List.getElem?_cons_zero, List.getElem?_cons_succ, Nat.add_zero] at z0 z1 z2 z3 z4 z5 z6 z7 z8 z9
    have henter : ∀ (args : Array Value) (W : World), (callFunc 35 args).run Tryz.prog W = .ok (.enter 35 args) W := fun args W => by kernel_rfl
    clear htop
    have HM := Lib.hid hm; clear hm
    have hsw := HSW.out (.cells #[.int .i64 gk1, .string ⟨#[]⟩, .int .i64 0, .int .i64 0, .int .i64 0, .string ⟨#[]⟩, .bool false, .string ⟨gf1.toArray⟩, .bool gn1, .slice A2 gy1.length c2] 26)
    rw [HM.out] at hsw
    have Hput := Lib.hid (rput_any _ _ hsw.1 hsw.2.1 hsw.2.2 HQP.out (by rw [HM.out]; omega) (fun f hf => hys f (List.mem_cons_of_mem _ hf)) (by omega))
    clear hsw hys HSW hgl
    go_wp2_with (first | (go_at_call 35; refine Hput.out.mono ?_; rintro e wp ⟨rfl, hst⟩; refine Hid.out ?_))
    refine Lib.hid ?_
    have HST := Lib.hid hst
    clear hst
    go_wp2_with fail
    go_roundg (gk - 1)
    case measure => have := Hj.out; omega
    case rel => exact ⟨j + 1, Lib.hid (by have := Hj.out; omega), by go_num, HST⟩
end Go.Proofs.YtnkmonmkhmcgaaaGreatDoor

/- quartermasterref.ReadNeed, a round of its loop: too much is open; an opening bracket. -/
namespace Go.Proofs.YtnkmonmkhmcgaaaGreatDoor
open Go.RowKit Qm

set_option maxRecDepth 100000 in
set_option maxHeartbeats 12800000 in
theorem rn_few (s : ByteArray) (w : World) (hs0 : s.size ≤ 20000) (HSZ : Hid (s.size = s.data.toList.length)) (HLV : Hid (LaidV w)) (HMV : Hid (MaxV w)) (R : Nd × Int) (ws : List Qm.W) (Hw1 : Hid (∀ (x : Qm.W), x ∈ ws → List.length x ≤ s.size)) (Q : Option Nd) (HT : Hid (stkTold Q = R)) (n : Nat) (hw2 : n ≤ s.size + 1) (HN : Hid (ws.length = n)) (gk : Nat) (wr : World) (u3 u10 u11 u12 u13 u14 u19 u20 u21 u22 u23 u24 u25 u26 u27 u28 u29 u30 u31 u32 u33 u34 u35 u36 u37 u38 u39 u40 u41 u42 u43 u44 u45 u46 u47 u48 u49 u50 u51 u52 u53 u54 u55 u56 u57 u58 u59 u60 u61 u62 u63 u64 u65 u66 u67 u68 u69 u70 u71 u72 u73 u74 u75 u76 u77 u78 u79 u80 u81 u82 u83 u84 u85 u86 u87 u88 u89 u90 u91 u92 u93 u94 u95 u96 u97 u98 u99 u100 u101 u102 u103 u104 u105 u106 u107 u108 u109 u110 u111 u112 u113 u114 u115 u116 u117 u118 u119 u120 u121 u122 u123 u124 u125 u126 u127 u128 u129 u130 u131 u132 u133 u134 u135 u136 u137 u138 u139 u140 u141 u142 u143 u144 u145 u146 u147 u148 u149 u150 u151 u152 u153 u154 u155 u156 u157 u158 u159 u160 u161 : Value) (J : Nat → Act → World → Prop) (K K1 : Act → World → Prop) (hJ : rnJ s w ws Q n J) (hK : ∀ (a' : Act) (w' : World), Handed J gk a' w' → K a' w') (j : Nat) (Hj : Hid (j + gk = n)) (fs : List Fr) (hs : List Hd) (A : Option Addr) (c : Nat) (HA : Hid (Ra w ws j Q fs hs A c wr)) (hj : j < n)
    (hsel : ∀ a, ws[j]? = some a → a ≠ [41] ∧ fs.length = 4) :
    Code.wp Tryz.prog (roundOf Tryz.f16) (Exit.then K (Exit.inBlock 0 (Exit.then K1 (bodyPost Tryz.prog Tryz.f16 (fun e w' => RNPost w R e w'))))) (rnFrame s w n u3 (.int .i64 j) u10 u11 u12 u13 u14 u19 u20 u21 u22 u23 u24 u25 u26 u27 u28 u29 u30 u31 u32 u33 u34 u35 u36 u37 u38 u39 u40 u41 u42 u43 u44 u45 u46 u47 u48 u49 u50 u51 u52 u53 u54 u55 u56 u57 u58 u59 u60 u61 u62 u63 u64 u65 u66 u67 u68 u69 u70 u71 u72 u73 u74 u75 u76 u77 u78 u79 u80 u81 u82 u83 u84 u85 u86 u87 u88 u89 u90 u91 u92 u93 u94 u95 u96 u97 u98 u99 u100 u101 u102 u103 u104 u105 u106 u107 u108 u109 u110 u111 u112 u113 u114 u115 u116 u117 u118 u119 u120 u121 u122 u123 u124 u125 u126 u127 u128 u129 u130 u131 u132 u133 u134 u135 u136 u137 u138 u139 u140 u141 u142 u143 u144 u145 u146 u147 u148 u149 u150 u151 u152 u153 u154 u155 u156 u157 u158 u159 u160 u161) wr := by
  have hb0 := HA.out.bo.h.cell 0
  have hb1 := HA.out.bo.o.cell 0
  simp only [List.getElem?_cons_zero] at hb0 hb1
  have hblt := HA.out.bo.h.lt
  obtain ⟨a, ha⟩ : ∃ a, ws[j]? = some a := ⟨_, List.getElem?_eq_getElem (by have := HN.out; omega)⟩
  have hq : Q = STK fs (a :: ws.drop (j + 1)) := by
    rw [HA.out.q, List.drop_eq_getElem_cons (by have := HN.out; omega)]
    congr 2
    rw [List.getElem?_eq_getElem (by have := HN.out; omega)] at ha
    injection ha
  have hla : a.length ≤ 20000 := by have := Hw1.out a (List.mem_of_getElem? ha); omega
  have hcell := HA.out.rw_.words.cell j
  rw [show (strs ws)[j]? = some (.string ⟨a.toArray⟩) by simp [strs, ha]] at hcell
  have hwlt := HA.out.rw_.words.lt
  have HQ := Lib.hid hq
  have hsl := hsel a ha
  clear hq ha hsel
  obtain ⟨i0, hi, hz0, hz1, hz2⟩ : ∃ i0, Tryz.prog.info? 26 = some i0 ∧ i0.zero = some (.agg #[.int .i64 0, .string ⟨#[]⟩, .int .i64 0, .int .i64 0, .int .i64 0, .string ⟨#[]⟩, .bool false, .string ⟨#[]⟩, .bool false, .slice none 0 0]) ∧ i0.size = 10 ∧ i0.bytes = 120 := by
    have h := need_info2
    cases hh : Tryz.prog.info? 26 with
    | none => rw [hh] at h; simp at h
    | some i => rw [hh] at h; simp at h; exact ⟨i, rfl, h.1, h.2.1, h.2.2⟩
  have Hi := Lib.hid hi; have Hz0 := Lib.hid hz0; have Hz1 := Lib.hid hz1; have Hz2 := Lib.hid hz2
  clear hi hz0 hz1 hz2
  unfold rnJ rnFrame at hJ
  unfold rnFrame
  show Code.wp Tryz.prog (Code.seq _ _) _ _ _
  obtain ⟨h41, hsl⟩ := hsl
  rw [STK_cons, if_neg h41] at HQ
  have h41' : (a == [41]) = false := by simpa using h41
  rw [if_pos hsl] at HQ
  have HQ0 : Hid (Q = none) := HQ
  rw [hsl] at hb1
  go_wp2_with (first | (go_at_call 34; refine (rnbad_any _).mono ?_; rintro e wb ⟨rfl, hbb⟩; refine Hid.out ?_))
  refine Lib.hid ?_
  have HRW := Lib.hid (Rw.below (HA.out.rw_) hbb)
  clear hbb
  have z0 := HRW.out.res.cell 0; have z1 := HRW.out.res.cell 1; have z2 := HRW.out.res.cell 2; have z3 := HRW.out.res.cell 3; have z4 := HRW.out.res.cell 4; have z5 := HRW.out.res.cell 5; have z6 := HRW.out.res.cell 6; have z7 := HRW.out.res.cell 7; have z8 := HRW.out.res.cell 8; have z9 := HRW.out.res.cell 9
  have y0 := HRW.out.res.free 0; have y1 := HRW.out.res.free 1; have y2 := HRW.out.res.free 2; have y3 := HRW.out.res.free 3; have y4 := HRW.out.res.free 4; have y5 := HRW.out.res.free 5; have y6 := HRW.out.res.free 6; have y7 := HRW.out.res.free 7; have y8 := HRW.out.res.free 8; have y9 := HRW.out.res.free 9
  simp only [List.getElem?_cons_zero, List.getElem?_cons_succ] at z0 z1 z2 z3 z4 z5 z6 z7 z8 z9
  have hz9 := HRW.out.res.lt
  go_wp2_with fail
  obtain ⟨wz, hwz, hW, hF, hsz⟩ := store10 HRW.out.res rfl (.int .i64 0) (.string ⟨#[]⟩) (.int .i64 0) (.int .i64 0) (.int .i64 0) (.string ⟨#[]⟩) (.bool false) (.string ⟨#[]⟩) (.bool false) (.slice none 0 0)
  rw [hwz]
  clear hwz
  have HBEL := far_ownB HRW.out.bel hF (Nat.le_refl _)
  have e0 := hW.cell 0; have e1 := hW.cell 1; have e2 := hW.cell 2; have e3 := hW.cell 3; have e4 := hW.cell 4; have e5 := hW.cell 5; have e6 := hW.cell 6; have e7 := hW.cell 7; have e8 := hW.cell 8; have e9 := hW.cell 9
  simp only [List.getElem?_cons_zero, List.getElem?_cons_succ] at e0 e1 e2 e3 e4 e5 e6 e7 e8 e9
  refine bodyPost_ret (v := .tuple #[.agg #[_, _, _, _, _, _, _, _, _, _], .int .i64 _]) (by simp [results, Tryz.results16, go_sem, e0, e1, e2, e3, e4, e5, e6, e7, e8, e9]; exact ⟨⟨rfl, rfl, rfl, rfl, rfl, rfl, rfl, rfl, rfl, rfl⟩, rfl⟩) rfl ?_
  unfold RNPost
  exact ⟨0, At.zero, [], false, none, 0, 0, by rw [← HT.out, HQ0.out]; rfl, by rw [← HT.out, HQ0.out]; exact RNd.zero _ _, HBEL⟩
set_option maxRecDepth 100000 in
set_option maxHeartbeats 12800000 in
theorem rn_open (s : ByteArray) (w : World) (hs0 : s.size ≤ 20000) (HSZ : Hid (s.size = s.data.toList.length)) (HLV : Hid (LaidV w)) (HMV : Hid (MaxV w)) (R : Nd × Int) (ws : List Qm.W) (Hw1 : Hid (∀ (x : Qm.W), x ∈ ws → List.length x ≤ s.size)) (Q : Option Nd) (HT : Hid (stkTold Q = R)) (n : Nat) (hw2 : n ≤ s.size + 1) (HN : Hid (ws.length = n)) (gk : Nat) (wr : World) (u3 u10 u11 u12 u13 u14 u19 u20 u21 u22 u23 u24 u25 u26 u27 u28 u29 u30 u31 u32 u33 u34 u35 u36 u37 u38 u39 u40 u41 u42 u43 u44 u45 u46 u47 u48 u49 u50 u51 u52 u53 u54 u55 u56 u57 u58 u59 u60 u61 u62 u63 u64 u65 u66 u67 u68 u69 u70 u71 u72 u73 u74 u75 u76 u77 u78 u79 u80 u81 u82 u83 u84 u85 u86 u87 u88 u89 u90 u91 u92 u93 u94 u95 u96 u97 u98 u99 u100 u101 u102 u103 u104 u105 u106 u107 u108 u109 u110 u111 u112 u113 u114 u115 u116 u117 u118 u119 u120 u121 u122 u123 u124 u125 u126 u127 u128 u129 u130 u131 u132 u133 u134 u135 u136 u137 u138 u139 u140 u141 u142 u143 u144 u145 u146 u147 u148 u149 u150 u151 u152 u153 u154 u155 u156 u157 u158 u159 u160 u161 : Value) (J : Nat → Act → World → Prop) (K K1 : Act → World → Prop) (hJ : rnJ s w ws Q n J) (hK : ∀ (a' : Act) (w' : World), Handed J gk a' w' → K a' w') (j : Nat) (Hj : Hid (j + gk = n)) (fs : List Fr) (hs : List Hd) (A : Option Addr) (c : Nat) (HA : Hid (Ra w ws j Q fs hs A c wr)) (hj : j < n)
    (hsel : ∀ a, ws[j]? = some a → a ≠ [41] ∧ (fs.length ≠ 4 ∧ a = [40])) :
    Code.wp Tryz.prog (roundOf Tryz.f16) (Exit.then K (Exit.inBlock 0 (Exit.then K1 (bodyPost Tryz.prog Tryz.f16 (fun e w' => RNPost w R e w'))))) (rnFrame s w n u3 (.int .i64 j) u10 u11 u12 u13 u14 u19 u20 u21 u22 u23 u24 u25 u26 u27 u28 u29 u30 u31 u32 u33 u34 u35 u36 u37 u38 u39 u40 u41 u42 u43 u44 u45 u46 u47 u48 u49 u50 u51 u52 u53 u54 u55 u56 u57 u58 u59 u60 u61 u62 u63 u64 u65 u66 u67 u68 u69 u70 u71 u72 u73 u74 u75 u76 u77 u78 u79 u80 u81 u82 u83 u84 u85 u86 u87 u88 u89 u90 u91 u92 u93 u94 u95 u96 u97 u98 u99 u100 u101 u102 u103 u104 u105 u106 u107 u108 u109 u110 u111 u112 u113 u114 u115 u116 u117 u118 u119 u120 u121 u122 u123 u124 u125 u126 u127 u128 u129 u130 u131 u132 u133 u134 u135 u136 u137 u138 u139 u140 u141 u142 u143 u144 u145 u146 u147 u148 u149 u150 u151 u152 u153 u154 u155 u156 u157 u158 u159 u160 u161) wr := by
  have hb0 := HA.out.bo.h.cell 0
  have hb1 := HA.out.bo.o.cell 0
  simp only [List.getElem?_cons_zero] at hb0 hb1
  have hblt := HA.out.bo.h.lt
  obtain ⟨a, ha⟩ : ∃ a, ws[j]? = some a := ⟨_, List.getElem?_eq_getElem (by have := HN.out; omega)⟩
  have hq : Q = STK fs (a :: ws.drop (j + 1)) := by
    rw [HA.out.q, List.drop_eq_getElem_cons (by have := HN.out; omega)]
    congr 2
    rw [List.getElem?_eq_getElem (by have := HN.out; omega)] at ha
    injection ha
  have hla : a.length ≤ 20000 := by have := Hw1.out a (List.mem_of_getElem? ha); omega
  have hcell := HA.out.rw_.words.cell j
  rw [show (strs ws)[j]? = some (.string ⟨a.toArray⟩) by simp [strs, ha]] at hcell
  have hwlt := HA.out.rw_.words.lt
  have HQ := Lib.hid hq
  have hsl := hsel a ha
  clear hq ha hsel
  obtain ⟨i0, hi, hz0, hz1, hz2⟩ : ∃ i0, Tryz.prog.info? 26 = some i0 ∧ i0.zero = some (.agg #[.int .i64 0, .string ⟨#[]⟩, .int .i64 0, .int .i64 0, .int .i64 0, .string ⟨#[]⟩, .bool false, .string ⟨#[]⟩, .bool false, .slice none 0 0]) ∧ i0.size = 10 ∧ i0.bytes = 120 := by
    have h := need_info2
    cases hh : Tryz.prog.info? 26 with
    | none => rw [hh] at h; simp at h
    | some i => rw [hh] at h; simp at h; exact ⟨i, rfl, h.1, h.2.1, h.2.2⟩
  have Hi := Lib.hid hi; have Hz0 := Lib.hid hz0; have Hz1 := Lib.hid hz1; have Hz2 := Lib.hid hz2
  clear hi hz0 hz1 hz2
  unfold rnJ rnFrame at hJ
  unfold rnFrame
  show Code.wp Tryz.prog (Code.seq _ _) _ _ _
  obtain ⟨h41, hsl⟩ := hsl
  rw [STK_cons, if_neg h41] at HQ
  have h41' : (a == [41]) = false := by simpa using h41
  obtain ⟨h4, h40⟩ := hsl
  rw [if_neg h4] at HQ
  obtain ⟨m, hm⟩ : ∃ m, fs.length = m := ⟨_, rfl⟩
  rw [hm] at hb1 h4
  have hm4 : m < 4 := by have := HA.out.few; omega
  have hm4' : ((m : Int) == 4) = false := by simp; omega
  have HM := Lib.hid hm; clear hm
  unfold itemS at HQ
  go_upto_block 2 with fail
  subst h40
  rw [if_pos rfl] at HQ
  go_upto_region 30 with fail
  have HAb := Lib.hid (HA.out.below (bel1 wr (.cells #[.int .i64 3, .string ⟨#[]⟩, .int .i64 0, .int .i64 0, .int .i64 0, .string ⟨#[]⟩, .bool false, .string ⟨#[]⟩, .bool false, .slice none 0 0] 26)))
  have HNb := Lib.hid (Whole.new wr wr.heap.size 26 (ndRow 3 At.zero [] false none 0 0) rfl)
  have HNE : Hid (∀ i, (Value.slice A m c).ownBlock = some i → i ≠ wr.heap.size) := Lib.hid fun i e => by have := HA.out.bo.op.own; rw [HM.out] at this; have := (this.lt i e).2; omega
  unfold ndRow At.zero at HNb
  clear hb0 hb1 hblt hcell hwlt
  generalize wr.alloc _ = wb at HAb HNb ⊢
  have HO : Hid (wb.ownsRow (w.heap.size + 1 + 1 + 1 + 1) 26 10 (.slice A m c) m (frows fs hs)) := Lib.hid (by have := HAb.out.bo.op.own; rw [HM.out] at this; exact this)
  have hsz := HAb.out.rw_.sz
  have hbo := HAb.out.bo.o.lt
  have hb1 := HAb.out.bo.o.cell 0
  rw [HM.out] at hb1
  have hnl := HNb.out.lt
  have g0 := HNb.out.cell 0; have g1 := HNb.out.cell 1; have g2 := HNb.out.cell 2; have g3 := HNb.out.cell 3; have g4 := HNb.out.cell 4; have g5 := HNb.out.cell 5; have g6 := HNb.out.cell 6; have g7 := HNb.out.cell 7; have g8 := HNb.out.cell 8; have g9 := HNb.out.cell 9
  simp only [ndRow, At.zero, List.getElem?_cons_zero, List.getElem?_cons_succ] at hb1 g0 g1 g2 g3 g4 g5 g6 g7 g8 g9
  have hb1' : ∀ o1 : Obj, (wb.alloc o1).cell? ⟨w.heap.size + 1, 0, none⟩ = some (.slice A m c) := fun o1 => ((bel1 wb o1).cell (p := ⟨w.heap.size + 1, 0, none⟩) hbo).trans hb1
  have hm0 : (0 : Int) ≤ (m : Int) := by omega
  have hm1 : (m : Int) < (m : Int) + 1 := by omega
  have hm2 : m < m + 1 := by omega
  go_region_law (refine step_append_own rfl (.tmp 97) (.tmp 100) 24 rfl (w.heap.size + 1 + 1 + 1 + 1) 26 i0 (.agg #[.int .i64 0, .string ⟨#[]⟩, .int .i64 0, .int .i64 0, .int .i64 0, .string ⟨#[]⟩, .bool false, .string ⟨#[]⟩, .bool false, .slice none 0 0]) 10 120 Tryz.underlying24 Hi.out Hz0.out Hz1.out Hz2.out rfl (by decide) (.slice A m c) m (frows fs hs) (by simp [Act.eval, Act.put]) (own_bel HO.out (bel1d _ _)) ⟨wb.heap.size, 0, none⟩ 1 1 [.int .i64 0, .string ⟨#[]⟩, .int .i64 0, .int .i64 0, .int .i64 0, .string ⟨#[]⟩, .bool false, .string ⟨#[]⟩, .bool false, .slice none 0 0] (by simp [Act.eval, Act.put]) rfl (ncells1d _ _ _) (by simp [Value.oneCell']) (by unfold maxLen; omega) (by omega) (by simp; omega) ?_; intro v' w8 hown8 hg8 _ hv8; obtain ⟨A8, c8, rfl, _⟩ := own_formK hown8; obtain ⟨b8, rfl⟩ := own_block hown8 (by omega); have HG8 := Lib.hid (grown_undrew hg8); have HO8 := Lib.hid hown8; have HV8 := Lib.hid hv8; have HAF := Lib.hid (HAb.out.bo.aft (bel1 wb _) HM.out hown8 HG8.out (HNb.out.alloc _) HNE.out); clear hown8 hg8 hv8; obtain ⟨z0, y0⟩ := HAF.out.cell 0 (by decide); obtain ⟨z1, y1⟩ := HAF.out.cell 1 (by decide); obtain ⟨z2, y2⟩ := HAF.out.cell 2 (by decide); obtain ⟨z3, y3⟩ := HAF.out.cell 3 (by decide); obtain ⟨z4, y4⟩ := HAF.out.cell 4 (by decide); obtain ⟨z5, y5⟩ := HAF.out.cell 5 (by decide); obtain ⟨z6, y6⟩ := HAF.out.cell 6 (by decide); obtain ⟨z7, y7⟩ := HAF.out.cell 7 (by decide); obtain ⟨z8, y8⟩ := HAF.out.cell 8 (by decide); obtain ⟨z9, y9⟩ := HAF.out.cell 9 (by decide); simp only [List.getElem?_cons_zero, List.getElem?_cons_succ, Nat.add_zero] at z0 z1 z2 z3 z4 z5 z6 z7 z8 z9 y0 y1 y2 y3 y4 y5 y6 y7 y8 y9; have q1 := HAF.out.lt; have q2 := HAF.out.ne; have q3 := HAF.out.o.cell 0; have q4 := HAF.out.o.free 0; have q5 := HAF.out.o.lt; have n0 := HAF.out.n.cell 0; have n1 := HAF.out.n.cell 1; have n2 := HAF.out.n.cell 2; have n3 := HAF.out.n.cell 3; have n4 := HAF.out.n.cell 4; have n5 := HAF.out.n.cell 5; have n6 := HAF.out.n.cell 6; have n7 := HAF.out.n.cell 7; have n8 := HAF.out.n.cell 8; have n9 := HAF.out.n.cell 9; simp only [ndRow, At.zero, List.getElem?_cons_zero, List.getElem?_cons_succ] at q3 n0 n1 n2 n3 n4 n5 n6 n7 n8 n9)
  all_goals (
    clear z0 z1 z2 z3 z4 z5 z6 z7 z8 z9 y0 y1 y2 y3 y4 y5 y6 y7 y8 y9 n0 n1 n2 n3 n4 n5 n6 n7 n8 n9 q1 q2 q3 q4 q5
    generalize hz : World.setCell _ _ _ = wz
    have HZ := Lib.hid (HAb.out.opened (wz := wz) (k := 3) (f := []) (no := false) HM.out hm4 HQ.out (by omega) (by first | exact Nat.zero_le _ | (unfold maxLen; omega)) (bel1 wb _) HO8.out HG8.out HV8.out (by first | with_reducible exact .inl hz | with_reducible exact .inr hz))
    clear hz HO8 HG8 HV8 HAF
    go_wp2_with fail
    go_roundg (gk - 1)
    case measure => have := Hj.out; omega
    case rel => exact ⟨j + 1, Lib.hid (by have := Hj.out; omega), by go_num, Lib.hid (.inl ⟨_, _, _, _, HZ.out⟩)⟩)
end Go.Proofs.YtnkmonmkhmcgaaaGreatDoor
