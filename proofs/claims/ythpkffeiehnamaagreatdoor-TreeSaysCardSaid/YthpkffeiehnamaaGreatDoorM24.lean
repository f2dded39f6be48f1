/- Parts of the proof: walks and plain laws, side by side. -/
import Derived.Test.YthpkffeiehnamaaGreatDoorM22
import Derived.Test.YthpkffeiehnamaaGreatDoorM19
import Derived.Test.YthpkffeiehnamaaGreatDoorM10
import Derived.Test.YthpkffeiehnamaaGreatDoorM23
import Derived.Test.YthpkffeiehnamaaGreatDoorM12
import Derived.Test.YthpkffeiehnamaaGreatDoorM20
import Derived.Test.YthpkffeiehnamaaGreatDoorM18
set_option linter.unusedVariables false
set_option linter.unusedSimpArgs false
set_option linter.unusedSectionVars false
/- quartermasterref.ReadNeed: the state of its loop. (Of the shelf: Tryz.strings_TrimSuffix Tryz.strings_HasPrefix Tryz.strings_HasSuffix) -/
namespace Go.Proofs.YthpkffeiehnamaaGreatDoor
open Go.RowKit Qm

/-- What stands still in the loop: the result's box, the words. -/
structure Rw (w : World) (ws : List Qm.W) (wx : World) : Prop where
  res : Whole wx w.heap.size 57 [.int .i64 0, .string ⟨#[]⟩, .int .i64 0, .int .i64 0, .int .i64 0, .string ⟨#[]⟩, .bool false, .string ⟨#[]⟩, .bool false, .slice none 0 0]
  words : Whole wx (w.heap.size + 1 + 1 + 1) 9 (strs ws)
  bel : Below w.heap.size w wx
  sz : w.heap.size + 1 + 1 + 1 + 1 ≤ wx.heap.size
section
variable {w wx wy : World} {ws : List Qm.W}
theorem Rw.far (h : Rw w ws wx) (hf : Far (fun i => i = w.heap.size + 1 ∨ i = w.heap.size + 1 + 1 ∨ w.heap.size + 1 + 1 + 1 + 1 ≤ i) wx wy) : Rw w ws wy :=
  ⟨hf.whole h.res (by omega), hf.whole h.words (by omega), h.bel.trans (hf.below h.bel.size fun i hi => by omega), Nat.le_trans h.sz hf.size⟩
theorem Rw.below (h : Rw w ws wx) (hb : Below wx.heap.size wx wy) : Rw w ws wy := h.far (Far.of_below _ hb)
end
/-- While nothing whole stands. -/
structure Ra (w : World) (ws : List Qm.W) (j : Nat) (Q : Option Nd) (fs : List Fr) (hs : List Hd) (A : Option Addr) (c : Nat) (wx : World) : Prop where
  rw_ : Rw w ws wx
  bo : Bo (w.heap.size + 1 + 1 + 1 + 1) (w.heap.size + 1) (w.heap.size + 1 + 1) fs hs A c (.pointer none) wx
  q : Q = STK fs (ws.drop j)
  few : fs.length ≤ 4
  ys : ∀ f ∈ fs, f.ys.length ≤ j
/-- The whole one stands in block p. -/
structure Rb (w : World) (ws : List Qm.W) (j : Nat) (Q : Option Nd) (p : Nat) (row : List Value) (n : Nd) (wx : World) : Prop where
  rw_ : Rw w ws wx
  bx : Whole wx (w.heap.size + 1 + 1) 141 [.pointer (some ⟨p, 0, none⟩)]
  wh : Whole wx p 57 row
  nd : RNd wx (fun i => w.heap.size + 1 + 1 + 1 + 1 ≤ i ∧ i < wx.heap.size) row n
  q : Q = if ws.drop j = [] then some n else none
def Rst (w : World) (ws : List Qm.W) (j : Nat) (Q : Option Nd) (wx : World) : Prop := (∃ fs hs A c, Ra w ws j Q fs hs A c wx) ∨ ∃ p row n, Rb w ws j Q p row n wx
theorem bel1 (w : World) (o1 : Obj) : Below w.heap.size w (w.alloc o1) := (Below.refl _ w).alloc (Nat.le_refl _) _
/-- The top one is taken off, and stands in a box of its own. -/
theorem Ra.shutw {w wr : World} {ws : List Qm.W} {j c b : Nat} {Q : Option Nd} {g : Fr} {gs : List Fr} {hd : Hd} {hs : List Hd} (h : Ra w ws j Q (g :: gs) (hd :: hs) (some ⟨b, 0, none⟩) c wr) (o : Obj) :
    Rw w ws ((wr.setCell ⟨w.heap.size + 1, 0, none⟩ (.slice (some ⟨b, 0, none⟩) gs.length c)).alloc o) ∧
    Bo (w.heap.size + 1 + 1 + 1 + 1) (w.heap.size + 1) (w.heap.size + 1 + 1) gs hs (some ⟨b, 0, none⟩) c (.pointer none) ((wr.setCell ⟨w.heap.size + 1, 0, none⟩ (.slice (some ⟨b, 0, none⟩) gs.length c)).alloc o) ∧
    RNd ((wr.setCell ⟨w.heap.size + 1, 0, none⟩ (.slice (some ⟨b, 0, none⟩) gs.length c)).alloc o) (Fre ((wr.setCell ⟨w.heap.size + 1, 0, none⟩ (.slice (some ⟨b, 0, none⟩) gs.length c)).alloc o) (w.heap.size + 1 + 1 + 1 + 1) (some ⟨b, 0, none⟩) hs) (frow g hd) g.shut := by
  obtain ⟨hp, hn⟩ := h.bo.op.pop
  have f1 : Far (fun i => i = w.heap.size + 1) wr (wr.setCell ⟨w.heap.size + 1, 0, none⟩ (.slice (some ⟨b, 0, none⟩) gs.length c)) := Far.set_ (D := fun i => i = w.heap.size + 1) rfl 0 _
  have f2 : Far (fun i => i = w.heap.size + 1) wr ((wr.setCell ⟨w.heap.size + 1, 0, none⟩ (.slice (some ⟨b, 0, none⟩) gs.length c)).alloc o) := f1.trans (Far.of_below (fun _ => False) (bel1 _ o)) fun _ _ e => e.elim
  have hne := h.bo.ne
  refine ⟨h.rw_.far (f2.mono fun i e => .inl e), ⟨(h.bo.o.set_ 0 _).alloc _, f2.whole h.bo.h (fun e => hne e.symm), hp.far (f2.mono fun i e => by omega), h.bo.lo, h.bo.lh, h.bo.ne⟩, ?_⟩
  exact (hn.keep fun p hq => f2.cell hq.2.1 (by have := hq.1; omega)).more fun i hi => ⟨hi.1, Nat.lt_of_lt_of_le hi.2.1 f2.size, hi.2.2⟩
set_option maxHeartbeats 1600000 in
theorem rput_any {w W : World} {ws : List Qm.W} {j c : Nat} {Q : Option Nd} {fs : List Fr} {hs : List Hd} {A : Option Addr} (x : List Value) (n : Nd) (hrw : Rw w ws W) (hbo : Bo (w.heap.size + 1 + 1 + 1 + 1) (w.heap.size + 1) (w.heap.size + 1 + 1) fs hs A c (.pointer none) W)
    (hn : RNd W (Fre W (w.heap.size + 1 + 1 + 1 + 1) A hs) x n) (hq : Q = putS STK n fs (ws.drop (j + 1))) (few : fs.length ≤ 4) (hys : ∀ f ∈ fs, f.ys.length ≤ j) (hj : j ≤ 30000) :
    Calls Tryz.prog 97 #[.agg x.toArray, .pointer (some ⟨w.heap.size + 1, 0, none⟩), .pointer (some ⟨w.heap.size + 1 + 1, 0, none⟩)] W fun e w' => e = .returned (.bool true) ∧ Rst w ws (j + 1) Q w' := by
  cases fs with
  | nil =>
    obtain rfl : hs = [] := by
      cases hs with
      | nil => rfl
      | cons hd hs' => exact absurd hbo.op.kids (by simp [KidsOk])
    refine (rput_nil x W hn.ten hbo).mono ?_
    rintro e w' ⟨rfl, h1, h2, h3⟩
    refine ⟨rfl, .inr ⟨W.heap.size, x, n, ?_⟩⟩
    exact ⟨hrw.far (h3.mono fun i e => .inr (.inl e)), h1.h, h2, (hn.keep fun p hp => h3.cell hp.2.1 (by have := hp.1; omega)).more fun i hi => ⟨hi.1, Nat.lt_of_lt_of_le hi.2.1 h3.size⟩, hq⟩
  | cons g gs =>
    obtain ⟨hd, hs', rfl⟩ : ∃ hd hs', hs = hd :: hs' := by
      cases hs with
      | nil => exact absurd hbo.op.kids (by simp [KidsOk])
      | cons hd hs' => exact ⟨hd, hs', rfl⟩
    simp only [List.length_cons] at few
    have hg := hys g (List.mem_cons_self ..)
    refine (rput_cons x n W hbo hn hrw.sz (by omega) (by omega)).mono ?_
    rintro e w' ⟨rfl, hd', h1, h2⟩
    refine ⟨rfl, .inl ⟨g.push n :: gs, hd' :: hs', A, c, ?_⟩⟩
    refine ⟨hrw.far (h2.mono fun i e => .inr (.inr e)), h1, hq, by simp; omega, fun f hf => ?_⟩
    rcases List.mem_cons.1 hf with rfl | hf
    · simp [Fr.push]; omega
    · have := hys f (List.mem_cons_of_mem _ hf); omega
theorem ra_start (w : World) (ws : List Qm.W) (hl : ws.length ≤ maxLen) :
    Ra w ws 0 (STK [] ws) [] [] none 0 ((((w.alloc (.cells #[.int .i64 0, .string ⟨#[]⟩, .int .i64 0, .int .i64 0, .int .i64 0, .string ⟨#[]⟩, .bool false, .string ⟨#[]⟩, .bool false, .slice none 0 0] 57)).alloc (.cells #[.slice none 0 0] 55)).alloc (.cells #[.pointer none] 141)).alloc (.cells (strs ws).toArray 9)) := by
  have hb : Below w.heap.size w ((((w.alloc (.cells #[.int .i64 0, .string ⟨#[]⟩, .int .i64 0, .int .i64 0, .int .i64 0, .string ⟨#[]⟩, .bool false, .string ⟨#[]⟩, .bool false, .slice none 0 0] 57)).alloc (.cells #[.slice none 0 0] 55)).alloc (.cells #[.pointer none] 141)).alloc (.cells (strs ws).toArray 9)) := (bel3 w _ _ _).alloc (by simp; omega) _
  refine ⟨⟨(((Whole.new w _ _ [_, _, _, _, _, _, _, _, _, _] rfl).alloc _).alloc _).alloc _, Whole.new _ _ _ _ (by simp), hb, by simp⟩, ⟨((Whole.new _ _ _ [_] (by simp)).alloc _).alloc _, (Whole.new _ _ _ [_] (by simp)).alloc _, Op.nil _, by omega, by omega, by omega⟩, rfl, by simp, by simp⟩

/-- What is known behind the append to 'open'. -/
structure Oaf (BO b8 m nb : Nat) (v : Value) (row : List Value) (w8 : World) : Prop where
  cell : ∀ i, i < 10 → w8.cell? ⟨b8, m * 10 + i, none⟩ = ([.int .i64 0, .string ⟨#[]⟩, .int .i64 0, .int .i64 0, .int .i64 0, .string ⟨#[]⟩, .bool false, .string ⟨#[]⟩, .bool false, .slice none 0 0] : List Value)[i]? ∧ w8.frozen? ⟨b8, m * 10 + i, none⟩ = false
  lt : b8 < w8.heap.size
  n : Whole w8 nb 57 row
  o : Whole w8 BO 55 [v]
  ne : b8 ≠ BO
theorem Bo.aft {B BO BW c c8 b8 nb m : Nat} {fs : List Fr} {hs : List Hd} {A : Option Addr} {wh : Value} {wr wx w8 : World} {row : List Value} (h : Bo B BO BW fs hs A c wh wr) (hbel : Below wr.heap.size wr wx) (hm : fs.length = m)
    (hown8 : w8.ownsRow B 57 10 (.slice (some ⟨b8, 0, none⟩) (m + 1) c8) (m + 1) (frows fs hs ++ [.int .i64 0, .string ⟨#[]⟩, .int .i64 0, .int .i64 0, .int .i64 0, .string ⟨#[]⟩, .bool false, .string ⟨#[]⟩, .bool false, .slice none 0 0]))
    (hg8 : wx.grownBy w8 (Value.slice A m c).ownBlock) (hN : Whole wx nb 57 row) (hnb : ∀ i, (Value.slice A m c).ownBlock = some i → i ≠ nb) : Oaf BO b8 m nb (.slice A m c) row w8 := by
  have hl := h.op.kids.len
  have hA : ∀ i, (Value.slice A m c).ownBlock = some i → B ≤ i ∧ i < wr.heap.size := fun i e => h.op.own.lt i (by rw [hm]; exact e)
  have hlo := h.lo
  refine ⟨fun i hi => own_top hown8 (by rw [frows_len hl, hm]) hi, (hown8.lt b8 rfl).2, hN.grown hg8 fun e => hnb _ e.symm rfl, ?_, ?_⟩
  · have := ((h.o.below hbel h.o.lt).grown hg8 fun e => by have := hA _ e.symm; omega)
    rw [hm] at this
    exact this
  · have := (hown8.lt b8 rfl).1; omega
theorem Ra.opened {w wr wx w8 wz : World} {ws : List Qm.W} {j j' m b8 c c8 : Nat} {Q : Option Nd} {fs : List Fr} {hs : List Hd} {A : Option Addr} {k : Int} {f : Qm.W} {no : Bool} (h : Ra w ws j Q fs hs A c wr) (hm : fs.length = m) (hm4 : m < 4) (hQ : Q = STK (⟨k, f, no, []⟩ :: fs) (ws.drop j')) (hj : j ≤ j') (hf : f.length ≤ maxLen)
    (hbel : Below wr.heap.size wr wx)
    (hown8 : w8.ownsRow (w.heap.size + 1 + 1 + 1 + 1) 57 10 (.slice (some ⟨b8, 0, none⟩) (m + 1) c8) (m + 1) (frows fs hs ++ [.int .i64 0, .string ⟨#[]⟩, .int .i64 0, .int .i64 0, .int .i64 0, .string ⟨#[]⟩, .bool false, .string ⟨#[]⟩, .bool false, .slice none 0 0]))
    (hg8 : wx.grownBy w8 (Value.slice A m c).ownBlock) (hv8 : (Value.slice (some ⟨b8, 0, none⟩) (m + 1) c8).ownBlock = (Value.slice A m c).ownBlock ∨ (Value.slice (some ⟨b8, 0, none⟩) (m + 1) c8).ownBlock = some wx.heap.size)
    (hz : ((((((((((((w8.setCell ⟨b8, m * 10, none⟩ (.int .i64 k)).setCell ⟨b8, m * 10 + 1, none⟩ (.string ⟨#[]⟩)).setCell ⟨b8, m * 10 + 2, none⟩ (.int .i64 0)).setCell ⟨b8, m * 10 + 3, none⟩ (.int .i64 0)).setCell ⟨b8, m * 10 + 4, none⟩ (.int .i64 0)).setCell ⟨b8, m * 10 + 5, none⟩ (.string ⟨#[]⟩)).setCell ⟨b8, m * 10 + 6, none⟩ (.bool false)).setCell ⟨b8, m * 10 + 7, none⟩ (.string ⟨f.toArray⟩)).setCell ⟨b8, m * 10 + 8, none⟩ (.bool no)).setCell ⟨b8, m * 10 + 9, none⟩ (.slice none 0 0))).setCell ⟨w.heap.size + 1, 0, none⟩ (.slice (some ⟨b8, 0, none⟩) (m + 1) c8)) = wz ∨
      (((((((((((w8.setCell ⟨w.heap.size + 1, 0, none⟩ (.slice (some ⟨b8, 0, none⟩) (m + 1) c8)).setCell ⟨b8, m * 10, none⟩ (.int .i64 k)).setCell ⟨b8, m * 10 + 1, none⟩ (.string ⟨#[]⟩)).setCell ⟨b8, m * 10 + 2, none⟩ (.int .i64 0)).setCell ⟨b8, m * 10 + 3, none⟩ (.int .i64 0)).setCell ⟨b8, m * 10 + 4, none⟩ (.int .i64 0)).setCell ⟨b8, m * 10 + 5, none⟩ (.string ⟨#[]⟩)).setCell ⟨b8, m * 10 + 6, none⟩ (.bool false)).setCell ⟨b8, m * 10 + 7, none⟩ (.string ⟨f.toArray⟩)).setCell ⟨b8, m * 10 + 8, none⟩ (.bool no)).setCell ⟨b8, m * 10 + 9, none⟩ (.slice none 0 0)) = wz) :
    Ra w ws j' Q (⟨k, f, no, []⟩ :: fs) ((none, 0) :: hs) (some ⟨b8, 0, none⟩) c8 wz := by
  subst hm
  have hl := h.bo.op.kids.len
  have ho8 := (h.bo.op.below hbel).open_ (k := 0) (f := []) (no := false) (Nat.zero_le _) hown8 hg8 hv8
  have hA : ∀ i, (Value.slice A fs.length c).ownBlock = some i → w.heap.size + 1 + 1 + 1 + 1 ≤ i := fun i e => (h.bo.op.own.lt i e).1
  have f8 : Far (fun i => w.heap.size + 1 + 1 + 1 + 1 ≤ i) wr w8 := (Far.of_below _ hbel).trans (Far.of_grown (D := fun i => w.heap.size + 1 + 1 + 1 + 1 ≤ i) hg8 fun i e => hA i e.symm) fun _ _ e => e
  have hb8 := (hown8.lt b8 rfl).1
  have o8 := f8.whole h.bo.o (by omega)
  have w8h := f8.whole h.bo.h (by omega)
  have key : Op (w.heap.size + 1 + 1 + 1 + 1) (⟨k, f, no, []⟩ :: fs) ((none, 0) :: hs) (some ⟨b8, 0, none⟩) c8 wz ∧ Whole wz (w.heap.size + 1) 55 [.slice (some ⟨b8, 0, none⟩) (fs.length + 1) c8] ∧ Far (fun i => i = b8 ∨ i = w.heap.size + 1) w8 wz := by
    rcases hz with hz | hz
    · obtain ⟨e1, e2⟩ := ho8.retop hf rfl
      have f2 := Far.set_ (D := fun i => i = w.heap.size + 1) (w := (((((((((((w8.setCell ⟨b8, fs.length * 10, none⟩ (.int .i64 k)).setCell ⟨b8, fs.length * 10 + 1, none⟩ (.string ⟨#[]⟩)).setCell ⟨b8, fs.length * 10 + 2, none⟩ (.int .i64 0)).setCell ⟨b8, fs.length * 10 + 3, none⟩ (.int .i64 0)).setCell ⟨b8, fs.length * 10 + 4, none⟩ (.int .i64 0)).setCell ⟨b8, fs.length * 10 + 5, none⟩ (.string ⟨#[]⟩)).setCell ⟨b8, fs.length * 10 + 6, none⟩ (.bool false)).setCell ⟨b8, fs.length * 10 + 7, none⟩ (.string ⟨f.toArray⟩)).setCell ⟨b8, fs.length * 10 + 8, none⟩ (.bool no)).setCell ⟨b8, fs.length * 10 + 9, none⟩ (.slice none 0 0)))) rfl 0 (.slice (some ⟨b8, 0, none⟩) (fs.length + 1) c8)
      rw [hz] at f2
      have o9 := (e2.whole o8 (fun e => by omega)).set_ 0 (.slice (some ⟨b8, 0, none⟩) (fs.length + 1) c8)
      rw [hz] at o9
      exact ⟨e1.far (f2.mono fun i e => by omega), o9, (e2.mono fun i e => .inl e).trans (f2.mono fun i e => .inr e) fun _ _ e => e⟩
    · have f2 : Far (fun i => i = w.heap.size + 1) w8 (w8.setCell ⟨w.heap.size + 1, 0, none⟩ (.slice (some ⟨b8, 0, none⟩) (fs.length + 1) c8)) := Far.set_ (D := fun i => i = w.heap.size + 1) rfl 0 _
      obtain ⟨e1, e2⟩ := (ho8.far (f2.mono fun i e => by omega)).retop hf hz
      exact ⟨e1, e2.whole (o8.set_ 0 _) (fun e => by omega), (f2.mono fun i e => .inr e).trans (e2.mono fun i e => .inl e) fun _ _ e => e⟩
  obtain ⟨k1, k2, k3⟩ := key
  have fall : Far (fun i => i = w.heap.size + 1 ∨ i = w.heap.size + 1 + 1 ∨ w.heap.size + 1 + 1 + 1 + 1 ≤ i) wr wz := (f8.mono fun i e => .inr (.inr e)).trans (k3.mono (D' := fun i => i = w.heap.size + 1 ∨ i = w.heap.size + 1 + 1 ∨ w.heap.size + 1 + 1 + 1 + 1 ≤ i) fun i e => by omega) fun _ _ e => e
  refine ⟨h.rw_.far fall, ⟨k2, k3.whole w8h (by omega), k1, h.bo.lo, h.bo.lh, h.bo.ne⟩, hQ, by simp; omega, fun g hg => ?_⟩
  rcases List.mem_cons.1 hg with rfl | hg
  · exact Nat.zero_le _
  · exact Nat.le_trans (h.ys g hg) hj
theorem Ra.below {w wx wy : World} {ws : List Qm.W} {j c : Nat} {Q : Option Nd} {fs : List Fr} {hs : List Hd} {A : Option Addr} (h : Ra w ws j Q fs hs A c wx) (hb : Below wx.heap.size wx wy) : Ra w ws j Q fs hs A c wy := ⟨h.rw_.below hb, h.bo.below hb, h.q, h.few, h.ys⟩
theorem bel1d (w : World) (o1 : Obj) : Below w.heap.size w ((w.alloc o1).drew) := below_drewN (bel1 w o1) 1
theorem ncells1d (w : World) (xs : List Value) (t : TypeId) : ∀ j u, xs[j]? = some u → ((w.alloc (.cells xs.toArray t)).drew).cell? ((⟨w.heap.size, 0, none⟩ : Addr).add j) = some u := by
  intro j u hj
  have h := (Whole.new w w.heap.size t xs rfl).cell j
  have hadd : (⟨w.heap.size, 0, none⟩ : Addr).add j = ⟨w.heap.size, j, none⟩ := by unfold Addr.add; split <;> simp_all
  rw [hadd, ← hj, ← h]; rfl
theorem store6 {w : World} {b : Nat} {t : TypeId} {k y1 y2 y3 y4 y5 y6 u7 u8 u9 : Value} (h : Whole w b t [k, y1, y2, y3, y4, y5, y6, u7, u8, u9]) (v1 v2 v3 v4 v5 v6 : Value) :
    ∃ wz, (((((((w.setCell ⟨b, 1, none⟩ v1).setCell ⟨b, 2, none⟩ v2).setCell ⟨b, 3, none⟩ v3).setCell ⟨b, 4, none⟩ v4).setCell ⟨b, 5, none⟩ v5).setCell ⟨b, 6, none⟩ v6)) = wz ∧ Whole wz b t [k, v1, v2, v3, v4, v5, v6, u7, u8, u9] ∧ Far (fun i => i = b) w wz := by
  refine ⟨_, rfl, (((((h.set_ 1 v1).set_ 2 v2).set_ 3 v3).set_ 4 v4).set_ 5 v5).set_ 6 v6, ?_⟩
  have st : ∀ (wx : World) (i : Nat) (u : Value), Far (fun i => i = b) wx (wx.setCell ⟨b, i, none⟩ u) := fun wx i u => Far.set_ (D := fun i => i = b) rfl i u
  refine (st w 1 v1).trans ((st _ 2 v2).trans ((st _ 3 v3).trans ((st _ 4 v4).trans ((st _ 5 v5).trans (st _ 6 v6) ?_) ?_) ?_) ?_) ?_ <;> exact fun _ _ h => h
/-- A leaf's need stands in its box. -/
theorem leaf_nd {W : World} {F : Nat → Prop} {k : Int} {x : At} (hx : ckAtom x = 0) : RNd W F (ndRow k x [] false none 0 0) (.mk k x [] false []) := by
  have ha := atOk hx
  have h1 := isName_len ha.nm
  have h2 : x.fl.length ≤ 8 := by
    by_cases e : x.fl = []
    · rw [e]; exact Nat.zero_le _
    · exact (isName_len (ha.fl e)).2
  exact RNd.shut (Nat.le_refl _) (Nat.zero_le _) (by unfold maxLen; omega) (by unfold maxLen; omega) (Nat.zero_le _) RKids.nil_
/-- Behind the switch: what opens stands in the need's box. -/
def CutN (wr : World) (fs : List Fr) (ws : List Qm.W) (j : Nat) (Q : Option Nd) (wx : World) : Prop :=
  ∃ k f no, f.length ≤ 20000 ∧ Whole wx wr.heap.size 57 (ndRow k At.zero f no none 0 0) ∧ Below wr.heap.size wr wx ∧ Q = openS STK ⟨k, f, no, []⟩ fs (ws.drop j)
end Go.Proofs.YthpkffeiehnamaaGreatDoor

/- quartermasterref.ReadNeed: the round of its loop. (Of the shelf: Tryz.strings_TrimSuffix Tryz.strings_HasPrefix Tryz.strings_HasSuffix) -/
namespace Go.Proofs.YthpkffeiehnamaaGreatDoor
open Go.RowKit Qm

def RNPost (w : World) (R : Nd × Int) (e : Ending) (w' : World) : Prop :=
  ∃ k a f no A n c, e = .returned (.tuple #[.agg (ndRow k a f no A n c).toArray, .int .i64 R.2]) ∧ RNd w' (fun i => w.heap.size ≤ i ∧ i < w'.heap.size) (ndRow k a f no A n c) R.1 ∧ Below w.heap.size w w'
/-- The first loop in a piece of code. -/
def loopIn : Code → Option Code
  | .loop b => some b
  | .seq a b => match loopIn a with | some x => some x | none => loopIn b
  | .block _ c => loopIn c
  | .cond _ a b => match loopIn a with | some x => some x | none => loopIn b
  | .scope c => loopIn c
  | _ => none
def roundOf (f : Func) : Code := match f.body with | some c => (match loopIn c with | some b => b | none => .skip) | none => .skip
def rnFrame (s : ByteArray) (w : World) (n : Nat) (u3 u9 u10 u11 u12 u13 u14 u19 u20 u21 u22 u23 u24 u25 u26 u27 u28 u29 u30 u31 u32 u33 u34 u35 u36 u37 u38 u39 u40 u41 u42 u43 u44 u45 u46 u47 u48 u49 u50 u51 u52 u53 u54 u55 u56 u57 u58 u59 u60 u61 u62 u63 u64 u65 u66 u67 u68 u69 u70 u71 u72 u73 u74 u75 u76 u77 u78 u79 u80 u81 u82 u83 u84 u85 u86 u87 u88 u89 u90 u91 u92 u93 u94 u95 u96 u97 u98 u99 u100 u101 u102 u103 u104 u105 u106 u107 u108 u109 u110 u111 u112 u113 u114 u115 u116 u117 u118 u119 u120 u121 u122 u123 u124 u125 u126 u127 u128 u129 u130 u131 u132 u133 u134 u135 u136 u137 u138 u139 u140 u141 u142 u143 u144 u145 u146 u147 u148 u149 u150 u151 u152 u153 u154 u155 u156 u157 u158 u159 u160 u161 : Value) : Act := { tmps := #[Value.string s, undef, Value.pointer (some { block := w.heap.size, off := 0 }), u3, Value.func (Fn.func 96) #[] #[], Value.pointer (some { block := w.heap.size + 1, off := 0 }), Value.pointer (some { block := w.heap.size + 1 + 1, off := 0 }), Value.func (Fn.func 97) #[] #[Value.pointer (some { block := w.heap.size + 1, off := 0 }), Value.pointer (some { block := w.heap.size + 1 + 1, off := 0 })], Value.slice (some { block := w.heap.size + 1 + 1 + 1, off := 0 }) n n, u9, u10, u11, u12, u13, u14, undef, Value.func (Fn.func 97) #[] #[Value.pointer (some { block := w.heap.size + 1, off := 0 }), Value.pointer (some { block := w.heap.size + 1 + 1, off := 0 })], Value.string s, Value.slice (some { block := w.heap.size + 1 + 1 + 1, off := 0 }) n n, u19, u20, u21, u22, u23, u24, u25, u26, u27, u28, u29, u30, u31, u32, u33, u34, u35, u36, u37, u38, u39, u40, u41, u42, u43, u44, u45, u46, u47, u48, u49, u50, u51, u52, u53, u54, u55, u56, u57, u58, u59, u60, u61, u62, u63, u64, u65, u66, u67, u68, u69, u70, u71, u72, u73, u74, u75, u76, u77, u78, u79, u80, u81, u82, u83, u84, u85, u86, u87, u88, u89, u90, u91, u92, u93, u94, u95, u96, u97, u98, u99, u100, u101, u102, u103, u104, u105, u106, u107, u108, u109, u110, u111, u112, u113, u114, u115, u116, u117, u118, u119, u120, u121, u122, u123, u124, u125, u126, u127, u128, u129, u130, u131, u132, u133, u134, u135, u136, u137, u138, u139, u140, u141, u142, u143, u144, u145, u146, u147, u148, u149, u150, u151, u152, u153, u154, u155, u156, u157, u158, u159, u160, u161, undef, undef, undef, undef, undef, undef, undef, undef, undef, undef, undef, undef, undef, undef, undef, undef, undef], defers := [] }
def rnJ (s : ByteArray) (w : World) (ws : List Qm.W) (Q : Option Nd) (n : Nat) (J : Nat → Act → World → Prop) : Prop := ∀ (k : Nat) (a' : Act) (w' : World), (∃ u3 u9 u10 u11 u12 u13 u14 u19 u20 u21 u22 u23 u24 u25 u26 u27 u28 u29 u30 u31 u32 u33 u34 u35 u36 u37 u38 u39 u40 u41 u42 u43 u44 u45 u46 u47 u48 u49 u50 u51 u52 u53 u54 u55 u56 u57 u58 u59 u60 u61 u62 u63 u64 u65 u66 u67 u68 u69 u70 u71 u72 u73 u74 u75 u76 u77 u78 u79 u80 u81 u82 u83 u84 u85 u86 u87 u88 u89 u90 u91 u92 u93 u94 u95 u96 u97 u98 u99 u100 u101 u102 u103 u104 u105 u106 u107 u108 u109 u110 u111 u112 u113 u114 u115 u116 u117 u118 u119 u120 u121 u122 u123 u124 u125 u126 u127 u128 u129 u130 u131 u132 u133 u134 u135 u136 u137 u138 u139 u140 u141 u142 u143 u144 u145 u146 u147 u148 u149 u150 u151 u152 u153 u154 u155 u156 u157 u158 u159 u160 u161 : Value, (∃ j : Nat, Hid (j + k = n) ∧ u9 = Value.int IntKind.i64 ↑j ∧ Hid (Rst w ws j Q w')) ∧ a' = rnFrame s w n u3 u9 u10 u11 u12 u13 u14 u19 u20 u21 u22 u23 u24 u25 u26 u27 u28 u29 u30 u31 u32 u33 u34 u35 u36 u37 u38 u39 u40 u41 u42 u43 u44 u45 u46 u47 u48 u49 u50 u51 u52 u53 u54 u55 u56 u57 u58 u59 u60 u61 u62 u63 u64 u65 u66 u67 u68 u69 u70 u71 u72 u73 u74 u75 u76 u77 u78 u79 u80 u81 u82 u83 u84 u85 u86 u87 u88 u89 u90 u91 u92 u93 u94 u95 u96 u97 u98 u99 u100 u101 u102 u103 u104 u105 u106 u107 u108 u109 u110 u111 u112 u113 u114 u115 u116 u117 u118 u119 u120 u121 u122 u123 u124 u125 u126 u127 u128 u129 u130 u131 u132 u133 u134 u135 u136 u137 u138 u139 u140 u141 u142 u143 u144 u145 u146 u147 u148 u149 u150 u151 u152 u153 u154 u155 u156 u157 u158 u159 u160 u161) → J k a' w'
end Go.Proofs.YthpkffeiehnamaaGreatDoor

/- quartermasterref.CheckTree: the round of its loop. -/
namespace Go.Proofs.YthpkffeiehnamaaGreatDoor
open Go.RowKit Qm

def ctFrame (w : World) (A : Option Addr) (n c : Nat) (u2 u3 u4 u5 u6 u7 u8 u10 u11 u19 u20 u21 u22 u23 u24 u25 u26 u27 u28 u29 u30 u31 u32 u33 u34 u35 u36 u37 u38 u39 u40 u41 u42 u43 u44 u45 u46 u47 u48 u49 u50 u51 u52 u53 u54 u55 u56 u57 u58 u59 u60 u61 u62 u63 u64 u65 u66 u67 u68 u69 u70 u71 u72 u73 u74 u75 u76 u77 u78 u79 u80 u81 u82 u83 u84 u85 u86 u87 u88 u89 u90 u91 u92 u93 u94 u95 u96 u97 u98 u99 u100 u101 u102 u103 u104 u105 u106 u107 u108 u109 u110 u111 u112 u113 u114 u115 u116 u117 u118 u119 u120 u121 u122 u123 u124 u125 u126 u127 u128 u129 u130 u131 u132 u133 u134 u135 u136 u137 u138 u139 : Value) : Act := { tmps := #[Value.agg #[Value.slice A n c], Value.pointer (some { block := w.heap.size, off := 0 }), u2, u3, u4, u5, u6, u7, u8, undef, u10, u11, Value.pointer (some { block := w.heap.size, off := 0 }), Value.slice A n c, Value.int IntKind.i64 ↑n, Value.bool false, Value.pointer (some { block := w.heap.size, off := 0 }), Value.slice A n c, Value.int IntKind.i64 ↑n, u19, u20, u21, u22, u23, u24, u25, u26, u27, u28, u29, u30, u31, u32, u33, u34, u35, u36, u37, u38, u39, u40, u41, u42, u43, u44, u45, u46, u47, u48, u49, u50, u51, u52, u53, u54, u55, u56, u57, u58, u59, u60, u61, u62, u63, u64, u65, u66, u67, u68, u69, u70, u71, u72, u73, u74, u75, u76, u77, u78, u79, u80, u81, u82, u83, u84, u85, u86, u87, u88, u89, u90, u91, u92, u93, u94, u95, u96, u97, u98, u99, u100, u101, u102, u103, u104, u105, u106, u107, u108, u109, u110, u111, u112, u113, u114, u115, u116, u117, u118, u119, u120, u121, u122, u123, u124, u125, u126, u127, u128, u129, u130, u131, u132, u133, u134, u135, u136, u137, u138, u139], defers := [] }
def ctJ (w : World) (A : Option Addr) (n c : Nat) (ps : List Pk) (J : Nat → Act → World → Prop) : Prop := ∀ (k : Nat) (a' : Act) (w' : World), (∃ u2 u3 u4 u5 u6 u7 u8 u10 u11 u19 u20 u21 u22 u23 u24 u25 u26 u27 u28 u29 u30 u31 u32 u33 u34 u35 u36 u37 u38 u39 u40 u41 u42 u43 u44 u45 u46 u47 u48 u49 u50 u51 u52 u53 u54 u55 u56 u57 u58 u59 u60 u61 u62 u63 u64 u65 u66 u67 u68 u69 u70 u71 u72 u73 u74 u75 u76 u77 u78 u79 u80 u81 u82 u83 u84 u85 u86 u87 u88 u89 u90 u91 u92 u93 u94 u95 u96 u97 u98 u99 u100 u101 u102 u103 u104 u105 u106 u107 u108 u109 u110 u111 u112 u113 u114 u115 u116 u117 u118 u119 u120 u121 u122 u123 u124 u125 u126 u127 u128 u129 u130 u131 u132 u133 u134 u135 u136 u137 u138 u139 : Value, (∃ j m : Nat, Hid (j + k = n) ∧ u19 = Value.int IntKind.i64 ↑j ∧ u3 = Value.int IntKind.i64 ↑m ∧ n + m ≤ 14 ∧ Hid (ckT none n ps = ckT (prevOf ps j) (n + m) (ps.drop j)) ∧ Hid (Tx w A n c w')) ∧ a' = ctFrame w A n c u2 u3 u4 u5 u6 u7 u8 u10 u11 u19 u20 u21 u22 u23 u24 u25 u26 u27 u28 u29 u30 u31 u32 u33 u34 u35 u36 u37 u38 u39 u40 u41 u42 u43 u44 u45 u46 u47 u48 u49 u50 u51 u52 u53 u54 u55 u56 u57 u58 u59 u60 u61 u62 u63 u64 u65 u66 u67 u68 u69 u70 u71 u72 u73 u74 u75 u76 u77 u78 u79 u80 u81 u82 u83 u84 u85 u86 u87 u88 u89 u90 u91 u92 u93 u94 u95 u96 u97 u98 u99 u100 u101 u102 u103 u104 u105 u106 u107 u108 u109 u110 u111 u112 u113 u114 u115 u116 u117 u118 u119 u120 u121 u122 u123 u124 u125 u126 u127 u128 u129 u130 u131 u132 u133 u134 u135 u136 u137 u138 u139) → J k a' w'
theorem badPk_lt {u p : Pk} (h : p.nm < u.nm) : badPk (some u) p = true := by
  have h1 : ¬ u.nm < p.nm := List.not_lt.2 (List.le_of_lt h)
  have h2 : u.nm ≠ p.nm := fun e => List.lt_irrefl _ (e ▸ h)
  simp [badPk, beforeP, h1, h2]
theorem badPk_eq {u p : Pk} (h : p.nm = u.nm) : badPk (some u) p = decide (p.ver ≤ u.ver) := by
  have h1 : ¬ u.nm < p.nm := by rw [h]; exact List.lt_irrefl _
  have e : decide (u.nm = p.nm) = true := decide_eq_true h.symm
  simp only [badPk, beforeP, e, decide_eq_false h1, Bool.false_or, Bool.true_and]
  by_cases hv : u.ver < p.ver
  · rw [decide_eq_true hv, decide_eq_false (by omega)]; rfl
  · rw [decide_eq_false hv, decide_eq_true (by omega)]; rfl
theorem badPk_gt {u p : Pk} (h1 : ¬ p.nm < u.nm) (h2 : p.nm ≠ u.nm) : badPk (some u) p = false := by
  have h : u.nm < p.nm := by
    refine Classical.byContradiction fun hn => h2 (List.le_antisymm (List.not_lt.1 hn) (List.not_lt.1 h1))
  simp [badPk, beforeP, h]
end Go.Proofs.YthpkffeiehnamaaGreatDoor
