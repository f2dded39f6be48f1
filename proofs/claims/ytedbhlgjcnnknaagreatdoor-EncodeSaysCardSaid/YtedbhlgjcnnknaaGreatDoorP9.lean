/- Parts of the proof: walks and plain laws, side by side. -/
import Derived.Test.YtedbhlgjcnnknaaGreatDoorP7
import Derived.Test.YtedbhlgjcnnknaaGreatDoorP8
set_option linter.unusedVariables false
set_option linter.unusedSimpArgs false
set_option linter.unusedSectionVars false
set_option maxRecDepth 100000
set_option maxHeartbeats 12800000
namespace Go.Proofs.YtedbhlgjcnnknaaGreatDoor
section
open Go.RowKit Qm
theorem need_info : (Tryz.prog.info? 99).map (fun i => (i.zero, i.size, i.bytes)) = some (some (.agg #[.int .i64 0, .string ⟨#[]⟩, .int .i64 0, .int .i64 0, .int .i64 0, .string ⟨#[]⟩, .bool false, .string ⟨#[]⟩, .bool false, .slice none 0 0]), 10, 120) := by kernel_rfl
theorem set_len {w : World} {b i : Nat} {u : Value} : (w.setCell ⟨b, i, none⟩ u).heap.size = w.heap.size := by simp [World.setCell]
theorem store10 {w : World} {b : Nat} {t : TypeId} {xs : List Value} (h : Whole w b t xs) (hl : xs.length = 10) (v0 v1 v2 v3 v4 v5 v6 v7 v8 v9 : Value) :
  ∃ wz, (((((((((((w.setCell ⟨b, 0, none⟩ v0).setCell ⟨b, 1, none⟩ v1).setCell ⟨b, 2, none⟩ v2).setCell ⟨b, 3, none⟩ v3).setCell ⟨b, 4, none⟩ v4).setCell ⟨b, 5, none⟩ v5).setCell ⟨b, 6, none⟩ v6).setCell ⟨b, 7, none⟩ v7).setCell ⟨b, 8, none⟩ v8).setCell ⟨b, 9, none⟩ v9)) = wz ∧
   Whole wz b t [v0, v1, v2, v3, v4, v5, v6, v7, v8, v9] ∧ Far (fun i => i = b) w wz ∧ wz.heap.size = w.heap.size := by
 refine ⟨_, rfl, ?_, ?_, ?_⟩
 ·match xs, hl, h with
  | [y0, y1, y2, y3, y4, y5, y6, y7, y8, y9], _, h =>
   exact (((((((((h.set_ 0 v0).set_ 1 v1).set_ 2 v2).set_ 3 v3).set_ 4 v4).set_ 5 v5).set_ 6 v6).set_ 7 v7).set_ 8 v8).set_ 9 v9
 ·have st : ∀ (wx : World) (i : Nat) (u : Value), Far (fun i => i = b) wx (wx.setCell ⟨b, i, none⟩ u) := fun wx i u => Far.set_ (D := fun i => i = b) rfl i u
  refine (st w 0 v0).trans ((st _ 1 v1).trans ((st _ 2 v2).trans ((st _ 3 v3).trans ((st _ 4 v4).trans ((st _ 5 v5).trans ((st _ 6 v6).trans ((st _ 7 v7).trans ((st _ 8 v8).trans (st _ 9 v9) ?_) ?_) ?_) ?_) ?_) ?_) ?_) ?_) ?_ <;> exact fun _ _ h => h
 ·simp only [set_len]
def NeedPost (w : World) (R : Nat) (S : Nat → Prop) (d : Nat) (ws : List Qm.W) (e : Ending) (w' : World) : Prop :=
 ∃ k a f no A n c, e = .returned (.tuple #[.agg (ndRow k a f no A n c).toArray, .bool (readN d ws).isSome]) ∧ Far (fun i => i = R) w w' ∧
  ∀ y ws', readN d ws = some (y, ws') → RNd w' (fun i => w.heap.size ≤ i ∧ i < w'.heap.size) (ndRow k a f no A n c) y ∧ RdSt w' R S ws'
def prepK (ys : List Nd) : Option (List Nd × List Qm.W) → Option (List Nd × List Qm.W)
 | none => none
 | some (ks, r) => some (ys ++ ks, r)
structure Kd (w : World) (R : Nat) (S : Nat → Prop) (z : List Value) (k : Int) (f : Qm.W) (no : Bool) (A : Option Addr) (c : Nat) (cs : List (List Value)) (ys : List Nd) (us : List Qm.W) (wx : World) : Prop where
 rd : RdSt wx R S us
 z : Whole wx w.heap.size 99 z
 n : Whole wx (w.heap.size + 1) 99 (ndRow k At.zero f no A ys.length c)
 far : Far (fun i => i = R) w wx
 len : cs.length = ys.length
 own : wx.ownsRow (w.heap.size + 2) 99 10 (.slice A ys.length c) ys.length cs.flatten
 kid : ∀ (j : Nat) (x : List Value) (y : Nd), cs[j]? = some x → ys[j]? = some y → RNd wx (fun i => w.heap.size + 2 ≤ i ∧ i < wx.heap.size ∧ (Value.slice A ys.length c).ownBlock ≠ some i) x y
section
variable {w wx wy : World} {R : Nat} {S : Nat → Prop} {z : List Value} {k : Int} {f : Qm.W} {no : Bool} {A : Option Addr} {c : Nat} {cs : List (List Value)} {ys : List Nd} {us us' : List Qm.W}
theorem Kd.size (h : Kd w R S z k f no A c cs ys us wx) : w.heap.size + 2 ≤ wx.heap.size := h.n.lt
theorem Kd.move (h : Kd w R S z k f no A c cs ys us wx) (hR : R < w.heap.size) (hf : Far (fun i => i = R) wx wy) (hr : RdSt wy R S us') : Kd w R S z k f no A c cs ys us' wy where
 rd := hr
 z := hf.whole h.z (by omega)
 n := hf.whole h.n (by omega)
 far := h.far.trans hf fun _ _ h => h
 len := h.len
 own := hf.own h.own fun g hg => by have := (h.own.lt g hg).1; omega
 kid := fun j x y h1 h2 => ((h.kid j x y h1 h2).far hf fun i hi => ⟨hi.2.1, by omega⟩).more fun i hi => ⟨hi.1, ql hi.2.1 hf.size, hi.2.2⟩
theorem Kd.alloc (h : Kd w R S z k f no A c cs ys us wx) (hR : R < w.heap.size) (hS : ∀ k, S k → k < w.heap.size) (o : Obj) : Kd w R S z k f no A c cs ys us (wx.alloc o) :=
 h.move hR (Far.of_below _ ((Below.refl _ _).alloc (qr _) o)) (h.rd.far (D := fun _ => False) (Far.of_below _ ((Below.refl _ _).alloc (qr _) o)) (fun h => h) fun q hq => ⟨by have := hS q hq; have := h.size; omega, fun h => h⟩)
theorem Kd.drew (h : Kd w R S z k f no A c cs ys us wx) : Kd w R S z k f no A c cs ys us wx.drew :=
 ⟨h.rd, h.z, h.n, h.far.drew, h.len, h.own, fun j x y h1 h2 => RNd.keep (w := wx) (w' := wx.drew) (fun _ _ => rfl) (h.kid j x y h1 h2)⟩
theorem flat_snoc (cs : List (List Value)) (x : List Value) : (cs ++ [x]).flatten = cs.flatten ++ x := by simp
theorem Kd.push (h : Kd w R S z k f no A c cs ys us wx) (hR : R < w.heap.size) (hS : ∀ k, S k → k < w.heap.size) {x : List Value} {y : Nd} {A' : Option Addr} {c' : Nat}
  (hx : RNd wx (fun i => w.heap.size + 2 ≤ i ∧ i < wx.heap.size ∧ (Value.slice A ys.length c).ownBlock ≠ some i) x y)
  (hown : wy.ownsRow (w.heap.size + 2) 99 10 (.slice A' (ys.length + 1) c') (ys.length + 1) (cs.flatten ++ x)) (hg : wx.grownBy wy (Value.slice A ys.length c).ownBlock)
  (hv : (Value.slice A' (ys.length + 1) c').ownBlock = (Value.slice A ys.length c).ownBlock ∨ (Value.slice A' (ys.length + 1) c').ownBlock = some wx.heap.size) :
  Kd w R S z k f no A' c' (cs ++ [x]) (ys ++ [y]) us (wy.setCell ⟨w.heap.size + 1, 9, none⟩ (.slice A' (ys.length + 1) c')) := by
 have hD : ∀ i, some i = (Value.slice A ys.length c).ownBlock → w.heap.size + 2 ≤ i := fun i hi => (h.own.lt i hi.symm).1
 have f1 : Far (fun i => w.heap.size + 2 ≤ i ∧ some i = (Value.slice A ys.length c).ownBlock) wx wy := Far.of_grown hg fun i hi => ⟨hD i hi, hi⟩
 have f2 : Far (fun i => i = w.heap.size + 1) wy (wy.setCell ⟨w.heap.size + 1, 9, none⟩ (.slice A' (ys.length + 1) c')) := Far.set_ (D := fun i => i = w.heap.size + 1) rfl 9 _
 have hlen : (ys ++ [y]).length = ys.length + 1 := by simp
 have hsz := f1.size
 have hsz2 := h.size
 have kk : ∀ (j : Nat) (x : List Value) (y : Nd), cs[j]? = some x → ys[j]? = some y → RNd wy (fun i => w.heap.size + 2 ≤ i ∧ i < wx.heap.size ∧ (Value.slice A ys.length c).ownBlock ≠ some i) x y := fun j x y h1 h2 => (h.kid j x y h1 h2).far f1 fun i hi => ⟨hi.2.1, fun e => hi.2.2 e.2.symm⟩
 have kx := hx.far f1 fun i hi => ⟨hi.2.1, fun e => hi.2.2 e.2.symm⟩
 have fin : ∀ {x2 : List Value} {y2 : Nd}, RNd wy (fun i => w.heap.size + 2 ≤ i ∧ i < wx.heap.size ∧ (Value.slice A ys.length c).ownBlock ≠ some i) x2 y2 →
   RNd (wy.setCell ⟨w.heap.size + 1, 9, none⟩ (.slice A' (ys.length + 1) c')) (fun i => w.heap.size + 2 ≤ i ∧ i < (wy.setCell ⟨w.heap.size + 1, 9, none⟩ (.slice A' (ys.length + 1) c')).heap.size ∧ (Value.slice A' (ys ++ [y]).length c').ownBlock ≠ some i) x2 y2 := fun hh => by
  refine (hh.far f2 fun i hi => ⟨by omega, by omega⟩).more fun i hi => ⟨hi.1, by rw [set_len]; omega, ?_⟩
  rw [hlen]
  rcases hv with e | e
  ·rw [e]; exact hi.2.2
  ·rw [e]; intro e'; injection e' with e'; omega
 exact {
  rd := (h.rd.far f1 (fun e => by omega) fun q hq => ⟨by have := hS q hq; omega, fun e => by have := hS q hq; omega⟩).far f2 (by omega) fun q hq => ⟨by have := hS q hq; omega, by have := hS q hq; omega⟩
  z := f2.whole (f1.whole h.z (fun e => by omega)) (by omega)
  n := by rw [hlen]; exact (f1.whole h.n (fun e => by omega)).set_ 9 _
  far := ⟨h.far.base.trans (f1.base.trans f2.base), fun i hi hn => (f2.block i (by omega) (by omega)).trans ((f1.block i (by omega) (fun e => by omega)).trans (h.far.block i hi hn))⟩
  len := by simp [h.len]
  own := by
   rw [hlen, flat_snoc]
   exact f2.own hown fun g hg => by have := (hown.lt g hg).1; omega
  kid := fun j x' y' h1 h2 => by
   have hl := h.len
   by_cases hj : j < cs.length
   ·rw [List.getElem?_append_left hj] at h1
    rw [List.getElem?_append_left (by omega)] at h2
    have := kk j x' y' h1 h2
    exact fin this
   ·have hj' : j = cs.length := by have := (List.getElem?_eq_some_iff.1 h1).1; simp at this; omega
    subst hj'
    rw [List.getElem?_append_right (qr _), Nat.sub_self] at h1
    rw [hl, List.getElem?_append_right (qr _), Nat.sub_self] at h2
    simp only [qgz, Option.some.injEq] at h1 h2
    subst h1 h2
    exact fin kx }
theorem Kd.kids (h : Kd w R S z k f no A c cs ys us wx) : RKids wx (fun i => w.heap.size + 2 ≤ i ∧ i < wx.heap.size) A ys.length ys := by
 obtain ⟨A', c', he, h1, h2, hr⟩ := own_formK h.own
 injection he with e1 _ e2
 subst e1 e2
 exact ⟨cs, rfl, h.len, hr.more fun i hi => by have := h.own.lt i hi; omega, fun j x y h1 h2 => (h.kid j x y h1 h2).more fun i hi => by omega⟩
theorem Kd.cap (h : Kd w R S z k f no A c cs ys us wx) : ys.length ≤ c ∧ c ≤ maxLen := by
 obtain ⟨A', c', he, h1, h2, hr⟩ := own_formK h.own
 injection he with e1 _ e2
 subst e1 e2
 exact ⟨h1, h2⟩
end
end
end Go.Proofs.YtedbhlgjcnnknaaGreatDoor
