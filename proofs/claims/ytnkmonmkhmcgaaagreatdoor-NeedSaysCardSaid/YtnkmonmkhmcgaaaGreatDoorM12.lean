/- Parts of the proof: walks and plain laws, side by side. -/
import Derived.Test.YtnkmonmkhmcgaaaGreatDoorProg
import Derived.Test.YtnkmonmkhmcgaaaGreatDoorM11
import Derived.Laws.EntriesVeiled
import Derived.Deep.RegionLaw
import Derived.Deep.Cut
import Derived.Test.YtnkmonmkhmcgaaaGreatDoorM2
import Derived.Test.YtnkmonmkhmcgaaaGreatDoorM1
import Derived.Lib.SlTrimSet
import Derived.Test.YtnkmonmkhmcgaaaGreatDoorM5
import Derived.Shelf.Strings.SlTrimAscii
import Derived.Test.YtnkmonmkhmcgaaaGreatDoorM3
import Derived.Test.YtnkmonmkhmcgaaaGreatDoorM4
import Derived.Test.YtnkmonmkhmcgaaaGreatDoorM6
import Derived.Test.YtnkmonmkhmcgaaaGreatDoorM7
import Derived.Test.YtnkmonmkhmcgaaaGreatDoorM8
import Derived.Test.YtnkmonmkhmcgaaaGreatDoorM9
import Derived.Test.YtnkmonmkhmcgaaaGreatDoorM10
set_option linter.unusedVariables false
set_option linter.unusedSimpArgs false
set_option linter.unusedSectionVars false
/- The closures of quartermasterref.ReadNeed, walked. -/
namespace Go.Proofs.YtnkmonmkhmcgaaaGreatDoor
open Go.RowKit Qm

set_option maxHeartbeats 1600000 in
theorem rnbad_any (w : World) :
    Calls Tryz.prog 34 #[] w fun e w' => e = .returned (.tuple #[.agg #[.int .i64 0, .string ⟨#[]⟩, .int .i64 0, .int .i64 0, .int .i64 0, .string ⟨#[]⟩, .bool false, .string ⟨#[]⟩, .bool false, .slice none 0 0], .int .i64 1]) ∧ Below w.heap.size w w' := by
  go_enter Tryz.func34, Tryz.ntmps34
  go_wp2
  refine bodyPost_ret (v := .tuple #[.agg #[_, _, _, _, _, _, _, _, _, _], .int .i64 _]) (by simp [results, Tryz.results34, go_sem]) rfl ⟨rfl, ?_⟩
  exact (Below.refl _ _).alloc (Nat.le_refl _) _

/-- The boxes of 'open' and 'whole', and what stands open. -/
structure Bo (B BO BW : Nat) (fs : List Fr) (hs : List Hd) (A : Option Addr) (c : Nat) (wh : Value) (w : World) : Prop where
  o : Whole w BO 24 [.slice A fs.length c]
  h : Whole w BW 62 [wh]
  op : Op B fs hs A c w
  lo : BO < B
  lh : BW < B
  ne : BO ≠ BW
section
variable {B BO BW c : Nat} {fs : List Fr} {hs : List Hd} {A : Option Addr} {wh : Value} {w w' : World}
theorem Bo.below (h : Bo B BO BW fs hs A c wh w) (hb : Below w.heap.size w w') : Bo B BO BW fs hs A c wh w' :=
  ⟨h.o.below hb h.o.lt, h.h.below hb h.h.lt, h.op.below hb, h.lo, h.lh, h.ne⟩
end
set_option maxHeartbeats 1600000 in
theorem rput_nil {B BO BW c : Nat} {A : Option Addr} {wh : Value} (x : List Value) (w : World) (hx : x.length = 10) (h : Bo B BO BW [] [] A c wh w) :
    Calls Tryz.prog 35 #[.agg x.toArray, .pointer (some ⟨BO, 0, none⟩), .pointer (some ⟨BW, 0, none⟩)] w fun e w' => e = .returned (.bool true) ∧
      Bo B BO BW [] [] A c (.pointer (some ⟨w.heap.size, 0, none⟩)) w' ∧ Whole w' w.heap.size 26 x ∧ Far (fun i => i = BW) w w' := by
  have HN := Lib.hid (Whole.new w _ 26 x rfl)
  have HB := Lib.hid (h.below ((Below.refl _ _).alloc (Nat.le_refl _) (.cells x.toArray 26)))
  have HF : Hid (Far (fun i => i = BW) w (w.alloc (.cells x.toArray 26))) := Lib.hid (Far.of_below _ ((Below.refl _ _).alloc (Nat.le_refl _) _))
  have H := Lib.hid h
  have o0 := h.o.cell 0
  have o1 := h.h.cell 0
  have o2 := h.h.lt
  have o3 := h.o.lt
  have o4 := h.h.free 0
  simp only [List.getElem?_cons_zero, List.length_nil] at o0 o1
  match x, hx with
  | [v0, v1, v2, v3, v4, v5, v6, v7, v8, v9], _ =>
    clear h hx
    go_enter Tryz.func35, Tryz.ntmps35
    go_wp2_with fail
    go_ret
    have f1 : Far (fun i => i = BW) w ((w.setCell ⟨BW, 0, none⟩ (.pointer (some ⟨w.heap.size, 0, none⟩))).alloc (.cells #[v0, v1, v2, v3, v4, v5, v6, v7, v8, v9] 26)) :=
      (Far.set_ (D := fun i => i = BW) rfl 0 _).trans (Far.of_below (fun _ => False) ((Below.refl _ _).alloc (Nat.le_refl _) _)) fun _ _ h => h.elim
    have hne := H.out.ne
    have hlh := H.out.lh
    exact ⟨rfl, ⟨f1.whole H.out.o (fun e => hne e), (H.out.h.set_ 0 _).alloc _, H.out.op.far (f1.mono fun i e => by omega), H.out.lo, hlh, hne⟩, Whole.new (w.setCell ⟨BW, 0, none⟩ (.pointer (some ⟨w.heap.size, 0, none⟩))) _ _ _ (by simp [World.setCell]), f1⟩
/-- A cell of an owned row. -/
theorem own_cell {w : World} {base : Nat} {e : TypeId} {size n c b : Nat} {xs : List Value} (ho : w.ownsRow base e size (.slice (some ⟨b, 0, none⟩) n c) n xs) {p : Nat} (hp : p < n * size) : w.cell? ⟨b, p, none⟩ = xs[p]? ∧ w.frozen? ⟨b, p, none⟩ = false := by
  rcases ho.2 with ⟨h0, _⟩ | ⟨g, cap, cur, hv, hb, hh, hc, hm, hs, ht⟩
  · cases h0
  · injection hv with e1 e2 e3
    injection e1 with e1; injection e1 with e1
    subst e1 e3
    have hW : Whole w b e cur.toList := by unfold Whole; simpa using hh
    exact ⟨by rw [hW.cell, ← ht, List.getElem?_take_of_lt hp], hW.free p⟩
theorem need_info2 : (Tryz.prog.info? 26).map (fun i => (i.zero, i.size, i.bytes)) = some (some (.agg #[.int .i64 0, .string ⟨#[]⟩, .int .i64 0, .int .i64 0, .int .i64 0, .string ⟨#[]⟩, .bool false, .string ⟨#[]⟩, .bool false, .slice none 0 0]), 10, 120) := by kernel_rfl
theorem bel3 (w : World) (o1 o2 o3 : Obj) : Below w.heap.size w (((w.alloc o1).alloc o2).alloc o3) := (((Below.refl _ w).alloc (Nat.le_refl _) _).alloc (by simp) _).alloc (by simp; omega) _
theorem bel3d (w : World) (o1 o2 o3 : Obj) : Below w.heap.size w ((((w.alloc o1).alloc o2).alloc o3).drew.drew) := below_drewN (below_drewN (bel3 w o1 o2 o3) 1) 1
theorem ncells3d (w : World) (o1 o2 : Obj) (xs : List Value) (t : TypeId) : ∀ j u, xs[j]? = some u → ((((w.alloc o1).alloc o2).alloc (.cells xs.toArray t)).drew.drew).cell? ((⟨w.heap.size + 1 + 1, 0, none⟩ : Addr).add j) = some u := by
  intro j u hj
  have h := (Whole.new ((w.alloc o1).alloc o2) (w.heap.size + 1 + 1) t xs (by simp)).cell j
  have hadd : (⟨w.heap.size + 1 + 1, 0, none⟩ : Addr).add j = ⟨w.heap.size + 1 + 1, j, none⟩ := by unfold Addr.add; split <;> simp_all
  rw [hadd, ← hj, ← h]; rfl
theorem bel3e (w : World) (o1 o2 o3 : Obj) : Below w.heap.size w ((((w.alloc o1).alloc o2).alloc o3).drew) := below_drewN (bel3 w o1 o2 o3) 1
theorem ncells3e (w : World) (o1 o2 : Obj) (xs : List Value) (t : TypeId) : ∀ j u, xs[j]? = some u → ((((w.alloc o1).alloc o2).alloc (.cells xs.toArray t)).drew).cell? ((⟨w.heap.size + 1 + 1, 0, none⟩ : Addr).add j) = some u := ncells3d w o1 o2 xs t
theorem grown_undrew {w w' : World} {row : Option Nat} (h : w.drew.grownBy w' row) : w.grownBy w' row := ⟨h.os, h.tape, h.output, h.size, h.block⟩
theorem own_bel {w w' : World} {base : Nat} {e : TypeId} {size : Nat} {v : Value} {n : Nat} {xs : List Value} (h : w.ownsRow base e size v n xs) (hb : Below w.heap.size w w') : w'.ownsRow base e size v n xs :=
  h.kept (grown_of_below hb none) (by cases hv : v.ownBlock <;> simp)
theorem ncells (w : World) (b : Nat) (xs : List Value) (t : TypeId) (hb : b = w.heap.size) : ∀ j u, xs[j]? = some u → (w.alloc (.cells xs.toArray t)).cell? ((⟨b, 0, none⟩ : Addr).add j) = some u := by
  intro j u hj
  have h := (Whole.new w b t xs hb).cell j
  have hadd : (⟨b, 0, none⟩ : Addr).add j = ⟨b, j, none⟩ := by unfold Addr.add; split <;> simp_all
  rw [hadd, h, hj]
/-- Behind the append to the top one's kids. -/
structure Aft (B BO BW : Nat) (g : Fr) (gs : List Fr) (hd : Hd) (hs : List Hd) (b c : Nat) (wh : Value) (w wx w8 : World) : Prop where
  op : Op B (g :: gs) (hd :: hs) (some ⟨b, 0, none⟩) c wx
  lt : b < w8.heap.size
  cell : w8.cell? ⟨b, gs.length * 10 + 9, none⟩ = some (.slice hd.1 g.ys.length hd.2)
  free : w8.frozen? ⟨b, gs.length * 10 + 9, none⟩ = false
  far : Far (fun i => B ≤ i) w w8
theorem Aft.mk_ {B BO BW : Nat} {g : Fr} {gs : List Fr} {hd : Hd} {hs : List Hd} {b c : Nat} {wh : Value} {w wx w8 : World} (h : Bo B BO BW (g :: gs) (hd :: hs) (some ⟨b, 0, none⟩) c wh w) (hb : Below w.heap.size w wx)
    (hg8 : wx.grownBy w8 (Value.slice hd.1 g.ys.length hd.2).ownBlock) : Aft B BO BW g gs hd hs b c wh w wx w8 := by
  have ho := h.op.below hb
  have hl := ho.kids.2.len
  have hnd := ho.nodup
  rw [obs_eq, nd2] at hnd
  have n4 : ¬ hd.1.map (·.block) = some b := fun e => hnd.2.2 b rfl e
  have f1 : Far (fun i => hd.1.map (·.block) = some i) wx w8 := Far.of_grown hg8 fun i e => ob_own.1 e.symm
  have ho8 := f1.own ho.own (fun i e => by have := ob_own.1 e; simp at this; subst this; exact n4)
  have hc := own_cell ho8 (p := gs.length * 10 + 9) (by simp; omega)
  have hrow : (frows (g :: gs) (hd :: hs))[gs.length * 10 + 9]? = some (.slice hd.1 g.ys.length hd.2) := by
    simp only [frows]
    rw [List.getElem?_append_right (by rw [frows_len hl]; omega), frows_len hl, Nat.add_sub_cancel_left]
    rfl
  rw [hrow] at hc
  refine ⟨ho, (ho8.lt b rfl).2, hc.1, hc.2, (Far.of_below _ hb).trans f1 fun i hi e => ?_⟩
  exact (ho.kids.ge hd (List.mem_cons_self ..) i e).1
/-- The end of a put into what stands open. -/
theorem put_end {B BO BW c c8 b : Nat} {wh : Value} {g : Fr} {gs : List Fr} {hd : Hd} {hs : List Hd} {A8 : Option Addr} {x : List Value} {n : Nd} {w wx w8 : World} {cs : List (List Value)} (h : Bo B BO BW (g :: gs) (hd :: hs) (some ⟨b, 0, none⟩) c wh w) (hB : B ≤ w.heap.size)
    (hbel : Below w.heap.size w wx) (hx : RNd wx (Fre wx B (some ⟨b, 0, none⟩) (hd :: hs)) x n) (k1 : cs.length = g.ys.length)
    (k3 : ∀ (i : Nat) (x : List Value) (y : Nd), cs[i]? = some x → g.ys[i]? = some y → RNd w (Fre w B (some ⟨b, 0, none⟩) (hd :: hs)) x y)
    (hown8 : w8.ownsRow B 26 10 (.slice A8 (g.ys.length + 1) c8) (g.ys.length + 1) (cs.flatten ++ x)) (hg8 : wx.grownBy w8 (Value.slice hd.1 g.ys.length hd.2).ownBlock)
    (hv8 : (Value.slice A8 (g.ys.length + 1) c8).ownBlock = (Value.slice hd.1 g.ys.length hd.2).ownBlock ∨ (Value.slice A8 (g.ys.length + 1) c8).ownBlock = some wx.heap.size) :
    Bo B BO BW (g.push n :: gs) ((A8, c8) :: hs) (some ⟨b, 0, none⟩) c wh (w8.setCell ⟨b, gs.length * 10 + 9, none⟩ (.slice A8 (g.ys.length + 1) c8)) ∧ Far (fun i => B ≤ i) w (w8.setCell ⟨b, gs.length * 10 + 9, none⟩ (.slice A8 (g.ys.length + 1) c8)) ∧
      (∀ {x : List Value} {y : Nd}, RNd w (Fre w B (some ⟨b, 0, none⟩) (hd :: hs)) x y → RNd (w8.setCell ⟨b, gs.length * 10 + 9, none⟩ (.slice A8 (g.ys.length + 1) c8)) (Fre (w8.setCell ⟨b, gs.length * 10 + 9, none⟩ (.slice A8 (g.ys.length + 1) c8)) B (some ⟨b, 0, none⟩) ((A8, c8) :: hs)) x y) ∧ ¬ A8.map (·.block) = some b := by
  have ho := h.op.below hbel
  have hA := Aft.mk_ h hbel hg8
  have hF : ∀ i, Fre w B (some ⟨b, 0, none⟩) (hd :: hs) i → Fre wx B (some ⟨b, 0, none⟩) (hd :: hs) i := fun i hi => ⟨hi.1, Nat.lt_of_lt_of_le hi.2.1 hbel.size, hi.2.2⟩
  have mv : ∀ {x : List Value} {y : Nd}, RNd w (Fre w B (some ⟨b, 0, none⟩) (hd :: hs)) x y → RNd wx (Fre wx B (some ⟨b, 0, none⟩) (hd :: hs)) x y := fun hr => (hr.under hbel fun i hi => hi.2.1).more hF
  have hp := ho.push hx k1 (fun i x y a b => mv (k3 i x y a b)) hown8 hg8 hv8
  have f2 : Far (fun i => B ≤ i) w8 (w8.setCell ⟨b, gs.length * 10 + 9, none⟩ (.slice A8 (g.ys.length + 1) c8)) := Far.set_ (D := fun i => B ≤ i) (h.op.own.lt b rfl).1 _ _
  have f := hA.far.trans f2 fun _ _ e => e
  exact ⟨⟨f.whole h.o (by have := h.lo; omega), f.whole h.h (by have := h.lh; omega), hp.1, h.lo, h.lh, h.ne⟩, f, fun hr => hp.2.1 (mv hr), hp.2.2⟩
theorem own_top {w : World} {base : Nat} {e : TypeId} {k c b : Nat} {ys z : List Value} (ho : w.ownsRow base e 10 (.slice (some ⟨b, 0, none⟩) (k + 1) c) (k + 1) (ys ++ z)) (hy : ys.length = k * 10) {i : Nat} (hi : i < 10) : w.cell? ⟨b, k * 10 + i, none⟩ = z[i]? ∧ w.frozen? ⟨b, k * 10 + i, none⟩ = false := by
  have h := own_cell ho (p := k * 10 + i) (by omega)
  rw [List.getElem?_append_right (by omega), hy, Nat.add_sub_cancel_left] at h
  exact h
theorem RNd.zero_ {w : World} {F : Nat → Prop} : RNd w F [.int .i64 0, .string ⟨#[]⟩, .int .i64 0, .int .i64 0, .int .i64 0, .string ⟨#[]⟩, .bool false, .string ⟨#[]⟩, .bool false, .slice none 0 0] Nd.zero :=
  RNd.shut (k := 0) (a := At.zero) (f := []) (no := false) (ks := []) (Nat.le_refl _) (Nat.zero_le _) (Nat.zero_le _) (Nat.zero_le _) (Nat.zero_le _) RKids.nil_
theorem own_block {w : World} {base : Nat} {e : TypeId} {size n c : Nat} {A : Option Addr} {xs : List Value} (ho : w.ownsRow base e size (.slice A n c) n xs) (hn : 0 < n) : ∃ b, A = some ⟨b, 0, none⟩ := by
  rcases ho.2 with ⟨_, h0⟩ | ⟨b, cap, cur, hv, _⟩
  · omega
  · injection hv with hv; exact ⟨b, hv⟩
set_option maxRecDepth 100000 in
set_option maxHeartbeats 3200000 in
theorem rput_cons {B BO BW c : Nat} {A : Option Addr} {wh : Value} {g : Fr} {gs : List Fr} {hd : Hd} {hs : List Hd} (x : List Value) (n : Nd) (w : World) (h : Bo B BO BW (g :: gs) (hd :: hs) A c wh w) (hx : RNd w (Fre w B A (hd :: hs)) x n) (hB : B ≤ w.heap.size)
    (hg : gs.length ≤ 10) (hk : g.ys.length ≤ 40000) :
    Calls Tryz.prog 35 #[.agg x.toArray, .pointer (some ⟨BO, 0, none⟩), .pointer (some ⟨BW, 0, none⟩)] w fun e w' => e = .returned (.bool true) ∧
      ∃ hd', Bo B BO BW (g.push n :: gs) (hd' :: hs) A c wh w' ∧ Far (fun i => B ≤ i) w w' := by
  obtain ⟨b, rfl⟩ : ∃ b, A = some ⟨b, 0, none⟩ := by
    rcases h.op.own.2 with ⟨_, h0⟩ | ⟨b, cap, cur, hv, _⟩
    · simp at h0
    · injection hv with hv; exact ⟨b, hv⟩
  have hl := h.op.kids.2.len
  have hc9 := own_cell h.op.own (p := gs.length * 10 + 9) (by simp; omega)
  have hrow : (frows (g :: gs) (hd :: hs))[gs.length * 10 + 9]? = some (.slice hd.1 g.ys.length hd.2) := by
    simp only [frows]
    rw [List.getElem?_append_right (by rw [frows_len hl]; omega), frows_len hl, Nat.add_sub_cancel_left]
    rfl
  rw [hrow] at hc9
  obtain ⟨hc9, hf9⟩ := hc9
  obtain ⟨hbl1, hbl2⟩ := h.op.own.lt b rfl
  obtain ⟨k, a, f, no, ks⟩ := n
  obtain ⟨A1, n1, c1, rfl, -⟩ := hx.open_
  obtain ⟨nm, op, ver, slot, fl, on⟩ := a
  have HN := Lib.hid (Whole.new w _ 26 (ndRow k ⟨nm, op, ver, slot, fl, on⟩ f no A1 n1 c1) rfl)
  have HX := Lib.hid hx
  have H := Lib.hid h
  have o0 := h.o.cell 0
  have o1 := h.o.lt
  simp only [List.getElem?_cons_zero, List.length_cons] at o0
  obtain ⟨cs, kk1, kk2, kk3, kk4⟩ := h.op.kids.1
  have HK2 := Lib.hid kk2; have HK3 := Lib.hid kk3; have HK1 := Lib.hid kk1
  clear kk1 kk2 kk3 kk4 hrow h hx hl
  obtain ⟨m, hm⟩ : ∃ m, gs.length = m := ⟨_, rfl⟩
  rw [hm] at hc9 hf9 o0 hg
  obtain ⟨q, hq⟩ : ∃ q, g.ys.length = q := ⟨_, rfl⟩
  rw [hq] at hc9 hk HK2
  have HM := Lib.hid hm; have HQ := Lib.hid hq
  clear hm hq
  obtain ⟨A2, c2⟩ := hd
  simp only at hc9 HK2
  obtain ⟨i0, hi, hz0, hz1, hz2⟩ : ∃ i0, Tryz.prog.info? 26 = some i0 ∧ i0.zero = some (.agg #[.int .i64 0, .string ⟨#[]⟩, .int .i64 0, .int .i64 0, .int .i64 0, .string ⟨#[]⟩, .bool false, .string ⟨#[]⟩, .bool false, .slice none 0 0]) ∧ i0.size = 10 ∧ i0.bytes = 120 := by
    have h := need_info2
    cases hh : Tryz.prog.info? 26 with
    | none => rw [hh] at h; simp at h
    | some i => rw [hh] at h; simp at h; exact ⟨i, rfl, h.1, h.2.1, h.2.2⟩
  have Hi := Lib.hid hi; have Hz0 := Lib.hid hz0; have Hz1 := Lib.hid hz1; have Hz2 := Lib.hid hz2
  clear hi hz0 hz1 hz2
  unfold ndRow at HN HX ⊢
  have hc9' : ∀ o1 o2 o3 : Obj, (((w.alloc o1).alloc o2).alloc o3).cell? ⟨b, m * 10 + 9, none⟩ = some (.slice A2 q c2) := fun o1 o2 o3 => ((bel3 w o1 o2 o3).cell (p := ⟨b, m * 10 + 9, none⟩) hbl2).trans hc9
  go_enter Tryz.func35, Tryz.ntmps35
  go_wp2_with fail
  go_region
  · go_wp2_with fail
    go_region_law (refine step_append_own rfl (.tmp 31) (.tmp 33) 24 rfl B 26 i0 (.agg #[.int .i64 0, .string ⟨#[]⟩, .int .i64 0, .int .i64 0, .int .i64 0, .string ⟨#[]⟩, .bool false, .string ⟨#[]⟩, .bool false, .slice none 0 0]) 10 120 Tryz.underlying24 Hi.out Hz0.out Hz1.out Hz2.out rfl (by decide) (.slice A2 q c2) q cs.flatten (by simp [Act.eval, Act.put]) (own_bel HK2.out (bel3d _ _ _ _)) ⟨w.heap.size + 1 + 1, 0, none⟩ 1 1 [.int .i64 k, .string ⟨nm.toArray⟩, .int .i64 op, .int .i64 ver, .int .i64 slot, .string ⟨fl.toArray⟩, .bool on, .string ⟨f.toArray⟩, .bool no, .slice A1 n1 c1] (by simp [Act.eval, Act.put]) rfl (ncells3d _ _ _ _ _) (by simp [Value.oneCell']) (by unfold maxLen; omega) (by omega) (by simp; omega) ?_; intro v' w8 hown8 hg8 _ hv8; obtain ⟨A8, c8, rfl, _⟩ := own_formK hown8; have HG8 := Lib.hid (grown_undrew (grown_undrew hg8)); have HO8 := Lib.hid hown8; have HV8 := Lib.hid hv8; have HA8 := Lib.hid (Aft.mk_ H.out (bel3 w _ _ _) (by rw [HQ.out]; exact HG8.out)); clear hown8 hg8 hv8; have q1 := HA8.out.lt; have q2 := HA8.out.cell; have q3 := HA8.out.free; rw [HM.out] at q2 q3; rw [HQ.out] at q2)
    all_goals go_wp2_with fail
    all_goals go_ret
    all_goals (
      have he := put_end (n := .mk k ⟨nm, op, ver, slot, fl, on⟩ f no ks) H.out hB (bel3 w _ _ _) ((HX.out.under (bel3 w _ _ _) fun i hi => hi.2.1).more fun i hi => ⟨hi.1, Nat.lt_of_lt_of_le hi.2.1 (bel3 w _ _ _).size, hi.2.2⟩) HK1.out HK3.out (by rw [HQ.out]; exact HO8.out) (by rw [HQ.out]; exact HG8.out) (by rw [HQ.out]; simpa using HV8.out)
      rw [HM.out, HQ.out] at he
      first | exact ⟨rfl, ⟨_, he.1⟩, he.2.1⟩ | exact ⟨rfl, ⟨_, _, he.1⟩, he.2.1⟩)
  · go_upto_region 7 with (first | (at_builtin; refine wpList_append_own_at _ rfl (.tmp 19) (.tmp 21) 24 rfl B 26 i0 (.agg #[.int .i64 0, .string ⟨#[]⟩, .int .i64 0, .int .i64 0, .int .i64 0, .string ⟨#[]⟩, .bool false, .string ⟨#[]⟩, .bool false, .slice none 0 0]) 10 120 Tryz.underlying24 Hi.out Hz0.out Hz1.out Hz2.out rfl (by decide) (.slice A2 q c2) q cs.flatten rfl (own_bel HK2.out (bel3e _ _ _ _)) ⟨w.heap.size + 1 + 1, 0, none⟩ 1 1 [.int .i64 0, .string ⟨#[]⟩, .int .i64 0, .int .i64 0, .int .i64 0, .string ⟨#[]⟩, .bool false, .string ⟨#[]⟩, .bool false, .slice none 0 0] rfl rfl (ncells3e _ _ _ _ _) (by simp [Value.oneCell']) (by unfold maxLen; omega) (by omega) (by simp; omega) ?_))
    intro v' w8 hown8 hg8 _ hv8
    obtain ⟨A8, c8, rfl, _⟩ := own_formK hown8
    obtain ⟨b8, rfl⟩ := own_block hown8 (by omega)
    have HG8 := Lib.hid (grown_undrew hg8); have HO8 := Lib.hid hown8; have HV8 := Lib.hid hv8
    have HA8 := Lib.hid (Aft.mk_ H.out (bel3 w _ _ _) (by rw [HQ.out]; exact HG8.out))
    clear hown8 hg8 hv8
    have q1 := HA8.out.lt; have q2 := HA8.out.cell; have q3 := HA8.out.free
    rw [HM.out] at q2 q3; rw [HQ.out] at q2
    go_upto_region 7 with fail
    have he := put_end (n := Nd.zero) H.out hB (bel3 w _ _ _) RNd.zero_ HK1.out HK3.out (by rw [HQ.out]; exact HO8.out) (by rw [HQ.out]; exact HG8.out) (by rw [HQ.out]; simpa using HV8.out)
    rw [HM.out, HQ.out] at he
    have hA2 : ∀ i, (Value.slice A2 q c2).ownBlock = some i → i < w.heap.size := fun i e => (HK2.out.lt i e).2
    have hN8 := ((HN.out.alloc (.cells #[.bool true] 4)).alloc (.cells #[.int .i64 0, .string ⟨#[]⟩, .int .i64 0, .int .i64 0, .int .i64 0, .string ⟨#[]⟩, .bool false, .string ⟨#[]⟩, .bool false, .slice none 0 0] 26)).grown HG8.out (fun e => by have := hA2 _ e.symm; omega)
    have hN9 := hN8.far (p := ⟨b, m * 10 + 9, none⟩) (by show w.heap.size ≠ b; omega) (.slice (some ⟨b8, 0, none⟩) (q + 1) c8)
    clear q1 q2 q3 hN8
    have hX9 := he.2.2.1 HX.out
    have hb8 : b8 ≠ b := fun e => he.2.2.2 (by rw [e]; rfl)
    have hO9 := (Far.set_ (D := fun i => i = b) (w := w8) (b := b) rfl (m * 10 + 9) (.slice (some ⟨b8, 0, none⟩) (q + 1) c8)).own HO8.out (fun g e => by simp [Value.ownBlock] at e; omega)
    have HE := Lib.hid he.1; have HF9 := Lib.hid he.2.1
    clear he hb8
    generalize w8.setCell _ _ = w9 at HE HF9 hN9 hX9 hO9 ⊢
    have HX9 := Lib.hid hX9; have hlf := HK2.out.1
    obtain ⟨z0, y0⟩ := own_top hO9 hlf (i := 0) (by decide); obtain ⟨z1, y1⟩ := own_top hO9 hlf (i := 1) (by decide); obtain ⟨z2, y2⟩ := own_top hO9 hlf (i := 2) (by decide); obtain ⟨z3, y3⟩ := own_top hO9 hlf (i := 3) (by decide); obtain ⟨z4, y4⟩ := own_top hO9 hlf (i := 4) (by decide)
    obtain ⟨z5, y5⟩ := own_top hO9 hlf (i := 5) (by decide); obtain ⟨z6, y6⟩ := own_top hO9 hlf (i := 6) (by decide); obtain ⟨z7, y7⟩ := own_top hO9 hlf (i := 7) (by decide); obtain ⟨z8, y8⟩ := own_top hO9 hlf (i := 8) (by decide); obtain ⟨z9, y9⟩ := own_top hO9 hlf (i := 9) (by decide)
    simp only [List.getElem?_cons_zero, List.getElem?_cons_succ, Nat.add_zero] at z0 z1 z2 z3 z4 z5 z6 z7 z8 z9 y0 y1 y2 y3 y4 y5 y6 y7 y8 y9
    have g0 := hN9.cell 0; have g1 := hN9.cell 1; have g2 := hN9.cell 2; have g3 := hN9.cell 3; have g4 := hN9.cell 4; have g5 := hN9.cell 5; have g6 := hN9.cell 6; have g7 := hN9.cell 7; have g8 := hN9.cell 8; have g9 := hN9.cell 9
    simp only [List.getElem?_cons_zero, List.getElem?_cons_succ] at g0 g1 g2 g3 g4 g5 g6 g7 g8 g9
    obtain ⟨hb8a, hb8⟩ := hO9.lt b8 rfl
    have hN9l := hN9.lt
    clear hN9 hX9 hO9 hlf HA8 HO8 HG8 HV8
    go_wp2_with fail
    go_ret
    have hr := fun wz hwz => Op.refill (h := ((some ⟨b8, 0, none⟩ : Option Addr), c8)) (wz := wz) HE.out.op HX9.out hwz
    rw [HQ.out] at hr
    obtain ⟨e1, e2⟩ := hr _ rfl
    have hlo := HE.out.lo; have hlh := HE.out.lh
    have hBo : Bo B BO BW (g.push (.mk k ⟨nm, op, ver, slot, fl, on⟩ f no ks) :: gs) ((some ⟨b8, 0, none⟩, c8) :: hs) (some ⟨b, 0, none⟩) c wh _ := ⟨e2.whole HE.out.o (fun e => by omega), e2.whole HE.out.h (fun e => by omega), e1, hlo, hlh, HE.out.ne⟩
    have hFo := HF9.out.trans e2 (D := fun i => B ≤ i) fun i _ e => by omega
    exact ⟨rfl, _, hBo, hFo⟩
end Go.Proofs.YtnkmonmkhmcgaaaGreatDoor

/- quartermasterref.sized, walked. -/
namespace Qm
open Go
mutual
def szd : Nd → Nat → Int × Int
  | .mk _ _ _ _ ks, l => if l = 0 then (0, 99) else szdL ks (l - 1) 1 0
def szdL : List Nd → Nat → Int → Int → Int × Int
  | [], _, all, dp => (all, dp + 1)
  | k :: r, l, all, dp => if 100 < all + (szd k l).1 ∨ 50 < (szd k l).2 then (101, 99) else szdL r l (all + (szd k l).1) (max dp (szd k l).2)
end
theorem Nd.deep_pos (n : Nd) : 1 ≤ n.deep := by cases n; simp only [Nd.deep]; omega
theorem Nd.nodes_pos (n : Nd) : 1 ≤ n.nodes := by cases n; simp only [Nd.nodes]; omega
theorem szdL_spec {ks : List Nd} {l : Nat} (ih : ∀ x ∈ ks, ((x.deep ≤ l ∧ x.nodes ≤ 100) ∧ szd x l = ((x.nodes : Int), (x.deep : Int))) ∨ (¬ (x.deep ≤ l ∧ x.nodes ≤ 100) ∧ (szd x l).2 = 99 ∧ 0 ≤ (szd x l).1 ∧ (szd x l).1 ≤ 101)) (hl : l ≤ 50) :
    ∀ (all dp : Nat), 1 ≤ all → all ≤ 100 → dp ≤ l → ((max dp (deepL ks) ≤ l ∧ all + nodesL ks ≤ 100) ∧ szdL ks l all dp = (((all + nodesL ks : Nat) : Int), ((max dp (deepL ks) + 1 : Nat) : Int))) ∨ (¬ (max dp (deepL ks) ≤ l ∧ all + nodesL ks ≤ 100) ∧ szdL ks l all dp = (101, 99)) := by
  induction ks with
  | nil => intro all dp h1 h2 h3; exact .inl ⟨by simp only [deepL, nodesL]; omega, by simp only [szdL, nodesL, deepL]; congr 1 <;> omega⟩
  | cons k r ihr =>
    intro all dp h1 h2 h3
    have ir := ihr fun x hx => ih x (List.mem_cons_of_mem _ hx)
    simp only [szdL, nodesL, deepL]
    rcases ih k (List.mem_cons_self ..) with ⟨⟨q1, q2⟩, e⟩ | ⟨q, e, _, _⟩
    · rw [e]
      by_cases hc : 100 < all + k.nodes
      · rw [if_pos (by simp only; omega)]
        exact .inr ⟨by omega, rfl⟩
      · rw [if_neg (by simp only; omega)]
        have em : (max (dp : Int) (k.deep : Int)) = ((max dp k.deep : Nat) : Int) := by omega
        have ea : ((all : Int) + (k.nodes : Int)) = ((all + k.nodes : Nat) : Int) := by omega
        simp only [em, ea]
        rcases ir (all + k.nodes) (max dp k.deep) (by omega) (by omega) (by omega) with ⟨a, b⟩ | ⟨a, b⟩
        · refine .inl ⟨by omega, ?_⟩
          rw [b]; congr 2 <;> omega
        · exact .inr ⟨by omega, b⟩
    · rw [if_pos (.inr (by omega))]
      exact .inr ⟨by omega, rfl⟩
theorem szd_spec : ∀ (n : Nd) (l : Nat), l ≤ 50 → ((n.deep ≤ l ∧ n.nodes ≤ 100) ∧ szd n l = ((n.nodes : Int), (n.deep : Int))) ∨ (¬ (n.deep ≤ l ∧ n.nodes ≤ 100) ∧ (szd n l).2 = 99 ∧ 0 ≤ (szd n l).1 ∧ (szd n l).1 ≤ 101) := by
  refine Nd.ind fun k a f no ks ih => ?_
  intro l hl
  simp only [szd, Nd.nodes, Nd.deep]
  by_cases h : l = 0
  · rw [if_pos h]; exact .inr ⟨by omega, rfl, by simp only; omega, by simp only; omega⟩
  · rw [if_neg h]
    have e1 : ((1 : Int)) = ((1 : Nat) : Int) := rfl
    rcases szdL_spec (l := l - 1) (fun x hx => ih x hx (l - 1) (by omega)) (by omega) 1 0 (by omega) (by omega) (by omega) with ⟨a, b⟩ | ⟨a, b⟩
    · refine .inl ⟨by omega, ?_⟩
      have b' : szdL ks (l - 1) 1 0 = _ := b
      rw [b']; congr 2 <;> omega
    · have b' : szdL ks (l - 1) 1 0 = _ := b
      rw [b']
      exact .inr ⟨by omega, rfl, by simp only; omega, by simp only; omega⟩
theorem szd_le (n : Nd) (l : Nat) (hl : l ≤ 50) : 0 ≤ (szd n l).1 ∧ (szd n l).1 ≤ 101 ∧ 0 ≤ (szd n l).2 ∧ (szd n l).2 ≤ 99 := by
  rcases szd_spec n l hl with ⟨⟨a, b⟩, e⟩ | ⟨_, e, h1, h2⟩
  · rw [e]; simp only; omega
  · omega
theorem szd_many (n : Nd) : (20 < (szd n 4).1 ∨ 4 < (szd n 4).2) ↔ tooMany n := by
  unfold tooMany
  rcases szd_spec n 4 (by omega) with ⟨⟨a, b⟩, e⟩ | ⟨h, e, _, _⟩
  · rw [e]; simp only; omega
  · rw [e]; have := n.deep_pos; omega
end Qm
namespace Go.Proofs.YtnkmonmkhmcgaaaGreatDoor
open Go.RowKit Qm

set_option maxHeartbeats 1600000 in
theorem sized_any : ∀ (n : Nd) (S : Nat → Prop) (x : List Value) (l : Nat) (w : World), RNd w S x n → (∀ k, S k → k < w.heap.size) → l ≤ 4 →
    Calls Tryz.prog 25 #[.agg x.toArray, .int .i64 l] w fun e w' => e = .returned (.tuple #[.int .i64 (szd n l).1, .int .i64 (szd n l).2]) ∧ Below w.heap.size w w' := by
  refine Nd.ind fun k a f no ks ih => ?_
  intro S x l w hR hS hl
  have HI := Lib.hid ih; clear ih
  obtain ⟨A, n, c, rfl, hnc, hc, h1, h2, h3, hK⟩ := hR.open_
  clear hR
  have HS := Lib.hid hS; clear hS
  have HK := Lib.hid hK; clear hK
  unfold maxLen at hc
  clear h1 h2 h3
  unfold ndRow
  have HW := Lib.hid (Whole.new w _ 26 [.int .i64 k, .string ⟨a.nm.toArray⟩, .int .i64 a.op, .int .i64 a.ver, .int .i64 a.slot, .string ⟨a.fl.toArray⟩, .bool a.on, .string ⟨f.toArray⟩, .bool no, .slice A n c] rfl)
  have HB := Lib.hid ((Below.refl _ w).alloc (Nat.le_refl _) (.cells #[.int .i64 k, .string ⟨a.nm.toArray⟩, .int .i64 a.op, .int .i64 a.ver, .int .i64 a.slot, .string ⟨a.fl.toArray⟩, .bool a.on, .string ⟨f.toArray⟩, .bool no, .slice A n c] 26))
  by_cases h4 : l = 0
  · subst h4
    have HC : Hid (szd (.mk k a f no ks) 0 = (0, 99)) := Lib.hid (by simp [szd])
    generalize szd (.mk k a f no ks) 0 = R at HC ⊢
    go_enter Tryz.func25, Tryz.ntmps25
    go_wp2
    go_ret2
    exact ⟨by rw [HC.out]; rfl, HB.out⟩
  · have h4' : ((l : Int) == 0) = false := by simp; omega
    have HC : Hid (szd (.mk k a f no ks) l = szdL ks (l - 1) 1 0) := Lib.hid (by simp [szd, h4])
    generalize szd (.mk k a f no ks) l = R at HC ⊢
    go_enter Tryz.func25, Tryz.ntmps25
    go_wp2
    go_loopg [4, 5, 15] n (fun g av dv iv wr => ∃ (j : Nat) (z d : Int), Hid (j + g = n) ∧ iv = .int .i64 j ∧ av = .int .i64 z ∧ dv = .int .i64 d ∧ 1 ≤ z ∧ z ≤ 100 ∧ 0 ≤ d ∧ d ≤ 50 ∧ Hid (szdL ks (l - 1) 1 0 = szdL (ks.drop j) (l - 1) z d) ∧ Below w.heap.size w wr)
    case atStart => exact ⟨0, 1, 0, Lib.hid (Nat.zero_add _), rfl, rfl, rfl, by omega, by omega, by omega, by omega, Lib.hid rfl, HB.out⟩
    case round =>
      obtain ⟨j, z, d, Hj, rfl, rfl, rfl, hz1, hz2, hd1, hd2, Hcl, hb⟩ := hrel
      have HBr := Lib.hid hb; clear hb
      by_cases hj : j < n
      · obtain ⟨b, o, x, y, rfl, hb, hy, hxy, hcell⟩ := (HK.out.under HBr.out HS.out).at_ hj
        have Hdr := Lib.hid (drop_step hy)
        have hmem := List.mem_of_getElem? hy
        obtain ⟨yk, ya, yf, yn, yks⟩ := y
        obtain ⟨A', n', c', rfl, -⟩ := hxy.open_
        have g0 := hcell 0 (by omega); have g1 := hcell 1 (by omega); have g2 := hcell 2 (by omega); have g3 := hcell 3 (by omega); have g4 := hcell 4 (by omega)
        have g5 := hcell 5 (by omega); have g6 := hcell 6 (by omega); have g7 := hcell 7 (by omega); have g8 := hcell 8 (by omega); have g9 := hcell 9 (by omega)
        clear hcell
        unfold ndRow at g0 g1 g2 g3 g4 g5 g6 g7 g8 g9
        simp only [List.getElem?_cons_zero, List.getElem?_cons_succ, Nat.add_zero] at g0 g1 g2 g3 g4 g5 g6 g7 g8 g9
        clear hy
        have hxy2 := (hxy.under (Below.refl _ wr |>.alloc (Nat.le_refl _) (.cells #[.int .i64 yk, .string ⟨ya.nm.toArray⟩, .int .i64 ya.op, .int .i64 ya.ver, .int .i64 ya.slot, .string ⟨ya.fl.toArray⟩, .bool ya.on, .string ⟨yf.toArray⟩, .bool yn, .slice A' n' c'] 26)) fun q hq => Nat.lt_of_lt_of_le (HS.out q hq) HBr.out.size)
        clear hxy
        have hcall := HI.out _ hmem S _ (l - 1) _ hxy2 (fun q hq => by have := HS.out q hq; have := HBr.out.size; simp; omega) (by omega)
        have e : ((l - 1 : Nat) : Int) = (l : Int) - 1 := by omega
        rw [e] at hcall
        unfold ndRow at hcall
        have Hle := szd_le (.mk yk ya yf yn yks) (l - 1) (by omega)
        have HX : Hid (szdL (ks.drop j) (l - 1) z d = if 100 < z + (szd (.mk yk ya yf yn yks) (l - 1)).1 ∨ 50 < (szd (.mk yk ya yf yn yks) (l - 1)).2 then (101, 99) else szdL (ks.drop (j + 1)) (l - 1) (z + (szd (.mk yk ya yf yn yks) (l - 1)).1) (max d (szd (.mk yk ya yf yn yks) (l - 1)).2)) := Lib.hid (by rw [Hdr.out]; simp only [szdL])
        generalize hq : szd (.mk yk ya yf yn yks) (l - 1) = q at hcall Hle HX
        obtain ⟨m, dd⟩ := q
        simp only at hcall Hle HX
        obtain ⟨m1, m2, d1, d2⟩ := Hle
        have HBn := Lib.hid (HBr.out.alloc HBr.out.size (.cells #[.int .i64 yk, .string ⟨ya.nm.toArray⟩, .int .i64 ya.op, .int .i64 ya.ver, .int .i64 ya.slot, .string ⟨ya.fl.toArray⟩, .bool ya.on, .string ⟨yf.toArray⟩, .bool yn, .slice A' n' c'] 26))
        clear hq e hxy2 Hdr hmem
        have Hcall := Lib.hid hcall; clear hcall
        by_cases hm : 100 < z + m
        · have HX2 := Lib.hid (HX.out.trans (if_pos (.inl hm)))
          clear HX
          go_wp2_with (first | (go_at_call 25; refine Hcall.out.mono ?_; rintro e w' ⟨rfl, hb'⟩; refine Hid.out ?_))
          refine Lib.hid ?_
          have HB' := Lib.hid (HBn.out.trans (hb'.mono HBn.out.size)); clear hb'
          go_wp2
          go_ret2
          exact ⟨by rw [HC.out, Hcl.out, HX2.out]; rfl, HB'.out⟩
        · have hm' : decide (100 < z + m) = false := by simpa using hm
          by_cases hd : 50 < dd
          · have HX2 := Lib.hid (HX.out.trans (if_pos (.inr hd)))
            clear HX
            go_wp2_with (first | (go_at_call 25; refine Hcall.out.mono ?_; rintro e w' ⟨rfl, hb'⟩; refine Hid.out ?_))
            refine Lib.hid ?_
            have HB' := Lib.hid (HBn.out.trans (hb'.mono HBn.out.size)); clear hb'
            go_wp2
            go_ret2
            exact ⟨by rw [HC.out, Hcl.out, HX2.out]; rfl, HB'.out⟩
          · have hd' : decide (50 < dd) = false := by simpa using hd
            have HX2 := Lib.hid (HX.out.trans (if_neg (by omega)))
            clear HX
            go_wp2_with (first | (go_at_call 25; refine Hcall.out.mono ?_; rintro e w' ⟨rfl, hb'⟩; refine Hid.out ?_))
            refine Lib.hid ?_
            have HB' := Lib.hid (HBn.out.trans (hb'.mono HBn.out.size)); clear hb'
            go_wp2
            all_goals (
              go_roundg (gk - 1)
              case measure => have := Hj.out; omega
              case rel => exact ⟨j + 1, z + m, max d dd, Lib.hid (by have := Hj.out; omega), by go_num, rfl, (by first | rfl | (congr 1; omega)), by omega, by omega, by omega, by omega, Lib.hid (by rw [Hcl.out, HX2.out]), HB'.out⟩)
      · go_wp2
        go_ret2
        refine ⟨?_, HBr.out⟩
        rw [HC.out, Hcl.out, List.drop_of_length_le (by have := HK.out.len; omega)]; rfl
end Go.Proofs.YtnkmonmkhmcgaaaGreatDoor

/- Names, cut and told by membership: plain. -/
namespace Qm
open Go

def letters : List UInt8 := [97, 98, 99, 100, 101, 102, 103, 104, 105, 106, 107, 108, 109, 110, 111, 112, 113, 114, 115, 116, 117, 118, 119, 120, 121, 122]
def alnum : List UInt8 := [97, 98, 99, 100, 101, 102, 103, 104, 105, 106, 107, 108, 109, 110, 111, 112, 113, 114, 115, 116, 117, 118, 119, 120, 121, 122, 48, 49, 50, 51, 52, 53, 54, 55, 56, 57]

theorem byte_all {p : UInt8 → Prop} (h : ∀ n : Fin 256, p (UInt8.ofNat n.val)) (c : UInt8) : p c := by
  have h1 := h ⟨c.toNat, c.toNat_lt⟩
  simpa using h1
theorem letters_low (c : UInt8) : decide (0 ≤ Lib.indexByte letters c) = lowB c :=
  byte_all (p := fun c => decide (0 ≤ Lib.indexByte letters c) = lowB c) (by decide +kernel) c
theorem alnum_mem (c : UInt8) : alnum.contains c = (lowB c || digB c) :=
  byte_all (p := fun c => alnum.contains c = (lowB c || digB c)) (by decide +kernel) c

theorem mem_dropWhile {α : Type} {p : α → Bool} {x : α} (hx : p x = false) : ∀ {l : List α}, x ∈ l → x ∈ l.dropWhile p
  | [], h => by cases h
  | y :: r, h => by
    rw [List.dropWhile_cons]
    by_cases hy : p y = true
    · rw [if_pos hy]
      rcases List.mem_cons.1 h with rfl | h
      · rw [hx] at hy; cases hy
      · exact mem_dropWhile hx h
    · rw [if_neg hy]; exact h
theorem dropWhile_all {α : Type} {p : α → Bool} : ∀ {l : List α}, (∀ x ∈ l, p x = true) → l.dropWhile p = []
  | [], _ => rfl
  | y :: r, h => by
    rw [List.dropWhile_cons, if_pos (h y (List.mem_cons_self ..))]
    exact dropWhile_all fun x hx => h x (List.mem_cons_of_mem _ hx)
theorem trim_all {l cs : List UInt8} (h : ∀ x ∈ l, cs.contains x = true) : Lib.trimS l cs = [] := by
  unfold Lib.trimS Lib.trimRightS
  rw [dropWhile_all fun x hx => h x (List.mem_reverse.1 hx)]
  rfl
theorem trim_some {l cs : List UInt8} {x : UInt8} (hx : x ∈ l) (h : cs.contains x = false) : Lib.trimS l cs ≠ [] := by
  intro e
  have h1 : x ∈ Lib.trimRightS l cs := List.mem_reverse.2 (mem_dropWhile h (List.mem_reverse.2 hx))
  have h2 : x ∈ Lib.trimS l cs := mem_dropWhile h h1
  rw [e] at h2
  cases h2

theorem okFrom_iff : ∀ {i : Nat} {l : List UInt8}, 0 < i → (okFrom i l = true ↔ ∀ x ∈ l, alnum.contains x = true)
  | _, [], _ => by simp [okFrom]
  | i, c :: r, h => by
    have ih := okFrom_iff (i := i + 1) (l := r) (by omega)
    simp only [okFrom, okAt, Bool.and_eq_true, ih, List.forall_mem_cons]
    have : (lowB c || decide (0 < i) && digB c) = alnum.contains c := by
      rw [alnum_mem, decide_eq_true h, Bool.true_and]
    rw [this]

/-- The other telling of a name. -/
theorem isName_told {c : UInt8} {r : List UInt8} (h : (c :: r).length ≤ 8) : isName (c :: r) = (lowB c && (Lib.trimS (c :: r) alnum).isEmpty) := by
  unfold isName
  rw [decide_eq_true (by simp at h ⊢; omega), Bool.true_and]
  have e : okFrom 0 (c :: r) = (lowB c && okFrom 1 r) := by simp [okFrom, okAt]
  rw [e]
  cases hc : lowB c
  · rfl
  · rw [Bool.true_and, Bool.true_and]
    by_cases hr : okFrom 1 r = true
    · rw [hr]
      have h1 := (okFrom_iff (by decide)).1 hr
      rw [trim_all]
      · rfl
      · intro x hx
        rcases List.mem_cons.1 hx with rfl | hx
        · rw [alnum_mem, hc]; rfl
        · exact h1 x hx
    · have h1 : ¬ ∀ x ∈ r, alnum.contains x = true := fun h => hr ((okFrom_iff (by decide)).2 h)
      have h2 : okFrom 1 r = false := by simpa using hr
      rw [h2]
      obtain ⟨x, hx, hn⟩ : ∃ x, x ∈ r ∧ alnum.contains x = false := by
        apply Classical.byContradiction
        intro hno
        exact h1 fun x hx => by
          cases hh : alnum.contains x
          · exact absurd ⟨x, hx, hh⟩ hno
          · rfl
      have := trim_some (List.mem_cons_of_mem c hx) hn
      cases e : Lib.trimS (c :: r) alnum
      · exact absurd e this
      · rfl
end Qm

/- The other telling of a name, walked. -/
namespace Go.Proofs.YtnkmonmkhmcgaaaGreatDoor
open Go.RowKit Qm

theorem bs_one {s : ByteArray} {c : UInt8} {r : List UInt8} (h : s.data.toList = c :: r) : s.extract 0 1 = ⟨#[c]⟩ := by
  have e : (s.extract 0 1).data.toList = [c] := by rw [Lib.extract_data, h]; simp
  generalize s.extract 0 1 = t at e
  obtain ⟨⟨l⟩⟩ := t
  simp at e
  subst e
  rfl

set_option maxHeartbeats 1600000 in
theorem rname_any (s : ByteArray) (w : World) (hs : s.size ≤ maxLen) :
    Calls Tryz.prog 27 #[.string s] w fun e w' => e = .returned (.bool (isName s.data.toList)) ∧ Below w.heap.size w w' := by
  unfold maxLen at hs
  have HSZ := Lib.hid (Lib.size_eq s)
  by_cases h0 : s.size = 0
  · have e0 : decide ((0 : Int) < (s.size : Int)) = false := decide_eq_false (by omega)
    go_enter Tryz.func27, Tryz.ntmps27
    go_wp2
    go_ret
    refine ⟨ret_bool ?_, Below.refl _ _⟩
    unfold isName
    rw [decide_eq_false (by have := HSZ.out; omega)]; rfl
  · have e0 : decide ((0 : Int) < (s.size : Int)) = true := by simp; omega
    by_cases h8 : 8 < s.size
    · have e8 : decide ((s.size : Int) ≤ 8) = false := by simp; omega
      go_enter Tryz.func27, Tryz.ntmps27
      go_wp2
      go_ret
      refine ⟨ret_bool ?_, Below.refl _ _⟩
      unfold isName
      rw [decide_eq_false (by have := HSZ.out; omega)]; rfl
    · have e8 : decide ((s.size : Int) ≤ 8) = true := by simp; omega
      obtain ⟨c, r, hcr⟩ : ∃ c r, s.data.toList = c :: r := by
        cases e : s.data.toList with
        | nil => have h := HSZ.out; rw [e, List.length_nil] at h; omega
        | cons c r => exact ⟨c, r, rfl⟩
      have htold := isName_told (c := c) (r := r) (by have := HSZ.out; rw [hcr] at this; omega)
      rw [← hcr] at htold
      have HT := Lib.hid htold; clear htold
      have hcon := fun wx => Tryz.strings_Contains_one ⟨letters.toArray⟩ c wx
      rw [show (⟨letters.toArray⟩ : ByteArray).data.toList = letters from by simp, letters_low, ← bs_one hcr] at hcon
      have h1 : (1 : Int) ≤ (s.size : Int) := by omega
      cases hlow : lowB c
      · rw [hlow] at hcon HT
        have HC := Lib.hid hcon; clear hcon
        go_enter Tryz.func27, Tryz.ntmps27
        go_wp2_with (first | (go_at_call 51; refine (HC.out _).mono ?_; rintro e w1 ⟨rfl, rfl⟩; refine Hid.out ?_))
        refine Lib.hid ?_
        go_wp2
        go_ret
        exact ⟨ret_bool (by rw [HT.out]; rfl), Below.refl _ _⟩
      · rw [hlow, Bool.true_and] at HT
        rw [hlow] at hcon
        have HC := Lib.hid hcon; clear hcon
        have htrim : ∀ wx, Calls Tryz.prog 52 #[.string s, .string ⟨alnum.toArray⟩] wx fun e w' => e = .returned (.string ⟨(Lib.trimS s.data.toList (⟨alnum.toArray⟩ : ByteArray).data.toList).toArray⟩) ∧ ∃ q, w' = ((wx.alloc (.cells (Lib.setCells (⟨alnum.toArray⟩ : ByteArray).data.toList) 110)).alloc (.cells (Lib.setCells (⟨alnum.toArray⟩ : ByteArray).data.toList) 110)).drewN q := fun wx => Any.strings_Trim_set Tryz.lays160 (zero_of_info (P := Tryz.prog) (t := 110) (v := .agg (Array.replicate 256 (.bool false))) (n := 256) (by kernel_rfl)).1 (by kernel_rfl) s ⟨alnum.toArray⟩ wx (by decide) (by omega) (by omega) (by decide) (fun j b h => by
          have hm := List.mem_of_getElem? h
          revert hm
          rw [show (⟨alnum.toArray⟩ : ByteArray).data.toList = alnum from by simp]
          intro hm
          exact (show ∀ b ∈ alnum, b.toNat < 128 by decide) b hm)
        rw [show (⟨alnum.toArray⟩ : ByteArray).data.toList = alnum from by simp] at htrim
        generalize Lib.trimS s.data.toList alnum = T at htrim HT
        have HTr := Lib.hid htrim; clear htrim
        have hT : (⟨T.toArray⟩ : ByteArray).toList.isEmpty = T.isEmpty := by rw [Lib.toList_data]
        go_enter Tryz.func27, Tryz.ntmps27
        go_wp2_with (first
          | (go_at_call 51; refine (HC.out _).mono ?_; rintro e w1 ⟨rfl, rfl⟩; refine Hid.out ?_)
          | (go_at_call 52; refine (HTr.out _).mono ?_; rintro e w1 ⟨rfl, n, rfl⟩; refine Hid.out ?_))
        refine Lib.hid ?_
        go_wp2_with (first
          | (go_at_call 52; refine (HTr.out _).mono ?_; rintro e w1 ⟨rfl, n, rfl⟩; refine Hid.out ?_))
        refine Lib.hid ?_
        go_wp2
        go_ret
        exact ⟨ret_bool (by rw [HT.out]), below_drewN (((Below.refl _ _).alloc (Nat.le_refl _) _).alloc (by simp) _) n⟩
end Go.Proofs.YtnkmonmkhmcgaaaGreatDoor

/- The other telling of an atom's check, walked. -/
namespace Go.Proofs.YtnkmonmkhmcgaaaGreatDoor
open Go.RowKit Qm

set_option maxHeartbeats 3200000 in
theorem rcheck_any (s f : ByteArray) (op ver slot : Int) (on : Bool) (w : World) (hs : s.size ≤ maxLen) (hf : f.size ≤ maxLen) :
    Calls Tryz.prog 28 #[atv s op ver slot f on] w fun e w' => e = .returned (.int .i64 (ckAtom (atOf s op ver slot f on))) ∧ Below w.heap.size w w' := by
  unfold atv
  have ba : Below w.heap.size w (w.alloc (.cells #[.string s, .int .i64 op, .int .i64 ver, .int .i64 slot, .string f, .bool on] 23)) := (Below.refl _ w).alloc (Nat.le_refl _) _
  have Ba := Lib.hid ba; clear ba
  cases hn : isName s.data.toList
  · skip
    go_enter Tryz.func28, Tryz.ntmps28
    go_wp2_with (first
      | (go_at_call 27; refine (rname_any _ _ hs).mono ?_; rintro e w1 ⟨rfl, hb1⟩; have c0 := box_cell hb1 (i := 0) rfl; have c1 := box_cell hb1 (i := 1) rfl; have c2 := box_cell hb1 (i := 2) rfl; have c3 := box_cell hb1 (i := 3) rfl; have c4 := box_cell hb1 (i := 4) rfl; have c5 := box_cell hb1 (i := 5) rfl; refine Hid.out ?_))
    refine Lib.hid ?_
    have HB := Lib.hid (Ba.out.trans (hb1.mono (by simp)))
    clear hb1
    go_wp2
    go_ret
    exact ⟨ret_int (ck1 (a := atOf s op ver slot f on) (.inl hn)).symm, HB.out⟩
  · by_cases h0 : f.data.toList = []
    · obtain ⟨e1, e2⟩ := empty_spell h0
      go_enter Tryz.func28, Tryz.ntmps28
      go_wp2_with (first
        | (go_at_call 27; refine (rname_any _ _ hs).mono ?_; rintro e w1 ⟨rfl, hb1⟩; have c0 := box_cell hb1 (i := 0) rfl; have c1 := box_cell hb1 (i := 1) rfl; have c2 := box_cell hb1 (i := 2) rfl; have c3 := box_cell hb1 (i := 3) rfl; have c4 := box_cell hb1 (i := 4) rfl; have c5 := box_cell hb1 (i := 5) rfl; refine Hid.out ?_))
      refine Lib.hid ?_
      have HB := Lib.hid (Ba.out.trans (hb1.mono (by simp)))
      clear hb1
      have H0 := Lib.hid h0
      have HG := Lib.hid (show ¬ (isName (atOf s op ver slot f on).nm = false ∨ (atOf s op ver slot f on).fl ≠ [] ∧ isName (atOf s op ver slot f on).fl = false) by simp [atOf, hn, h0])
      clear h0
      by_cases o1 : op < 0
      ·
        go_wp2
        go_ret
        exact ⟨ret_int (ck3 (a := atOf s _ _ slot f on) HG.out (by show _ ∨ _; simp only [atOf]; first | omega | exact .inr (.inl ⟨trivial, ‹_›⟩))).symm, HB.out⟩
      have o1' : decide (op < 0) = false := by simpa using o1
      by_cases o2 : 3 < op
      ·
        go_wp2
        go_ret
        exact ⟨ret_int (ck3 (a := atOf s _ _ slot f on) HG.out (by show _ ∨ _; simp only [atOf]; first | omega | exact .inr (.inl ⟨trivial, ‹_›⟩))).symm, HB.out⟩
      have o2' : decide (3 < op) = false := by simpa using o2
      by_cases s1 : slot < 0
      ·
        go_wp2
        go_ret
        exact ⟨ret_int (ck3 (a := atOf s _ _ slot f on) HG.out (by show _ ∨ _; simp only [atOf]; first | omega | exact .inr (.inl ⟨trivial, ‹_›⟩))).symm, HB.out⟩
      have s1' : decide (slot < 0) = false := by simpa using s1
      by_cases s2 : 9 < slot
      ·
        go_wp2
        go_ret
        exact ⟨ret_int (ck3 (a := atOf s _ _ slot f on) HG.out (by show _ ∨ _; simp only [atOf]; first | omega | exact .inr (.inl ⟨trivial, ‹_›⟩))).symm, HB.out⟩
      have s2' : decide (9 < slot) = false := by simpa using s2
      by_cases z : op = 0
      ·
        subst z
        by_cases v : ver = 0
        ·
          subst v
          cases on
          ·
            go_wp2
            go_ret
            exact ⟨ret_int (by rw [ck4 (a := atOf s _ _ slot f false) HG.out (by simp only [atOf]; omega)]; simp [atOf]), HB.out⟩
          ·
            go_wp2
            go_ret
            exact ⟨ret_int (by rw [ck4 (a := atOf s _ _ slot f true) HG.out (by simp only [atOf]; omega)]; simp [atOf, H0.out]), HB.out⟩
        ·
          have v1 : (ver == 0) = false := by simpa using v
          have v2 : (ver != 0) = true := by simpa using v
          go_wp2
          go_ret
          exact ⟨ret_int (ck3 (a := atOf s _ _ slot f on) HG.out (by show _ ∨ _; simp only [atOf]; first | omega | exact .inr (.inl ⟨trivial, ‹_›⟩))).symm, HB.out⟩
      ·
        have z1 : (op == 0) = false := by simpa using z
        have z2 : (op != 0) = true := by simpa using z
        by_cases v1 : ver < 1
        ·
          go_wp2
          go_ret
          exact ⟨ret_int (ck3 (a := atOf s _ _ slot f on) HG.out (by show _ ∨ _; simp only [atOf]; first | omega | exact .inr (.inl ⟨trivial, ‹_›⟩))).symm, HB.out⟩
        have v1' : decide (ver < 1) = false := by simpa using v1
        by_cases v2 : 99 < ver
        ·
          go_wp2
          go_ret
          exact ⟨ret_int (ck3 (a := atOf s _ _ slot f on) HG.out (by show _ ∨ _; simp only [atOf]; first | omega | exact .inr (.inl ⟨trivial, ‹_›⟩))).symm, HB.out⟩
        have v2' : decide (99 < ver) = false := by simpa using v2
        cases on
        ·
          go_wp2
          go_ret
          exact ⟨ret_int (by rw [ck4 (a := atOf s _ _ slot f false) HG.out (by simp only [atOf]; omega)]; simp [atOf]), HB.out⟩
        ·
          go_wp2
          go_ret
          exact ⟨ret_int (by rw [ck4 (a := atOf s _ _ slot f true) HG.out (by simp only [atOf]; omega)]; simp [atOf, H0.out]), HB.out⟩
    · obtain ⟨e1, e2⟩ := full_spell h0
      cases hn2 : isName f.data.toList
      · skip
        go_enter Tryz.func28, Tryz.ntmps28
        go_wp2_with (first
          | (go_at_call 27; refine (rname_any _ _ hs).mono ?_; rintro e w1 ⟨rfl, hb1⟩; have c0 := box_cell hb1 (i := 0) rfl; have c1 := box_cell hb1 (i := 1) rfl; have c2 := box_cell hb1 (i := 2) rfl; have c3 := box_cell hb1 (i := 3) rfl; have c4 := box_cell hb1 (i := 4) rfl; have c5 := box_cell hb1 (i := 5) rfl; refine Hid.out ?_))
        refine Lib.hid ?_
        go_wp2_with (first
          | (go_at_call 27; refine (rname_any _ _ hf).mono ?_; rintro e w2 ⟨rfl, hb2⟩; replace c0 := (hb2.cell (World.block_lt_of_cell? _ _ c0)).trans c0; replace c1 := (hb2.cell (World.block_lt_of_cell? _ _ c1)).trans c1; replace c2 := (hb2.cell (World.block_lt_of_cell? _ _ c2)).trans c2; replace c3 := (hb2.cell (World.block_lt_of_cell? _ _ c3)).trans c3; replace c4 := (hb2.cell (World.block_lt_of_cell? _ _ c4)).trans c4; replace c5 := (hb2.cell (World.block_lt_of_cell? _ _ c5)).trans c5; refine Hid.out ?_))
        refine Lib.hid ?_
        have HB := Lib.hid (Ba.out.trans ((hb1.mono (by simp)).trans (hb2.mono (Nat.le_trans (by simp) hb1.size))))
        clear hb1 hb2
        go_wp2
        go_ret
        exact ⟨ret_int (ck1 (a := atOf s op ver slot f on) (.inr ⟨h0, hn2⟩)).symm, HB.out⟩
      · skip
        go_enter Tryz.func28, Tryz.ntmps28
        go_wp2_with (first
          | (go_at_call 27; refine (rname_any _ _ hs).mono ?_; rintro e w1 ⟨rfl, hb1⟩; have c0 := box_cell hb1 (i := 0) rfl; have c1 := box_cell hb1 (i := 1) rfl; have c2 := box_cell hb1 (i := 2) rfl; have c3 := box_cell hb1 (i := 3) rfl; have c4 := box_cell hb1 (i := 4) rfl; have c5 := box_cell hb1 (i := 5) rfl; refine Hid.out ?_))
        refine Lib.hid ?_
        go_wp2_with (first
          | (go_at_call 27; refine (rname_any _ _ hf).mono ?_; rintro e w2 ⟨rfl, hb2⟩; replace c0 := (hb2.cell (World.block_lt_of_cell? _ _ c0)).trans c0; replace c1 := (hb2.cell (World.block_lt_of_cell? _ _ c1)).trans c1; replace c2 := (hb2.cell (World.block_lt_of_cell? _ _ c2)).trans c2; replace c3 := (hb2.cell (World.block_lt_of_cell? _ _ c3)).trans c3; replace c4 := (hb2.cell (World.block_lt_of_cell? _ _ c4)).trans c4; replace c5 := (hb2.cell (World.block_lt_of_cell? _ _ c5)).trans c5; refine Hid.out ?_))
        refine Lib.hid ?_
        have HB := Lib.hid (Ba.out.trans ((hb1.mono (by simp)).trans (hb2.mono (Nat.le_trans (by simp) hb1.size))))
        clear hb1 hb2
        have H0 := Lib.hid h0
        have HG := Lib.hid (show ¬ (isName (atOf s op ver slot f on).nm = false ∨ (atOf s op ver slot f on).fl ≠ [] ∧ isName (atOf s op ver slot f on).fl = false) by simp [atOf, hn, hn2])
        clear h0
        by_cases o1 : op < 0
        ·
          go_wp2
          go_ret
          exact ⟨ret_int (ck3 (a := atOf s _ _ slot f on) HG.out (by show _ ∨ _; simp only [atOf]; first | omega | exact .inr (.inl ⟨trivial, ‹_›⟩))).symm, HB.out⟩
        have o1' : decide (op < 0) = false := by simpa using o1
        by_cases o2 : 3 < op
        ·
          go_wp2
          go_ret
          exact ⟨ret_int (ck3 (a := atOf s _ _ slot f on) HG.out (by show _ ∨ _; simp only [atOf]; first | omega | exact .inr (.inl ⟨trivial, ‹_›⟩))).symm, HB.out⟩
        have o2' : decide (3 < op) = false := by simpa using o2
        by_cases s1 : slot < 0
        ·
          go_wp2
          go_ret
          exact ⟨ret_int (ck3 (a := atOf s _ _ slot f on) HG.out (by show _ ∨ _; simp only [atOf]; first | omega | exact .inr (.inl ⟨trivial, ‹_›⟩))).symm, HB.out⟩
        have s1' : decide (slot < 0) = false := by simpa using s1
        by_cases s2 : 9 < slot
        ·
          go_wp2
          go_ret
          exact ⟨ret_int (ck3 (a := atOf s _ _ slot f on) HG.out (by show _ ∨ _; simp only [atOf]; first | omega | exact .inr (.inl ⟨trivial, ‹_›⟩))).symm, HB.out⟩
        have s2' : decide (9 < slot) = false := by simpa using s2
        by_cases z : op = 0
        ·
          subst z
          by_cases v : ver = 0
          ·
            subst v
            cases on
            ·
              go_wp2
              go_ret
              exact ⟨ret_int (by rw [ck4 (a := atOf s _ _ slot f _) HG.out (by simp only [atOf]; omega)]; simp [atOf, H0.out]), HB.out⟩
            ·
              go_wp2
              go_ret
              exact ⟨ret_int (by rw [ck4 (a := atOf s _ _ slot f _) HG.out (by simp only [atOf]; omega)]; simp [atOf, H0.out]), HB.out⟩
          ·
            have v1 : (ver == 0) = false := by simpa using v
            have v2 : (ver != 0) = true := by simpa using v
            go_wp2
            go_ret
            exact ⟨ret_int (ck3 (a := atOf s _ _ slot f on) HG.out (by show _ ∨ _; simp only [atOf]; first | omega | exact .inr (.inl ⟨trivial, ‹_›⟩))).symm, HB.out⟩
        ·
          have z1 : (op == 0) = false := by simpa using z
          have z2 : (op != 0) = true := by simpa using z
          by_cases v1 : ver < 1
          ·
            go_wp2
            go_ret
            exact ⟨ret_int (ck3 (a := atOf s _ _ slot f on) HG.out (by show _ ∨ _; simp only [atOf]; first | omega | exact .inr (.inl ⟨trivial, ‹_›⟩))).symm, HB.out⟩
          have v1' : decide (ver < 1) = false := by simpa using v1
          by_cases v2 : 99 < ver
          ·
            go_wp2
            go_ret
            exact ⟨ret_int (ck3 (a := atOf s _ _ slot f on) HG.out (by show _ ∨ _; simp only [atOf]; first | omega | exact .inr (.inl ⟨trivial, ‹_›⟩))).symm, HB.out⟩
          have v2' : decide (99 < ver) = false := by simpa using v2
          cases on
          ·
            go_wp2
            go_ret
            exact ⟨ret_int (by rw [ck4 (a := atOf s _ _ slot f _) HG.out (by simp only [atOf]; omega)]; simp [atOf, H0.out]), HB.out⟩
          ·
            go_wp2
            go_ret
            exact ⟨ret_int (by rw [ck4 (a := atOf s _ _ slot f _) HG.out (by simp only [atOf]; omega)]; simp [atOf, H0.out]), HB.out⟩
end Go.Proofs.YtnkmonmkhmcgaaaGreatDoor
