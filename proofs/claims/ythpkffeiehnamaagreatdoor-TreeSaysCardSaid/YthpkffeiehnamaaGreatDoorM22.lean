/- Parts of the proof: walks and plain laws, side by side. -/
import Derived.Test.YthpkffeiehnamaaGreatDoorProg
import Derived.Test.YthpkffeiehnamaaGreatDoorM21
import Derived.Laws.EntriesVeiled
import Derived.Deep.RegionLaw
import Derived.Deep.Cut
import Derived.Test.YthpkffeiehnamaaGreatDoorM18
import Derived.Test.YthpkffeiehnamaaGreatDoorM14
import Derived.Maps.OwnSet
import Derived.Lib.ParseIntBTie
set_option linter.unusedVariables false
set_option linter.unusedSimpArgs false
set_option linter.unusedSectionVars false
/- The closures of quartermasterref.ReadNeed, walked. -/
namespace Go.Proofs.YthpkffeiehnamaaGreatDoor
open Go.RowKit Qm

set_option maxHeartbeats 1600000 in
theorem rnbad_any (w : World) :
    Calls Tryz.prog 96 #[] w fun e w' => e = .returned (.tuple #[.agg #[.int .i64 0, .string ⟨#[]⟩, .int .i64 0, .int .i64 0, .int .i64 0, .string ⟨#[]⟩, .bool false, .string ⟨#[]⟩, .bool false, .slice none 0 0], .int .i64 1]) ∧ Below w.heap.size w w' := by
  go_enter Tryz.func96, Tryz.ntmps96
  go_wp2
  refine bodyPost_ret (v := .tuple #[.agg #[_, _, _, _, _, _, _, _, _, _], .int .i64 _]) (by simp [results, Tryz.results96, go_sem]) rfl ⟨rfl, ?_⟩
  exact (Below.refl _ _).alloc (Nat.le_refl _) _

/-- The boxes of 'open' and 'whole', and what stands open. -/
structure Bo (B BO BW : Nat) (fs : List Fr) (hs : List Hd) (A : Option Addr) (c : Nat) (wh : Value) (w : World) : Prop where
  o : Whole w BO 55 [.slice A fs.length c]
  h : Whole w BW 141 [wh]
  op : Op B fs hs A c w
  lo : BO < B
  lh : BW < B
  ne : BO ≠ BW
section
variable {B BO BW c : Nat} {fs : List Fr} {hs : List Hd} {A : Option Addr} {wh : Value} {w w' : World}
theorem Bo.below (h : Bo B BO BW fs hs A c wh w) (hb : Below w.heap.size w w') : Bo B BO BW fs hs A c wh w' :=
  ⟨h.o.below hb h.o.lt, h.h.below hb h.h.lt, h.op.below hb, h.lo, h.lh, h.ne⟩
end
set_option maxHeartbeats 1600000 in
theorem rput_nil {B BO BW c : Nat} {A : Option Addr} {wh : Value} (x : List Value) (w : World) (hx : x.length = 10) (h : Bo B BO BW [] [] A c wh w) :
    Calls Tryz.prog 97 #[.agg x.toArray, .pointer (some ⟨BO, 0, none⟩), .pointer (some ⟨BW, 0, none⟩)] w fun e w' => e = .returned (.bool true) ∧
      Bo B BO BW [] [] A c (.pointer (some ⟨w.heap.size, 0, none⟩)) w' ∧ Whole w' w.heap.size 57 x ∧ Far (fun i => i = BW) w w' := by
  have HN := Lib.hid (Whole.new w _ 57 x rfl)
  have HB := Lib.hid (h.below ((Below.refl _ _).alloc (Nat.le_refl _) (.cells x.toArray 57)))
  have HF : Hid (Far (fun i => i = BW) w (w.alloc (.cells x.toArray 57))) := Lib.hid (Far.of_below _ ((Below.refl _ _).alloc (Nat.le_refl _) _))
  have H := Lib.hid h
  have o0 := h.o.cell 0
  have o1 := h.h.cell 0
  have o2 := h.h.lt
  have o3 := h.o.lt
  have o4 := h.h.free 0
  simp only [List.getElem?_cons_zero, List.length_nil] at o0 o1
  match x, hx with
  | [v0, v1, v2, v3, v4, v5, v6, v7, v8, v9], _ =>
    clear h hx
    go_enter Tryz.func97, Tryz.ntmps97
    go_wp2_with fail
    go_ret
    have f1 : Far (fun i => i = BW) w ((w.setCell ⟨BW, 0, none⟩ (.pointer (some ⟨w.heap.size, 0, none⟩))).alloc (.cells #[v0, v1, v2, v3, v4, v5, v6, v7, v8, v9] 57)) :=
      (Far.set_ (D := fun i => i = BW) rfl 0 _).trans (Far.of_below (fun _ => False) ((Below.refl _ _).alloc (Nat.le_refl _) _)) fun _ _ h => h.elim
    have hne := H.out.ne
    have hlh := H.out.lh
    exact ⟨rfl, ⟨f1.whole H.out.o (fun e => hne e), (H.out.h.set_ 0 _).alloc _, H.out.op.far (f1.mono fun i e => by omega), H.out.lo, hlh, hne⟩, Whole.new (w.setCell ⟨BW, 0, none⟩ (.pointer (some ⟨w.heap.size, 0, none⟩))) _ _ _ (by simp [World.setCell]), f1⟩
/-- A cell of an owned row. -/
theorem own_cell {w : World} {base : Nat} {e : TypeId} {size n c b : Nat} {xs : List Value} (ho : w.ownsRow base e size (.slice (some ⟨b, 0, none⟩) n c) n xs) {p : Nat} (hp : p < n * size) : w.cell? ⟨b, p, none⟩ = xs[p]? ∧ w.frozen? ⟨b, p, none⟩ = false := by
  rcases ho.2 with ⟨h0, _⟩ | ⟨g, cap, cur, hv, hb, hh, hc, hm, hs, ht⟩
  · cases h0
  · injection hv with e1 e2 e3
    injection e1 with e1; injection e1 with e1
    subst e1 e3
    have hW : Whole w b e cur.toList := by unfold Whole; simpa using hh
    exact ⟨by rw [hW.cell, ← ht, List.getElem?_take_of_lt hp], hW.free p⟩
theorem need_info2 : (Tryz.prog.info? 57).map (fun i => (i.zero, i.size, i.bytes)) = some (some (.agg #[.int .i64 0, .string ⟨#[]⟩, .int .i64 0, .int .i64 0, .int .i64 0, .string ⟨#[]⟩, .bool false, .string ⟨#[]⟩, .bool false, .slice none 0 0]), 10, 120) := by kernel_rfl
theorem bel3 (w : World) (o1 o2 o3 : Obj) : Below w.heap.size w (((w.alloc o1).alloc o2).alloc o3) := (((Below.refl _ w).alloc (Nat.le_refl _) _).alloc (by simp) _).alloc (by simp; omega) _
theorem bel3d (w : World) (o1 o2 o3 : Obj) : Below w.heap.size w ((((w.alloc o1).alloc o2).alloc o3).drew.drew) := below_drewN (below_drewN (bel3 w o1 o2 o3) 1) 1
theorem ncells3d (w : World) (o1 o2 : Obj) (xs : List Value) (t : TypeId) : ∀ j u, xs[j]? = some u → ((((w.alloc o1).alloc o2).alloc (.cells xs.toArray t)).drew.drew).cell? ((⟨w.heap.size + 1 + 1, 0, none⟩ : Addr).add j) = some u := by
  intro j u hj
  have h := (Whole.new ((w.alloc o1).alloc o2) (w.heap.size + 1 + 1) t xs (by simp)).cell j
  have hadd : (⟨w.heap.size + 1 + 1, 0, none⟩ : Addr).add j = ⟨w.heap.size + 1 + 1, j, none⟩ := by unfold Addr.add; split <;> simp_all
  rw [hadd, ← hj, ← h]; rfl
theorem bel3e (w : World) (o1 o2 o3 : Obj) : Below w.heap.size w ((((w.alloc o1).alloc o2).alloc o3).drew) := below_drewN (bel3 w o1 o2 o3) 1
theorem ncells3e (w : World) (o1 o2 : Obj) (xs : List Value) (t : TypeId) : ∀ j u, xs[j]? = some u → ((((w.alloc o1).alloc o2).alloc (.cells xs.toArray t)).drew).cell? ((⟨w.heap.size + 1 + 1, 0, none⟩ : Addr).add j) = some u := ncells3d w o1 o2 xs t
theorem grown_undrew {w w' : World} {row : Option Nat} (h : w.drew.grownBy w' row) : w.grownBy w' row := ⟨h.os, h.tape, h.output, h.size, h.block⟩
theorem own_bel {w w' : World} {base : Nat} {e : TypeId} {size : Nat} {v : Value} {n : Nat} {xs : List Value} (h : w.ownsRow base e size v n xs) (hb : Below w.heap.size w w') : w'.ownsRow base e size v n xs :=
  h.kept (grown_of_below hb none) (by cases hv : v.ownBlock <;> simp)
/-- Behind the append to the top one's kids. -/
structure Aft (B BO BW : Nat) (g : Fr) (gs : List Fr) (hd : Hd) (hs : List Hd) (b c : Nat) (wh : Value) (w wx w8 : World) : Prop where
  op : Op B (g :: gs) (hd :: hs) (some ⟨b, 0, none⟩) c wx
  lt : b < w8.heap.size
  cell : w8.cell? ⟨b, gs.length * 10 + 9, none⟩ = some (.slice hd.1 g.ys.length hd.2)
  free : w8.frozen? ⟨b, gs.length * 10 + 9, none⟩ = false
  far : Far (fun i => B ≤ i) w w8
theorem Aft.mk_ {B BO BW : Nat} {g : Fr} {gs : List Fr} {hd : Hd} {hs : List Hd} {b c : Nat} {wh : Value} {w wx w8 : World} (h : Bo B BO BW (g :: gs) (hd :: hs) (some ⟨b, 0, none⟩) c wh w) (hb : Below w.heap.size w wx)
    (hg8 : wx.grownBy w8 (Value.slice hd.1 g.ys.length hd.2).ownBlock) : Aft B BO BW g gs hd hs b c wh w wx w8 := by
  have ho := h.op.below hb
  have hl := ho.kids.2.len
  have hnd := ho.nodup
  rw [obs_eq, nd2] at hnd
  have n4 : ¬ hd.1.map (·.block) = some b := fun e => hnd.2.2 b rfl e
  have f1 : Far (fun i => hd.1.map (·.block) = some i) wx w8 := Far.of_grown hg8 fun i e => ob_own.1 e.symm
  have ho8 := f1.own ho.own (fun i e => by have := ob_own.1 e; simp at this; subst this; exact n4)
  have hc := own_cell ho8 (p := gs.length * 10 + 9) (by simp; omega)
  have hrow : (frows (g :: gs) (hd :: hs))[gs.length * 10 + 9]? = some (.slice hd.1 g.ys.length hd.2) := by
    simp only [frows]
    rw [List.getElem?_append_right (by rw [frows_len hl]; omega), frows_len hl, Nat.add_sub_cancel_left]
    rfl
  rw [hrow] at hc
  refine ⟨ho, (ho8.lt b rfl).2, hc.1, hc.2, (Far.of_below _ hb).trans f1 fun i hi e => ?_⟩
  exact (ho.kids.ge hd (List.mem_cons_self ..) i e).1
/-- The end of a put into what stands open. -/
theorem put_end {B BO BW c c8 b : Nat} {wh : Value} {g : Fr} {gs : List Fr} {hd : Hd} {hs : List Hd} {A8 : Option Addr} {x : List Value} {n : Nd} {w wx w8 : World} {cs : List (List Value)} (h : Bo B BO BW (g :: gs) (hd :: hs) (some ⟨b, 0, none⟩) c wh w) (hB : B ≤ w.heap.size)
    (hbel : Below w.heap.size w wx) (hx : RNd wx (Fre wx B (some ⟨b, 0, none⟩) (hd :: hs)) x n) (k1 : cs.length = g.ys.length)
    (k3 : ∀ (i : Nat) (x : List Value) (y : Nd), cs[i]? = some x → g.ys[i]? = some y → RNd w (Fre w B (some ⟨b, 0, none⟩) (hd :: hs)) x y)
    (hown8 : w8.ownsRow B 57 10 (.slice A8 (g.ys.length + 1) c8) (g.ys.length + 1) (cs.flatten ++ x)) (hg8 : wx.grownBy w8 (Value.slice hd.1 g.ys.length hd.2).ownBlock)
    (hv8 : (Value.slice A8 (g.ys.length + 1) c8).ownBlock = (Value.slice hd.1 g.ys.length hd.2).ownBlock ∨ (Value.slice A8 (g.ys.length + 1) c8).ownBlock = some wx.heap.size) :
    Bo B BO BW (g.push n :: gs) ((A8, c8) :: hs) (some ⟨b, 0, none⟩) c wh (w8.setCell ⟨b, gs.length * 10 + 9, none⟩ (.slice A8 (g.ys.length + 1) c8)) ∧ Far (fun i => B ≤ i) w (w8.setCell ⟨b, gs.length * 10 + 9, none⟩ (.slice A8 (g.ys.length + 1) c8)) ∧
      (∀ {x : List Value} {y : Nd}, RNd w (Fre w B (some ⟨b, 0, none⟩) (hd :: hs)) x y → RNd (w8.setCell ⟨b, gs.length * 10 + 9, none⟩ (.slice A8 (g.ys.length + 1) c8)) (Fre (w8.setCell ⟨b, gs.length * 10 + 9, none⟩ (.slice A8 (g.ys.length + 1) c8)) B (some ⟨b, 0, none⟩) ((A8, c8) :: hs)) x y) ∧ ¬ A8.map (·.block) = some b := by
  have ho := h.op.below hbel
  have hA := Aft.mk_ h hbel hg8
  have hF : ∀ i, Fre w B (some ⟨b, 0, none⟩) (hd :: hs) i → Fre wx B (some ⟨b, 0, none⟩) (hd :: hs) i := fun i hi => ⟨hi.1, Nat.lt_of_lt_of_le hi.2.1 hbel.size, hi.2.2⟩
  have mv : ∀ {x : List Value} {y : Nd}, RNd w (Fre w B (some ⟨b, 0, none⟩) (hd :: hs)) x y → RNd wx (Fre wx B (some ⟨b, 0, none⟩) (hd :: hs)) x y := fun hr => (hr.under hbel fun i hi => hi.2.1).more hF
  have hp := ho.push hx k1 (fun i x y a b => mv (k3 i x y a b)) hown8 hg8 hv8
  have f2 : Far (fun i => B ≤ i) w8 (w8.setCell ⟨b, gs.length * 10 + 9, none⟩ (.slice A8 (g.ys.length + 1) c8)) := Far.set_ (D := fun i => B ≤ i) (h.op.own.lt b rfl).1 _ _
  have f := hA.far.trans f2 fun _ _ e => e
  exact ⟨⟨f.whole h.o (by have := h.lo; omega), f.whole h.h (by have := h.lh; omega), hp.1, h.lo, h.lh, h.ne⟩, f, fun hr => hp.2.1 (mv hr), hp.2.2⟩
theorem own_top {w : World} {base : Nat} {e : TypeId} {k c b : Nat} {ys z : List Value} (ho : w.ownsRow base e 10 (.slice (some ⟨b, 0, none⟩) (k + 1) c) (k + 1) (ys ++ z)) (hy : ys.length = k * 10) {i : Nat} (hi : i < 10) : w.cell? ⟨b, k * 10 + i, none⟩ = z[i]? ∧ w.frozen? ⟨b, k * 10 + i, none⟩ = false := by
  have h := own_cell ho (p := k * 10 + i) (by omega)
  rw [List.getElem?_append_right (by omega), hy, Nat.add_sub_cancel_left] at h
  exact h
theorem RNd.zero_ {w : World} {F : Nat → Prop} : RNd w F [.int .i64 0, .string ⟨#[]⟩, .int .i64 0, .int .i64 0, .int .i64 0, .string ⟨#[]⟩, .bool false, .string ⟨#[]⟩, .bool false, .slice none 0 0] Nd.zero :=
  RNd.shut (k := 0) (a := At.zero) (f := []) (no := false) (ks := []) (Nat.le_refl _) (Nat.zero_le _) (Nat.zero_le _) (Nat.zero_le _) (Nat.zero_le _) RKids.nil_
theorem own_block {w : World} {base : Nat} {e : TypeId} {size n c : Nat} {A : Option Addr} {xs : List Value} (ho : w.ownsRow base e size (.slice A n c) n xs) (hn : 0 < n) : ∃ b, A = some ⟨b, 0, none⟩ := by
  rcases ho.2 with ⟨_, h0⟩ | ⟨b, cap, cur, hv, _⟩
  · omega
  · injection hv with hv; exact ⟨b, hv⟩
set_option maxRecDepth 100000 in
set_option maxHeartbeats 3200000 in
theorem rput_cons {B BO BW c : Nat} {A : Option Addr} {wh : Value} {g : Fr} {gs : List Fr} {hd : Hd} {hs : List Hd} (x : List Value) (n : Nd) (w : World) (h : Bo B BO BW (g :: gs) (hd :: hs) A c wh w) (hx : RNd w (Fre w B A (hd :: hs)) x n) (hB : B ≤ w.heap.size)
    (hg : gs.length ≤ 10) (hk : g.ys.length ≤ 40000) :
    Calls Tryz.prog 97 #[.agg x.toArray, .pointer (some ⟨BO, 0, none⟩), .pointer (some ⟨BW, 0, none⟩)] w fun e w' => e = .returned (.bool true) ∧
      ∃ hd', Bo B BO BW (g.push n :: gs) (hd' :: hs) A c wh w' ∧ Far (fun i => B ≤ i) w w' := by
  obtain ⟨b, rfl⟩ : ∃ b, A = some ⟨b, 0, none⟩ := by
    rcases h.op.own.2 with ⟨_, h0⟩ | ⟨b, cap, cur, hv, _⟩
    · simp at h0
    · injection hv with hv; exact ⟨b, hv⟩
  have hl := h.op.kids.2.len
  have hc9 := own_cell h.op.own (p := gs.length * 10 + 9) (by simp; omega)
  have hrow : (frows (g :: gs) (hd :: hs))[gs.length * 10 + 9]? = some (.slice hd.1 g.ys.length hd.2) := by
    simp only [frows]
    rw [List.getElem?_append_right (by rw [frows_len hl]; omega), frows_len hl, Nat.add_sub_cancel_left]
    rfl
  rw [hrow] at hc9
  obtain ⟨hc9, hf9⟩ := hc9
  obtain ⟨hbl1, hbl2⟩ := h.op.own.lt b rfl
  obtain ⟨k, a, f, no, ks⟩ := n
  obtain ⟨A1, n1, c1, rfl, -⟩ := hx.open_
  obtain ⟨nm, op, ver, slot, fl, on⟩ := a
  have HN := Lib.hid (Whole.new w _ 57 (ndRow k ⟨nm, op, ver, slot, fl, on⟩ f no A1 n1 c1) rfl)
  have HX := Lib.hid hx
  have H := Lib.hid h
  have o0 := h.o.cell 0
  have o1 := h.o.lt
  simp only [List.getElem?_cons_zero, List.length_cons] at o0
  obtain ⟨cs, kk1, kk2, kk3, kk4⟩ := h.op.kids.1
  have HK2 := Lib.hid kk2; have HK3 := Lib.hid kk3; have HK1 := Lib.hid kk1
  clear kk1 kk2 kk3 kk4 hrow h hx hl
  obtain ⟨m, hm⟩ : ∃ m, gs.length = m := ⟨_, rfl⟩
  rw [hm] at hc9 hf9 o0 hg
  obtain ⟨q, hq⟩ : ∃ q, g.ys.length = q := ⟨_, rfl⟩
  rw [hq] at hc9 hk HK2
  have HM := Lib.hid hm; have HQ := Lib.hid hq
  clear hm hq
  obtain ⟨A2, c2⟩ := hd
  simp only at hc9 HK2
  obtain ⟨i0, hi, hz0, hz1, hz2⟩ : ∃ i0, Tryz.prog.info? 57 = some i0 ∧ i0.zero = some (.agg #[.int .i64 0, .string ⟨#[]⟩, .int .i64 0, .int .i64 0, .int .i64 0, .string ⟨#[]⟩, .bool false, .string ⟨#[]⟩, .bool false, .slice none 0 0]) ∧ i0.size = 10 ∧ i0.bytes = 120 := by
    have h := need_info2
    cases hh : Tryz.prog.info? 57 with
    | none => rw [hh] at h; simp at h
    | some i => rw [hh] at h; simp at h; exact ⟨i, rfl, h.1, h.2.1, h.2.2⟩
  have Hi := Lib.hid hi; have Hz0 := Lib.hid hz0; have Hz1 := Lib.hid hz1; have Hz2 := Lib.hid hz2
  clear hi hz0 hz1 hz2
  unfold ndRow at HN HX ⊢
  have hc9' : ∀ o1 o2 o3 : Obj, (((w.alloc o1).alloc o2).alloc o3).cell? ⟨b, m * 10 + 9, none⟩ = some (.slice A2 q c2) := fun o1 o2 o3 => ((bel3 w o1 o2 o3).cell (p := ⟨b, m * 10 + 9, none⟩) hbl2).trans hc9
  go_enter Tryz.func97, Tryz.ntmps97
  go_wp2_with fail
  go_region
  · go_wp2_with fail
    go_region_law (refine step_append_own rfl (.tmp 31) (.tmp 33) 55 rfl B 57 i0 (.agg #[.int .i64 0, .string ⟨#[]⟩, .int .i64 0, .int .i64 0, .int .i64 0, .string ⟨#[]⟩, .bool false, .string ⟨#[]⟩, .bool false, .slice none 0 0]) 10 120 Tryz.underlying55 Hi.out Hz0.out Hz1.out Hz2.out rfl (by decide) (.slice A2 q c2) q cs.flatten (by simp [Act.eval, Act.put]) (own_bel HK2.out (bel3d _ _ _ _)) ⟨w.heap.size + 1 + 1, 0, none⟩ 1 1 [.int .i64 k, .string ⟨nm.toArray⟩, .int .i64 op, .int .i64 ver, .int .i64 slot, .string ⟨fl.toArray⟩, .bool on, .string ⟨f.toArray⟩, .bool no, .slice A1 n1 c1] (by simp [Act.eval, Act.put]) rfl (ncells3d _ _ _ _ _) (by simp [Value.oneCell']) (by unfold maxLen; omega) (by omega) (by simp; omega) ?_; intro v' w8 hown8 hg8 _ hv8; obtain ⟨A8, c8, rfl, _⟩ := own_formK hown8; have HG8 := Lib.hid (grown_undrew (grown_undrew hg8)); have HO8 := Lib.hid hown8; have HV8 := Lib.hid hv8; have HA8 := Lib.hid (Aft.mk_ H.out (bel3 w _ _ _) (by rw [HQ.out]; exact HG8.out)); clear hown8 hg8 hv8; have q1 := HA8.out.lt; have q2 := HA8.out.cell; have q3 := HA8.out.free; rw [HM.out] at q2 q3; rw [HQ.out] at q2)
    all_goals go_wp2_with fail
    all_goals go_ret
    all_goals (
      have he := put_end (n := .mk k ⟨nm, op, ver, slot, fl, on⟩ f no ks) H.out hB (bel3 w _ _ _) ((HX.out.under (bel3 w _ _ _) fun i hi => hi.2.1).more fun i hi => ⟨hi.1, Nat.lt_of_lt_of_le hi.2.1 (bel3 w _ _ _).size, hi.2.2⟩) HK1.out HK3.out (by rw [HQ.out]; exact HO8.out) (by rw [HQ.out]; exact HG8.out) (by rw [HQ.out]; simpa using HV8.out)
      rw [HM.out, HQ.out] at he
      first | exact ⟨rfl, ⟨_, he.1⟩, he.2.1⟩ | exact ⟨rfl, ⟨_, _, he.1⟩, he.2.1⟩)
  · go_upto_region 7 with (first | (at_builtin; refine wpList_append_own_at _ rfl (.tmp 19) (.tmp 21) 55 rfl B 57 i0 (.agg #[.int .i64 0, .string ⟨#[]⟩, .int .i64 0, .int .i64 0, .int .i64 0, .string ⟨#[]⟩, .bool false, .string ⟨#[]⟩, .bool false, .slice none 0 0]) 10 120 Tryz.underlying55 Hi.out Hz0.out Hz1.out Hz2.out rfl (by decide) (.slice A2 q c2) q cs.flatten rfl (own_bel HK2.out (bel3e _ _ _ _)) ⟨w.heap.size + 1 + 1, 0, none⟩ 1 1 [.int .i64 0, .string ⟨#[]⟩, .int .i64 0, .int .i64 0, .int .i64 0, .string ⟨#[]⟩, .bool false, .string ⟨#[]⟩, .bool false, .slice none 0 0] rfl rfl (ncells3e _ _ _ _ _) (by simp [Value.oneCell']) (by unfold maxLen; omega) (by omega) (by simp; omega) ?_))
    intro v' w8 hown8 hg8 _ hv8
    obtain ⟨A8, c8, rfl, _⟩ := own_formK hown8
    obtain ⟨b8, rfl⟩ := own_block hown8 (by omega)
    have HG8 := Lib.hid (grown_undrew hg8); have HO8 := Lib.hid hown8; have HV8 := Lib.hid hv8
    have HA8 := Lib.hid (Aft.mk_ H.out (bel3 w _ _ _) (by rw [HQ.out]; exact HG8.out))
    clear hown8 hg8 hv8
    have q1 := HA8.out.lt; have q2 := HA8.out.cell; have q3 := HA8.out.free
    rw [HM.out] at q2 q3; rw [HQ.out] at q2
    go_upto_region 7 with fail
    have he := put_end (n := Nd.zero) H.out hB (bel3 w _ _ _) RNd.zero_ HK1.out HK3.out (by rw [HQ.out]; exact HO8.out) (by rw [HQ.out]; exact HG8.out) (by rw [HQ.out]; simpa using HV8.out)
    rw [HM.out, HQ.out] at he
    have hA2 : ∀ i, (Value.slice A2 q c2).ownBlock = some i → i < w.heap.size := fun i e => (HK2.out.lt i e).2
    have hN8 := ((HN.out.alloc (.cells #[.bool true] 4)).alloc (.cells #[.int .i64 0, .string ⟨#[]⟩, .int .i64 0, .int .i64 0, .int .i64 0, .string ⟨#[]⟩, .bool false, .string ⟨#[]⟩, .bool false, .slice none 0 0] 57)).grown HG8.out (fun e => by have := hA2 _ e.symm; omega)
    have hN9 := hN8.far (p := ⟨b, m * 10 + 9, none⟩) (by show w.heap.size ≠ b; omega) (.slice (some ⟨b8, 0, none⟩) (q + 1) c8)
    clear q1 q2 q3 hN8
    have hX9 := he.2.2.1 HX.out
    have hb8 : b8 ≠ b := fun e => he.2.2.2 (by rw [e]; rfl)
    have hO9 := (Far.set_ (D := fun i => i = b) (w := w8) (b := b) rfl (m * 10 + 9) (.slice (some ⟨b8, 0, none⟩) (q + 1) c8)).own HO8.out (fun g e => by simp [Value.ownBlock] at e; omega)
    have HE := Lib.hid he.1; have HF9 := Lib.hid he.2.1
    clear he hb8
    generalize w8.setCell _ _ = w9 at HE HF9 hN9 hX9 hO9 ⊢
    have HX9 := Lib.hid hX9; have hlf := HK2.out.1
    obtain ⟨z0, y0⟩ := own_top hO9 hlf (i := 0) (by decide); obtain ⟨z1, y1⟩ := own_top hO9 hlf (i := 1) (by decide); obtain ⟨z2, y2⟩ := own_top hO9 hlf (i := 2) (by decide); obtain ⟨z3, y3⟩ := own_top hO9 hlf (i := 3) (by decide); obtain ⟨z4, y4⟩ := own_top hO9 hlf (i := 4) (by decide)
    obtain ⟨z5, y5⟩ := own_top hO9 hlf (i := 5) (by decide); obtain ⟨z6, y6⟩ := own_top hO9 hlf (i := 6) (by decide); obtain ⟨z7, y7⟩ := own_top hO9 hlf (i := 7) (by decide); obtain ⟨z8, y8⟩ := own_top hO9 hlf (i := 8) (by decide); obtain ⟨z9, y9⟩ := own_top hO9 hlf (i := 9) (by decide)
    simp only [List.getElem?_cons_zero, List.getElem?_cons_succ, Nat.add_zero] at z0 z1 z2 z3 z4 z5 z6 z7 z8 z9 y0 y1 y2 y3 y4 y5 y6 y7 y8 y9
    have g0 := hN9.cell 0; have g1 := hN9.cell 1; have g2 := hN9.cell 2; have g3 := hN9.cell 3; have g4 := hN9.cell 4; have g5 := hN9.cell 5; have g6 := hN9.cell 6; have g7 := hN9.cell 7; have g8 := hN9.cell 8; have g9 := hN9.cell 9
    simp only [List.getElem?_cons_zero, List.getElem?_cons_succ] at g0 g1 g2 g3 g4 g5 g6 g7 g8 g9
    obtain ⟨hb8a, hb8⟩ := hO9.lt b8 rfl
    have hN9l := hN9.lt
    clear hN9 hX9 hO9 hlf HA8 HO8 HG8 HV8
    go_wp2_with fail
    go_ret
    have hr := fun wz hwz => Op.refill (h := ((some ⟨b8, 0, none⟩ : Option Addr), c8)) (wz := wz) HE.out.op HX9.out hwz
    rw [HQ.out] at hr
    obtain ⟨e1, e2⟩ := hr _ rfl
    have hlo := HE.out.lo; have hlh := HE.out.lh
    have hBo : Bo B BO BW (g.push (.mk k ⟨nm, op, ver, slot, fl, on⟩ f no ks) :: gs) ((some ⟨b8, 0, none⟩, c8) :: hs) (some ⟨b, 0, none⟩) c wh _ := ⟨e2.whole HE.out.o (fun e => by omega), e2.whole HE.out.h (fun e => by omega), e1, hlo, hlh, HE.out.ne⟩
    have hFo := HF9.out.trans e2 (D := fun i => B ≤ i) fun i _ e => by omega
    exact ⟨rfl, _, hBo, hFo⟩
end Go.Proofs.YthpkffeiehnamaaGreatDoor

/- The other telling of what fits, walked. -/
namespace Go.Proofs.YthpkffeiehnamaaGreatDoor
open Go.RowKit Qm

set_option maxHeartbeats 3200000 in
theorem rfits_any (s f : ByteArray) (op ver slot v sl : Int) (on : Bool) (w : World) :
    Calls Tryz.prog 27 #[atv s op ver slot f on, .int .i64 v, .int .i64 sl] w fun e w' => e = .returned (.bool (fitsP (atOf s op ver slot f on) v sl)) ∧ Below w.heap.size w w' := by
  have BN := Lib.hid (Boxed.new w s op ver slot f on (t := 26))
  unfold atv
  by_cases z : slot = 0
  · subst z
    by_cases a1 : op = 1
    · subst a1
      go_enter Tryz.func27, Tryz.ntmps27
      go_wp2
      go_ret
      exact ⟨ret_bool (by rw [Bool.eq_iff_iff]; simp [fitsP, atOf, *] <;> exact decide_eq_true_iff.symm), (Below.refl _ _).alloc (Nat.le_refl _) _⟩
    · have b1 : (op == 1) = false := by simpa using a1
      by_cases a2 : op = 2
      · subst a2
        go_enter Tryz.func27, Tryz.ntmps27
        go_wp2
        go_ret
        exact ⟨ret_bool (by rw [Bool.eq_iff_iff]; simp [fitsP, atOf, *] <;> exact decide_eq_true_iff.symm), (Below.refl _ _).alloc (Nat.le_refl _) _⟩
      · have b2 : (op == 2) = false := by simpa using a2
        by_cases a3 : op = 3
        · subst a3
          go_enter Tryz.func27, Tryz.ntmps27
          go_wp2
          go_ret
          exact ⟨ret_bool (by rw [Bool.eq_iff_iff]; simp [fitsP, atOf, *] <;> exact decide_eq_true_iff.symm), (Below.refl _ _).alloc (Nat.le_refl _) _⟩
        · have b3 : (op == 3) = false := by simpa using a3
          go_enter Tryz.func27, Tryz.ntmps27
          go_wp2
          go_ret
          exact ⟨ret_bool (by rw [Bool.eq_iff_iff]; simp [fitsP, atOf, *] <;> exact decide_eq_true_iff.symm), (Below.refl _ _).alloc (Nat.le_refl _) _⟩
  · have z1 : (slot == 0) = false := by simpa using z
    by_cases y : slot = sl
    · have y1 : (slot == sl) = true := by simpa using y
      by_cases a1 : op = 1
      · subst a1
        go_enter Tryz.func27, Tryz.ntmps27
        go_wp2
        go_ret
        exact ⟨ret_bool (by rw [Bool.eq_iff_iff]; simp [fitsP, atOf, *] <;> exact decide_eq_true_iff.symm), (Below.refl _ _).alloc (Nat.le_refl _) _⟩
      · have b1 : (op == 1) = false := by simpa using a1
        by_cases a2 : op = 2
        · subst a2
          go_enter Tryz.func27, Tryz.ntmps27
          go_wp2
          go_ret
          exact ⟨ret_bool (by rw [Bool.eq_iff_iff]; simp [fitsP, atOf, *] <;> exact decide_eq_true_iff.symm), (Below.refl _ _).alloc (Nat.le_refl _) _⟩
        · have b2 : (op == 2) = false := by simpa using a2
          by_cases a3 : op = 3
          · subst a3
            go_enter Tryz.func27, Tryz.ntmps27
            go_wp2
            go_ret
            exact ⟨ret_bool (by rw [Bool.eq_iff_iff]; simp [fitsP, atOf, *] <;> exact decide_eq_true_iff.symm), (Below.refl _ _).alloc (Nat.le_refl _) _⟩
          · have b3 : (op == 3) = false := by simpa using a3
            go_enter Tryz.func27, Tryz.ntmps27
            go_wp2
            go_ret
            exact ⟨ret_bool (by rw [Bool.eq_iff_iff]; simp [fitsP, atOf, *] <;> exact decide_eq_true_iff.symm), (Below.refl _ _).alloc (Nat.le_refl _) _⟩
    · have y1 : (slot == sl) = false := by simpa using y
      by_cases a1 : op = 1
      · subst a1
        go_enter Tryz.func27, Tryz.ntmps27
        go_wp2
        go_ret
        exact ⟨ret_bool (by rw [Bool.eq_iff_iff]; simp [fitsP, atOf, *] <;> exact decide_eq_true_iff.symm), (Below.refl _ _).alloc (Nat.le_refl _) _⟩
      · have b1 : (op == 1) = false := by simpa using a1
        by_cases a2 : op = 2
        · subst a2
          go_enter Tryz.func27, Tryz.ntmps27
          go_wp2
          go_ret
          exact ⟨ret_bool (by rw [Bool.eq_iff_iff]; simp [fitsP, atOf, *] <;> exact decide_eq_true_iff.symm), (Below.refl _ _).alloc (Nat.le_refl _) _⟩
        · have b2 : (op == 2) = false := by simpa using a2
          by_cases a3 : op = 3
          · subst a3
            go_enter Tryz.func27, Tryz.ntmps27
            go_wp2
            go_ret
            exact ⟨ret_bool (by rw [Bool.eq_iff_iff]; simp [fitsP, atOf, *] <;> exact decide_eq_true_iff.symm), (Below.refl _ _).alloc (Nat.le_refl _) _⟩
          · have b3 : (op == 3) = false := by simpa using a3
            go_enter Tryz.func27, Tryz.ntmps27
            go_wp2
            go_ret
            exact ⟨ret_bool (by rw [Bool.eq_iff_iff]; simp [fitsP, atOf, *] <;> exact decide_eq_true_iff.symm), (Below.refl _ _).alloc (Nat.le_refl _) _⟩
end Go.Proofs.YthpkffeiehnamaaGreatDoor

/- The other telling of an atom's text, walked. -/
namespace Go.Proofs.YthpkffeiehnamaaGreatDoor
open Go.RowKit Qm Go.ChangeMaps

/-- What holds its world's block b back: a map of the two signs. -/
theorem sign_map (w : World) : ∃ w2 w3, (Instr.mapUpdate 168 (.map (some w.heap.size)) (.bool true) (.string ⟨#[43]⟩)).run Tryz.prog (w.alloc (.map #[] 0)) = .ok () w2 ∧
    (Instr.mapUpdate 168 (.map (some w.heap.size)) (.bool false) (.string ⟨#[45]⟩)).run Tryz.prog w2 = .ok () w3 ∧
    (∀ on : Bool, (Instr.lookup 168 (.map (some w.heap.size)) (.bool on) false).run Tryz.prog w3 = .ok (.string (if on then ⟨#[43]⟩ else ⟨#[45]⟩)) w3) ∧ Below w.heap.size w w3 := by
  have hk : Tryz.prog.underlying 4 = some .bool := Tryz.underlying4
  have ht : Tryz.prog.underlying 168 = some (.map 4 9) := Tryz.underlying168
  have K := Maps.bool_keyed (P := Tryz.prog) hk
  have hck : ∀ (wx : World) (em x : Bool), (Instr.checkKey em 10000 4 (.bool x)).run Tryz.prog wx = .ok () wx := fun wx em x => K.check wx em (Maps.keyOf_bool_mk hk x)
  have hb1 : (w.alloc (.map #[] 0)).heap[w.heap.size]? = some (.map #[] 0) := by simp [World.alloc, -World.alloc_eq]
  have r1 : (Instr.mapUpdate 168 (.map (some w.heap.size)) (.bool true) (.string ⟨#[43]⟩)).run Tryz.prog (w.alloc (.map #[] 0)) = .ok () (setBlock (w.alloc (.map #[] 0)) w.heap.size (.map #[⟨.bool true, .string ⟨#[43]⟩, 0⟩] 1)) := by
    simp [Instr.mapUpdate, run_underlying ht, run_underlying hk, MapKept.run_getObj_map hb1, hck, Instr.findKey, Instr.findNow, MapKept.run_setObj_map _ hb1, Result.andThen, setBlock, go_sem]
  have hb2 : (setBlock (w.alloc (.map #[] 0)) w.heap.size (.map #[⟨.bool true, .string ⟨#[43]⟩, 0⟩] 1)).heap[w.heap.size]? = some (.map #[⟨.bool true, .string ⟨#[43]⟩, 0⟩] 1) := heap_setBlock_same hb1 _
  generalize hw2 : setBlock (w.alloc (.map #[] 0)) w.heap.size (.map #[⟨.bool true, .string ⟨#[43]⟩, 0⟩] 1) = w2 at hb2 r1
  have r2 : (Instr.mapUpdate 168 (.map (some w.heap.size)) (.bool false) (.string ⟨#[45]⟩)).run Tryz.prog w2 =
      .ok () (setBlock w2 w.heap.size (.map #[⟨.bool true, .string ⟨#[43]⟩, 0⟩, ⟨.bool false, .string ⟨#[45]⟩, 1⟩] 2)) := by
    simp [Instr.mapUpdate, run_underlying ht, run_underlying hk, MapKept.run_getObj_map hb2, hck, Instr.findKey, Instr.findNow, Instr.sameNow, MapKept.run_setObj_map _ hb2, Result.andThen, setBlock, go_sem]
  have hb3 : (setBlock w2 w.heap.size (.map #[⟨.bool true, .string ⟨#[43]⟩, 0⟩, ⟨.bool false, .string ⟨#[45]⟩, 1⟩] 2)).heap[w.heap.size]? = some (.map #[⟨.bool true, .string ⟨#[43]⟩, 0⟩, ⟨.bool false, .string ⟨#[45]⟩, 1⟩] 2) := heap_setBlock_same hb2 _
  refine ⟨w2, _, r1, r2, ?_, ?_⟩
  · intro on
    cases on <;> simp [Instr.lookup, run_underlying ht, run_underlying hk, MapKept.run_getObj_map hb3, hck, Instr.findKey, Instr.findNow, Instr.sameNow, Result.andThen, go_sem]
  · subst hw2
    refine ⟨rfl, rfl, rfl, by simp [setBlock], fun i hi => ?_⟩
    exact (heap_setBlock_other hb2 _ (by omega)).trans ((heap_setBlock_other hb1 _ (by omega)).trans (((Below.refl w.heap.size w).alloc (Nat.le_refl _) _).block i hi))

set_option maxRecDepth 100000 in
set_option maxHeartbeats 3200000 in
theorem rtext_any (s f : ByteArray) (op ver slot : Int) (on : Bool) (w : World) (hk : ckAtom (atOf s op ver slot f on) = 0) :
    Calls Tryz.prog 93 #[atv s op ver slot f on] w fun e w' =>
      e = .returned (.string ⟨(textOf (atOf s op ver slot f on)).toArray⟩) ∧ Below w.heap.size w w' := by
  have B1 := Lib.hid (Boxed.new w s op ver slot f on (t := 26))
  unfold atv
  have HO := Lib.hid (atOk hk)
  have hsz : s.size ≤ 8 := by
    have h1 := isName_len HO.out.nm
    have h2 : s.size = s.data.toList.length := Lib.size_eq s
    have h3 : (atOf s op ver slot f on).nm = s.data.toList := rfl
    rw [h3] at h1
    omega
  have Hsz := Lib.hid hsz; clear hsz
  have HK := Lib.hid hk; clear hk
  have ho : op = 0 ∨ op = 1 ∨ op = 2 ∨ op = 3 := by have := HO.out.op; simp only [atOf] at this; omega
  go_enter Tryz.func93, Tryz.ntmps93
  go_upto_region 1 with fail
  go_cut [3] (fun s3 wx => s3 = .string ⟨(s.data.toList ++ opText op).toArray⟩ ∧ Boxed w s op ver slot f on wx)
  case first =>
    rcases ho with ho | ho | ho | ho
    · subst ho
      have hadd : ∀ wx, (Op.stringOp .add s ⟨#[]⟩).run Tryz.prog wx = .ok (.string ⟨(s.data.toList ++ opText 0).toArray⟩) wx := fun wx => by
        rw [run_string_add_sum wx _ _ (by have h3 := Hsz.out; have h4 : ByteArray.size ⟨#[]⟩ ≤ 2 := (by decide); omega)]
        have := bs_add s.data.toList (opText 0)
        rw [bs_self] at this
        exact congrArg (fun z => Result.ok (Value.string z) wx) this
      go_region
      go_wp2
      go_meet
      case rel => exact ⟨rfl, B1.out.below ((Below.refl _ _).alloc (Nat.le_refl _) _).drew⟩
    · subst ho
      have hadd : ∀ wx, (Op.stringOp .add s ⟨#[61]⟩).run Tryz.prog wx = .ok (.string ⟨(s.data.toList ++ opText 1).toArray⟩) wx := fun wx => by
        rw [run_string_add_sum wx _ _ (by have h3 := Hsz.out; have h4 : ByteArray.size ⟨#[61]⟩ ≤ 2 := (by decide); omega)]
        have := bs_add s.data.toList (opText 1)
        rw [bs_self] at this
        exact congrArg (fun z => Result.ok (Value.string z) wx) this
      go_region
      go_wp2
      go_meet
      case rel => exact ⟨rfl, B1.out.below ((Below.refl _ _).alloc (Nat.le_refl _) _).drew⟩
    · subst ho
      have hadd : ∀ wx, (Op.stringOp .add s ⟨#[62, 61]⟩).run Tryz.prog wx = .ok (.string ⟨(s.data.toList ++ opText 2).toArray⟩) wx := fun wx => by
        rw [run_string_add_sum wx _ _ (by have h3 := Hsz.out; have h4 : ByteArray.size ⟨#[62, 61]⟩ ≤ 2 := (by decide); omega)]
        have := bs_add s.data.toList (opText 2)
        rw [bs_self] at this
        exact congrArg (fun z => Result.ok (Value.string z) wx) this
      go_region
      go_wp2
      go_meet
      case rel => exact ⟨rfl, B1.out.below ((Below.refl _ _).alloc (Nat.le_refl _) _).drew⟩
    · subst ho
      have hadd : ∀ wx, (Op.stringOp .add s ⟨#[60]⟩).run Tryz.prog wx = .ok (.string ⟨(s.data.toList ++ opText 3).toArray⟩) wx := fun wx => by
        rw [run_string_add_sum wx _ _ (by have h3 := Hsz.out; have h4 : ByteArray.size ⟨#[60]⟩ ≤ 2 := (by decide); omega)]
        have := bs_add s.data.toList (opText 3)
        rw [bs_self] at this
        exact congrArg (fun z => Result.ok (Value.string z) wx) this
      go_region
      go_wp2
      go_meet
      case rel => exact ⟨rfl, B1.out.below ((Below.refl _ _).alloc (Nat.le_refl _) _).drew⟩
  case rest =>
    obtain ⟨rfl, B2⟩ := hcut
    replace B2 := Lib.hid B2
    clear B1
    have d0 := B2.out.c0; have d1 := B2.out.c1; have d2 := B2.out.c2; have d3 := B2.out.c3; have d4 := B2.out.c4; have d5 := B2.out.c5
    have hlen := textOf_len HO.out
    have hx : textOf (atOf s op ver slot f on) = (s.data.toList ++ (if op ≠ 0 then opText op ++ Lib.itoa ver else [])) ++ (if 0 < slot then 58 :: Lib.itoa slot else []) ++ (if f.data.toList ≠ [] then (if on then 43 else 45) :: f.data.toList else []) := rfl
    rw [hx] at hlen
    have HX := Lib.hid hx; clear hx
    have HL := Lib.hid hlen; clear hlen
    go_upto_if 14 with fail
    go_cut [3] (fun s3 wx => s3 = .string ⟨(s.data.toList ++ (if op ≠ 0 then opText op ++ Lib.itoa ver else [])).toArray⟩ ∧ Boxed w s op ver slot f on wx)
    case first =>
      by_cases z : op = 0
      · subst z
        go_wp2
        go_meet
        case rel => exact ⟨by simp [opText], B2.out⟩
      · have z1 : 0 < op := by have := HO.out.op; simp only [atOf] at this; omega
        obtain ⟨i, hi⟩ : ∃ i : Nat, ver = (i : Int) := ⟨ver.toNat, by have := HO.out.some z; simp only [atOf] at this; omega⟩
        subst hi
        have hi : i < 100 := by have := HO.out.some z; simp only [atOf] at this; omega
        have hit : Lib.itoa (i : Int) = Lib.decDigits i := by unfold Lib.itoa; rw [if_neg (by omega)]; rfl
        have hD : (Lib.decDigits i).length ≤ 2 := by rw [← hit]; exact (itoa_len (by omega) (by omega)).2
        have hitoa := fun wx => Tryz.strconv_Itoa_small i hi wx
        have Hit := Lib.hid hit
        clear hit
        generalize Lib.decDigits i = D at hD hitoa Hit
        have HD := Lib.hid hD; clear hD
        have Hitoa := Lib.hid hitoa; clear hitoa
        have hT : (s.data.toList ++ opText op).length ≤ 10 := by
          have h1 := Hsz.out; have h2 : s.size = s.data.toList.length := Lib.size_eq s
          have h3 : (opText op).length ≤ 2 := by unfold opText; split <;> (try split) <;> (try split) <;> simp
          rw [List.length_append]; omega
        have HT := Lib.hid hT; clear hT
        have hadd : ∀ wx, (Op.stringOp .add ⟨(s.data.toList ++ opText op).toArray⟩ ⟨D.toArray⟩).run Tryz.prog wx = .ok (.string ⟨(s.data.toList ++ opText op ++ D).toArray⟩) wx := fun wx => by
          rw [run_string_add_sum wx _ _ (by have h1 := bs_size D; have h2 := HD.out; have h3 := HT.out; have h4 := bs_size (s.data.toList ++ opText op); omega)]
          rw [bs_add]
        have Z := Lib.hid z; clear z
        go_wp2_with (first | (go_at_call 40; refine (Hitoa.out _).mono ?_; rintro e w6 ⟨rfl, rfl⟩))
        go_meet
        case rel => exact ⟨by rw [if_pos Z.out, Hit.out]; try simp, B2.out⟩
    case rest =>
      obtain ⟨rfl, B3⟩ := hcut
      replace B3 := Lib.hid B3
      clear B2 d0 d1 d2 d3 d4 d5
      have d0 := B3.out.c0; have d1 := B3.out.c1; have d2 := B3.out.c2; have d3 := B3.out.c3; have d4 := B3.out.c4; have d5 := B3.out.c5
      have hall : (s.data.toList ++ (if op ≠ 0 then opText op ++ Lib.itoa ver else [])).length ≤ 100 := by
        have h1 := HL.out; simp only [List.length_append] at h1 ⊢; omega
      generalize s.data.toList ++ (if op ≠ 0 then opText op ++ Lib.itoa ver else []) = T at HL HX hall ⊢
      have HT := Lib.hid hall; clear hall
      go_upto_if 22 with fail
      go_cut [3] (fun s3 wx => s3 = .string ⟨(T ++ (if 0 < slot then 58 :: Lib.itoa slot else [])).toArray⟩ ∧ Boxed w s op ver slot f on wx)
      case first =>
        by_cases z : 0 < slot
        · have z1 : (slot != 0) = true := by simp; omega
          obtain ⟨i, hi⟩ : ∃ i : Nat, slot = (i : Int) := ⟨slot.toNat, by omega⟩
          subst hi
          have hi : i < 100 := by have := HO.out.slot; simp only [atOf] at this; omega
          have hit : Lib.itoa (i : Int) = Lib.decDigits i := by unfold Lib.itoa; rw [if_neg (by omega)]; rfl
          have hD : (Lib.decDigits i).length ≤ 2 := by rw [← hit]; exact (itoa_len (by omega) (by omega)).2
          have hitoa := fun wx => Tryz.strconv_Itoa_small i hi wx
          have Hit := Lib.hid hit
          clear hit
          generalize Lib.decDigits i = D at hD hitoa Hit
          have HD := Lib.hid hD; clear hD
          have Hitoa := Lib.hid hitoa; clear hitoa
          have hadd1 : ∀ wx, (Op.stringOp .add ⟨#[58]⟩ ⟨D.toArray⟩).run Tryz.prog wx = .ok (.string ⟨(58 :: D).toArray⟩) wx := fun wx => by
            rw [run_string_add_sum wx _ _ (by have h1 := bs_size D; have h2 := HD.out; have h3 : ByteArray.size ⟨#[58]⟩ ≤ 2 := (by decide); omega)]
            exact congrArg (fun z => Result.ok (Value.string z) wx) (bs_add _ D)
          have hadd2 : ∀ wx, (Op.stringOp .add ⟨T.toArray⟩ ⟨(58 :: D).toArray⟩).run Tryz.prog wx = .ok (.string ⟨(T ++ 58 :: D).toArray⟩) wx := fun wx => by
            rw [run_string_add_sum wx _ _ (by have h1 := bs_size (58 :: D); have h2 := HD.out; have h3 := HT.out; have h5 := bs_size T; have h4 : (58 :: D).length ≤ 4 := (by simp; omega); omega)]
            rw [bs_add]
          have Z := Lib.hid z; clear z
          go_wp2_with (first | (go_at_call 40; refine (Hitoa.out _).mono ?_; rintro e w6 ⟨rfl, rfl⟩))
          go_meet
          case rel => exact ⟨by rw [if_pos Z.out, Hit.out], B3.out⟩
        · have z1 : (slot != 0) = false := by simp; have := HO.out.slot; simp only [atOf] at this; omega
          have Z := Lib.hid z; clear z
          go_wp2
          go_meet
          case rel => exact ⟨by rw [if_neg (by have := Z.out; omega), List.append_nil], B3.out⟩
      case rest =>
        obtain ⟨rfl, B4⟩ := hcut
        replace B4 := Lib.hid B4
        clear B3 d0 d1 d2 d3 d4 d5
        have d0 := B4.out.c0; have d1 := B4.out.c1; have d2 := B4.out.c2; have d3 := B4.out.c3; have d4 := B4.out.c4; have d5 := B4.out.c5
        have HT2 : Hid ((T ++ (if 0 < slot then 58 :: Lib.itoa slot else [])).length ≤ 100) := Lib.hid (by have h1 := HL.out; simp only [List.length_append] at h1 ⊢; omega)
        clear HL HT
        generalize T ++ (if 0 < slot then 58 :: Lib.itoa slot else []) = T2 at HT2 HX ⊢
        by_cases h0 : f.data.toList = []
        · obtain ⟨e1, e2⟩ := empty_spell h0
          have H0 := Lib.hid h0; clear h0
          go_wp2
          go_ret
          refine ⟨?_, B4.out.b⟩
          rw [HX.out, if_neg (fun h => h H0.out), List.append_nil]; rfl
        · obtain ⟨e1, e2⟩ := full_spell h0
          have H0 := Lib.hid h0
          have hf8 : Hid (f.size ≤ 8) := Lib.hid (by have h1 := isName_len (HO.out.fl h0); have h2 : f.size = f.data.toList.length := Lib.size_eq f; have h3 : (atOf s op ver slot f on).fl = f.data.toList := rfl; rw [h3] at h1; omega)
          clear h0
          go_upto_region 7 with fail
          obtain ⟨w2, w3, m1, m2, m3, m4⟩ := sign_map wc
          have B5 := Lib.hid (B4.out.below m4); clear m4
          have x4 := B5.out.c4; have x5 := B5.out.c5
          cases on
          · have hadd1 : ∀ wx, (Op.stringOp .add ⟨#[45]⟩ f).run Tryz.prog wx = .ok (.string ⟨(45 :: f.data.toList).toArray⟩) wx := fun wx => by
              rw [run_string_add_sum wx _ _ (by have h2 := hf8.out; have h3 : ByteArray.size ⟨#[45]⟩ ≤ 2 := (by decide); omega)]
              have := bs_add [45] f.data.toList
              rw [bs_self] at this
              exact congrArg (fun z => Result.ok (Value.string z) wx) this
            have hadd2 : ∀ wx, (Op.stringOp .add ⟨T2.toArray⟩ ⟨(45 :: f.data.toList).toArray⟩).run Tryz.prog wx = .ok (.string ⟨(T2 ++ 45 :: f.data.toList).toArray⟩) wx := fun wx => by
              rw [run_string_add_sum wx _ _ (by have h1 := bs_size (45 :: f.data.toList); have h2 := hf8.out; have h3 := HT2.out; have h5 := bs_size T2; have h6 : f.size = f.data.toList.length := Lib.size_eq f; have h4 : (45 :: f.data.toList).length ≤ 10 := (by rw [List.length_cons, ← h6]; omega); omega)]
              rw [bs_add]
            have hm3 := m3 false; clear m3
            have hmm := @run_makeMap Tryz.prog
            go_wp2
            go_ret
            refine ⟨?_, B5.out.b⟩
            rw [HX.out, if_pos H0.out]; rfl
          · have hadd1 : ∀ wx, (Op.stringOp .add ⟨#[43]⟩ f).run Tryz.prog wx = .ok (.string ⟨(43 :: f.data.toList).toArray⟩) wx := fun wx => by
              rw [run_string_add_sum wx _ _ (by have h2 := hf8.out; have h3 : ByteArray.size ⟨#[43]⟩ ≤ 2 := (by decide); omega)]
              have := bs_add [43] f.data.toList
              rw [bs_self] at this
              exact congrArg (fun z => Result.ok (Value.string z) wx) this
            have hadd2 : ∀ wx, (Op.stringOp .add ⟨T2.toArray⟩ ⟨(43 :: f.data.toList).toArray⟩).run Tryz.prog wx = .ok (.string ⟨(T2 ++ 43 :: f.data.toList).toArray⟩) wx := fun wx => by
              rw [run_string_add_sum wx _ _ (by have h1 := bs_size (43 :: f.data.toList); have h2 := hf8.out; have h3 := HT2.out; have h5 := bs_size T2; have h6 : f.size = f.data.toList.length := Lib.size_eq f; have h4 : (43 :: f.data.toList).length ≤ 10 := (by rw [List.length_cons, ← h6]; omega); omega)]
              rw [bs_add]
            have hm3 := m3 true; clear m3
            have hmm := @run_makeMap Tryz.prog
            go_wp2
            go_ret
            refine ⟨?_, B5.out.b⟩
            rw [HX.out, if_pos H0.out]; rfl
end Go.Proofs.YthpkffeiehnamaaGreatDoor

/- The other telling of a number, walked. -/
namespace Go.Proofs.YthpkffeiehnamaaGreatDoor
open Go.RowKit Qm

set_option maxHeartbeats 3200000 in
theorem whole_any (s : ByteArray) (w : World) (hs : s.size ≤ 140737488355328) (hL : LaidV w) :
    Calls Tryz.prog 63 #[.string s] w fun e w' => ∃ n, e = .returned (.tuple #[.int .i64 n, .bool (number s.data.toList).isSome]) ∧ (∀ v, number s.data.toList = some v → n = v) ∧ Below w.heap.size w w' := by
  obtain ⟨⟨tp, p, h1⟩, ⟨tp2, p2, h2⟩, h3⟩ := hL
  rcases h : Lib.atoiAll s.data.toList with v | _ | _
  · skip
    have hat := Tryz.strconv_ParseInt_10_at64_ok s (by omega) v (by rw [Lib.parseIntB_64]; exact h) w
    obtain ⟨hv0, hv1⟩ := Lib.atoiAll_bounds h
    go_enter Tryz.func63, Tryz.ntmps63
    go_wp2_with (first | (go_at_call 94; refine hat.mono ?_; rintro e w1 ⟨rfl, hw1⟩; refine Hid.out ?_))
    have hb1 : Hid (Below w.heap.size w w1) := Lib.hid (by
      rcases hw1 with rfl | ⟨t, rfl⟩
      · exact Below.refl _ _
      · exact Lib.bytesWorld_below _ _ _)
    clear hw1
    have hit := Tryz.strconv_FormatInt_10 v (by omega) (by omega) w1 (var_below h3 hb1.out)
    have Hit := Lib.hid hit
    clear hit
    have hcmp := bs_eq (Lib.itoa v) s
    have HV := Lib.hid (show number s.data.toList = if Lib.itoa v = s.data.toList then some v else none by unfold number; rw [h])
    clear h
    generalize Lib.itoa v = T at hcmp HV Hit
    by_cases e1 : T = s.data.toList
    · rw [decide_eq_true e1] at hcmp
      have E1 := Lib.hid e1; clear e1
      refine Lib.hid ?_
      go_wp2_with (first | (go_at_call 95; refine Hit.out.mono ?_; rintro e w2 ⟨rfl, k, os, hw2⟩))
      go_ret2
      refine ⟨v, ?_, ?_, hb1.out.trans (by subst hw2; exact (Lib.below_grow _ _ (Nat.le_refl _) _ _).mono hb1.out.size)⟩
      · rw [HV.out, if_pos E1.out]; rfl
      · rw [HV.out, if_pos E1.out]; intro u hu; injection hu
    · rw [decide_eq_false e1] at hcmp
      have E1 := Lib.hid e1; clear e1
      refine Lib.hid ?_
      go_wp2_with (first | (go_at_call 95; refine Hit.out.mono ?_; rintro e w2 ⟨rfl, k, os, hw2⟩))
      go_ret2
      refine ⟨v, ?_, ?_, hb1.out.trans (by subst hw2; exact (Lib.below_grow _ _ (Nat.le_refl _) _ _).mono hb1.out.size)⟩
      · rw [HV.out, if_neg E1.out]; rfl
      · rw [HV.out, if_neg E1.out]; intro u hu; cases hu
  · have hat := Any.strconv_ParseInt_10_at64_syntax_var Tryz.laysC174 s (by omega) (by rw [Lib.parseIntB_64]; exact h) tp p w h1
    go_enter Tryz.func63, Tryz.ntmps63
    go_wp2_with (first | (go_at_call 94; refine hat.mono ?_; rintro e w1 ⟨N, rfl, -, -, hb⟩))
    go_ret2
    have hn : number s.data.toList = none := by unfold number; rw [h]
    exact ⟨_, by rw [hn]; rfl, (by rw [hn]; intro v hv; cases hv), hb⟩
  · have hat := Tryz.strconv_ParseInt_10_at64_range_var s (by omega) (by rw [Lib.parseIntB_64]; exact h) tp2 p2 w h2
    go_enter Tryz.func63, Tryz.ntmps63
    go_wp2_with (first | (go_at_call 94; refine hat.mono ?_; rintro e w1 ⟨N, rfl, -, -, hb⟩))
    go_ret2
    have hn : number s.data.toList = none := by unfold number; rw [h]
    exact ⟨_, by rw [hn]; rfl, (by rw [hn]; intro v hv; cases hv), hb⟩
end Go.Proofs.YthpkffeiehnamaaGreatDoor
