/- Parts of the proof: walks and plain laws, side by side. -/
import Derived.Test.YtpipgffbhpnmkaaGreatDoorM14
import Derived.Test.YtpipgffbhpnmkaaGreatDoorM3
import Derived.Test.YtpipgffbhpnmkaaGreatDoorM9
import Derived.Deep.LoopGhost
import Derived.Test.YtpipgffbhpnmkaaGreatDoorProg
import Derived.Deep.RegionHeld3
import Derived.Laws.EntriesVeiled
set_option linter.unusedVariables false
set_option linter.unusedSimpArgs false
set_option linter.unusedSectionVars false
namespace Go.Proofs.YtpipgffbhpnmkaaGreatDoor
/- order.asks, walked. -/
section
open Go.RowKit Qm

def atCells (xs : List At) : List Value := (xs.map atRow).flatten
theorem atCells_app (a b : List At) : atCells (a ++ b) = atCells a ++ atCells b := by unfold atCells; rw [List.map_append, List.flatten_append]
theorem atom_infoO : (Tryz.prog.info? 37).map (fun i => (i.zero, i.size, i.bytes)) = some (some (.agg #[.string ⟨#[]⟩, .int .i64 0, .int .i64 0, .int .i64 0, .string ⟨#[]⟩, .bool false]), 6, 64) := by kernel_rfl
theorem cells_new (w : World) (b : Nat) (vs : List Value) (t : TypeId) (hb : b = w.heap.size) : ∀ j u, vs[j]? = some u → (w.alloc (.cells vs.toArray t)).cell? ((⟨b, 0, none⟩ : Addr).add j) = some u := by
 intro j u hj
 have h := Whole.new w b t vs hb
 have hadd : (⟨b, 0, none⟩ : Addr).add j = ⟨b, 0 + j, none⟩ := by unfold Addr.add; split <;> simp_all
 rw [hadd, Nat.zero_add, h.cell j, hj]
theorem own_drewN {w : World} {base : Nat} {e : TypeId} {size : Nat} {v : Value} {n : Nat} {xs : List Value} (h : w.ownsRow base e size v n xs) (k : Nat) : (w.drewN k).ownsRow base e size v n xs := h
theorem flagsN_in : ∀ {ks : List Nd} {x : Nd}, x ∈ ks → ∀ g ∈ flagsN x, g ∈ flagsL ks
 | y :: r, x, hx, g, hg => by
  simp only [flagsL, List.mem_append]
  rcases List.mem_cons.1 hx with rfl | hx
  ·exact .inl hg
  ·exact .inr (flagsN_in hx g hg)
def AsksPost (base : Nat) (v0 : Value) (ys : List At) (w : World) (e : Ending) (w' : World) : Prop :=
 ∃ A c, e = .returned (.slice A ys.length c) ∧ w'.ownsRow base 37 6 (.slice A ys.length c) ys.length (atCells ys) ∧ Far (fun i => v0.ownBlock = some i) w w' ∧ ∀ i, (Value.slice A ys.length c).ownBlock = some i → i < w.heap.size → v0.ownBlock = some i
theorem asksN_len (ps : List Pk) (me : Mem) : ∀ y : Nd, (asksN ps me y).length ≤ y.nodes := by
 refine Nd.ind fun kd a f no ks ih => ?_
 unfold asksN
 simp only [Nd.nodes]
 split
 ·simp
 ·split
  ·simp
  ·have : ∀ l : List Nd, (∀ x ∈ l, x ∈ ks) → (asksL ps me l).length ≤ nodesL l := by
    intro l
    induction l with
    | nil => intro _; simp [asksL]
    | cons x r ihr =>
     intro hx
     have h1 := ih x (hx x (List.mem_cons_self ..))
     have h2 := ihr fun y hy => hx y (List.mem_cons_of_mem _ hy)
     simp only [asksL, List.length_append, nodesL]; omega
   have := this ks fun _ h => h
   omega
theorem asksL_step {ps : List Pk} {me : Mem} {ks : List Nd} {i : Nat} {y : Nd} (h : ks[i]? = some y) : asksL ps me (ks.take (i + 1)) = asksL ps me (ks.take i) ++ asksN ps me y := by
 obtain ⟨hi, rfl⟩ := List.getElem?_eq_some_iff.1 h
 rw [asksL_eq, asksL_eq, List.take_succ_eq_append_getElem hi, List.map_append, List.flatten_append]; simp
theorem nodesL_take {ks : List Nd} {i : Nat} {y : Nd} (h : ks[i]? = some y) : nodesL (ks.take i) + y.nodes ≤ nodesL ks := by
 induction ks generalizing i with
 | nil => simp at h
 | cons x r ih =>
  cases i with
  | zero => simp only [List.getElem?_cons_zero, Option.some.injEq] at h; subst h; simp [nodesL]
  | succ i =>
   have := ih (i := i) (by simpa using h)
   simp only [List.take_succ_cons, nodesL]; omega
theorem asksL_len (ps : List Pk) (me : Mem) : ∀ ks : List Nd, (asksL ps me ks).length ≤ nodesL ks
 | [] => by simp [asksL]
 | x :: r => by
  have h1 := asksN_len ps me x
  have h2 := asksL_len ps me r
  simp only [asksL, List.length_append, nodesL]; omega
structure Kb (w : World) (pv mv nv : List Value) (wx : World) : Prop where
 p : Whole wx w.heap.size 42 pv
 m : Whole wx (w.heap.size + 1) 33 mv
 n : Whole wx (w.heap.size + 1 + 1) 40 nv
 sz : w.heap.size ≤ wx.heap.size
theorem Kb.far {w : World} {pv mv nv : List Value} {wx wy : World} {D : Nat → Prop} (h : Kb w pv mv nv wx) (hf : Far D wx wy) (hD : ∀ i, D i → i < w.heap.size ∨ w.heap.size + 1 + 1 < i) : Kb w pv mv nv wy :=
 ⟨hf.whole h.p (fun h => by have := hD _ h; omega), hf.whole h.m (fun h => by have := hD _ h; omega), hf.whole h.n (fun h => by have := hD _ h; omega), Nat.le_trans h.sz hf.size⟩
theorem Kb.new (w : World) (pv mv nv : List Value) : Kb w pv mv nv (((w.alloc (.cells pv.toArray 42)).alloc (.cells mv.toArray 33)).alloc (.cells nv.toArray 40)) :=
 ⟨((Whole.new w _ _ pv rfl).alloc _).alloc _, (Whole.new (w.alloc (.cells pv.toArray 42)) (w.heap.size + 1) _ mv (by simp)).alloc _, Whole.new ((w.alloc (.cells pv.toArray 42)).alloc (.cells mv.toArray 33)) (w.heap.size + 1 + 1) _ nv (by simp), by simp; omega⟩
theorem box3 (w : World) (pv mv nv : List Value) : Below w.heap.size w (((w.alloc (.cells pv.toArray 42)).alloc (.cells mv.toArray 33)).alloc (.cells nv.toArray 40)) :=
 (((Below.refl _ w).alloc (qr _) _).alloc (by simp) _).alloc (by simp; omega) _
theorem AsksPost.of {base : Nat} {v0 : Value} {ys : List At} {w w8 : World} {A8 : Option Addr} {c8 n8 : Nat} (hn : n8 = ys.length) (hown : w8.ownsRow base 37 6 (.slice A8 n8 c8) n8 (atCells ys)) (hf : Far (fun i => v0.ownBlock = some i) w w8)
  (hv : ∀ i, (Value.slice A8 n8 c8).ownBlock = some i → i < w.heap.size → v0.ownBlock = some i) : AsksPost base v0 ys w (.returned (.slice A8 n8 c8)) w8 := by
 subst hn
 exact ⟨A8, c8, rfl, hown, hf, hv⟩
set_option maxRecDepth 100000 in
set_option maxHeartbeats 6400000 in
theorem oasks_any (ps : List Pk) (p : Pk) (m : Mem) (hpm : pkOf ps m.pl = p) (S : Nat → Prop) (base : Nat) (D B E0 : Option Addr) (q c' k d r0 d0 : Nat) (kd0 : Int) (pa0 : At) (f0 : Qm.W) (no0 : Bool) (hq : q ≤ maxLen) (hkd : k ≤ d) (hlen : m.on.length = p.fs.length) :
  ∀ (y : Nd) (xs : List At) (A : Option Addr) (ca : Nat) (cx : List Value) (w : World), Row w S D q (strs p.fs) → RBools w S B k m.on → RNd w S cx y → (∀ f ∈ flagsN y, f ∈ p.fs) → (∀ i, S i → i < w.heap.size ∧ (Value.slice A xs.length ca).ownBlock ≠ some i) →
   w.ownsRow base 37 6 (.slice A xs.length ca) xs.length (atCells xs) → base ≤ w.heap.size → xs.length + y.nodes ≤ 100000 →
  Calls Tryz.prog 42 #[.agg #[.string ⟨p.nm.toArray⟩, .int .i64 p.ver, .int .i64 p.slot, .slice D q c', .int .i64 kd0, .string ⟨pa0.nm.toArray⟩, .int .i64 pa0.op, .int .i64 pa0.ver, .int .i64 pa0.slot, .string ⟨pa0.fl.toArray⟩, .bool pa0.on, .string ⟨f0.toArray⟩, .bool no0, .slice E0 r0 d0], .agg #[.int .i64 m.pl, .slice B k d], .agg cx.toArray, .slice A xs.length ca] w (AsksPost base (.slice A xs.length ca) (xs ++ asksN ps m y) w) := by
 refine Nd.ind fun kd a f no ks ih => ?_
 intro xs A ca cx w hF hB hx hfl hS hown hbase hsz
 obtain ⟨C, r, e, rfl, hre, he, h1, h2, h3, hK⟩ := hx.open_
 have HC : Hid (asksN ps m (.mk kd a f no ks) = if kd = 1 then [a] else if kd = 5 ∧ ifOff ps m f no = true then [] else asksL ps m ks) := qh rfl
 generalize hR : asksN ps m (.mk kd a f no ks) = R at HC ⊢
 have HRl : Hid (R.length ≤ 100000) := qh (by rw [← hR]; have := asksN_len ps m (.mk kd a f no ks); omega)
 clear hR
 simp only [Nd.nodes] at hsz
 have HKB := qh (Kb.new w (pkRow p D q c' (ndRow kd0 pa0 f0 no0 E0 r0 d0)) [.int .i64 m.pl, .slice B k d] (ndRow kd a f no C r e))
 have HBX := qh (box3 w (pkRow p D q c' (ndRow kd0 pa0 f0 no0 E0 r0 d0)) [.int .i64 m.pl, .slice B k d] (ndRow kd a f no C r e))
 have HOW := qh (((hown.alloc (.cells (pkRow p D q c' (ndRow kd0 pa0 f0 no0 E0 r0 d0)).toArray 42)).alloc (.cells #[.int .i64 m.pl, .slice B k d] 33)).alloc (.cells (ndRow kd a f no C r e).toArray 40))
 have HOLT := qh (fun i (h : (Value.slice A xs.length ca).ownBlock = some i) => (hown.lt i h).2)
 have HOLB := qh (fun i (h : (Value.slice A xs.length ca).ownBlock = some i) => (hown.lt i h).1)
 have HKD := qh hK; have HS := qh hS
 have Heach := qh (fun x (hx : x ∈ ks) => ih x hx)
 have HFLA := qh hfl
 have HF := qh hF; have HBO := qh hB
 have Hkl := qh hK.len
 obtain ⟨i0, hi, hz0, hz1, hz2⟩ : ∃ i0, Tryz.prog.info? 37 = some i0 ∧ i0.zero = some (.agg #[.string ⟨#[]⟩, .int .i64 0, .int .i64 0, .int .i64 0, .string ⟨#[]⟩, .bool false]) ∧ i0.size = 6 ∧ i0.bytes = 64 := by
  have h := atom_infoO
  cases hh : Tryz.prog.info? 37 with
  | none => rw [hh] at h; simp at h
  | some i => rw [hh] at h; simp at h; exact ⟨i, rfl, h.1, h.2.1, h.2.2⟩
 have Hi := qh hi; have Hz0 := qh hz0; have Hz1 := qh hz1; have Hz2 := qh hz2
 clear hi hz0 hz1 hz2 hx hfl ih h1 h2 h3 hK hS hown hF hB
 have HPM := qh hpm; clear hpm
 have he' := he
 unfold maxLen at he'
 unfold pkRow ndRow at HKB HBX HOW
 unfold ndRow
 by_cases k1 : kd = 1
 ·subst k1
  have HR : Hid (R = [a]) := qh (by rw [HC.out, if_pos rfl])
  have n1 := HKB.out.n.cell 1; have n2 := HKB.out.n.cell 2; have n3 := HKB.out.n.cell 3; have n4 := HKB.out.n.cell 4; have n5 := HKB.out.n.cell 5; have n6 := HKB.out.n.cell 6
  simp only [qgz, qgs] at n1 n2 n3 n4 n5 n6
  clear Heach HC HRl
  have hsz3 : w.heap.size + 1 + 1 + 1 = (((w.alloc (.cells #[.string ⟨p.nm.toArray⟩, .int .i64 p.ver, .int .i64 p.slot, .slice D q c', .int .i64 kd0, .string ⟨pa0.nm.toArray⟩, .int .i64 pa0.op, .int .i64 pa0.ver, .int .i64 pa0.slot, .string ⟨pa0.fl.toArray⟩, .bool pa0.on, .string ⟨f0.toArray⟩, .bool no0, .slice E0 r0 d0] 42)).alloc (.cells #[.int .i64 m.pl, .slice B k d] 33)).alloc (.cells #[.int .i64 1, .string ⟨a.nm.toArray⟩, .int .i64 a.op, .int .i64 a.ver, .int .i64 a.slot, .string ⟨a.fl.toArray⟩, .bool a.on, .string ⟨f.toArray⟩, .bool no, .slice C r e] 40)).heap.size := by simp
  have HNC := qh (cells_new _ _ (atRow a) 37 hsz3)
  have HOW2 := qh (HOW.out.alloc (.cells (atRow a).toArray 37))
  unfold atRow at HNC HOW2
  clear hsz3
  go_enter Tryz.func42, Tryz.ntmps42
  go_wp2_with (at_builtin; refine wpList_append_own_at _ rfl _ _ 86 rfl base 37 i0 (.agg #[.string ⟨#[]⟩, .int .i64 0, .int .i64 0, .int .i64 0, .string ⟨#[]⟩, .bool false]) 6 64 Tryz.underlying86 Hi.out Hz0.out Hz1.out Hz2.out rfl (by decide) _ _ _ rfl HOW2.out ⟨w.heap.size + 1 + 1 + 1, 0, none⟩ 1 1 [.string ⟨a.nm.toArray⟩, .int .i64 a.op, .int .i64 a.ver, .int .i64 a.slot, .string ⟨a.fl.toArray⟩, .bool a.on] rfl rfl HNC.out (by simp [Value.oneCell']) (by unfold maxLen; omega) (by omega) (by simp; omega) ?_)
  intro v' w8 hown8 hg8 _ hv8
  obtain ⟨A8, c8, rfl, _, _, _⟩ := own_formK hown8
  have hb4 : Below w.heap.size w _ := (HBX.out.alloc HBX.out.size (.cells #[.string ⟨a.nm.toArray⟩, .int .i64 a.op, .int .i64 a.ver, .int .i64 a.slot, .string ⟨a.fl.toArray⟩, .bool a.on] 37))
  have HP := qh (AsksPost.of (v0 := .slice A xs.length ca) (ys := xs ++ R) (w := w) (n8 := xs.length + 1) (by rw [HR.out, List.length_append]; rfl) (by rw [HR.out, atCells_app]; simpa [atCells, atRow] using hown8) ((Far.of_below _ hb4).trans (Far.of_grown hg8 fun i h => h.symm) fun i _ h => h) (fun i h hi => by
   have h : (Value.slice A8 (xs.length + 1) c8).ownBlock = some i := h
   rcases hv8 with h8 | h8
   ·rw [← h8]; exact h
   ·rw [h8] at h; injection h with h; (try simp at h); omega))
  clear hown8 hg8 hv8 hb4 HNC HOW2
  go_wp2
  go_ret
  exact HP.out
 have k1' : (kd == 1) = false := by simpa using k1
 by_cases k5 : kd = 5
 ·subst k5
  have hff := HFLA.out f (by unfold flagsN; rw [if_pos rfl]; simp)
  obtain ⟨fi, hfi⟩ : ∃ fi, ixOf f p.fs = some fi := by
   cases h : ixOf f p.fs with
   | none => exact absurd hff (ixOf_none.1 h)
   | some i => exact ⟨i, rfl⟩
  have hlt := ixOf_lt hfi
  obtain ⟨b3, o3, rfl, hbS3, hbc⟩ := HBO.out.at_ (k := fi) (by have := HBO.out.len; omega)
  have hfu : (fi : Int) < k := by have := HBO.out.len; omega
  have hfu0 : (0 : Int) ≤ (fi : Int) := by omega
  have HIO : Hid (ifOff ps m f no = (m.on.getD fi false == no)) := qh (by unfold ifOff; rw [HPM.out, hfi]; rfl)
  generalize m.on.getD fi false = ov at hbc HIO
  generalize ifOff ps m f no = io at HIO HC
  have hix := fun wx (hb : Below w.heap.size w wx) => indexS_any D q c' p.fs f wx S (HF.out.below (w' := wx) hb fun i hi => (HS.out i hi).1) hq
  rw [hfi] at hix
  unfold ixI at hix
  have Hix := qh hix
  have hbl3 := (HS.out _ hbS3).1
  have qb := (HBX.out.cell (p := ⟨b3, o3 + fi, none⟩) hbl3).trans hbc
  have n3 := HKB.out.n.cell 3; have n7 := HKB.out.n.cell 7; have n8 := HKB.out.n.cell 8; have m1 := HKB.out.m.cell 1; have p3 := HKB.out.p.cell 3
  simp only [qgz, qgs] at n3 n7 n8 m1 p3
  clear hix hfi hlt hff hbc
  by_cases hov : ov = no
  ·have hov1 : (ov == no) = true := by subst hov; cases ov <;> rfl
   have HR : Hid (R = []) := qh (by rw [HC.out, if_neg k1, if_pos ⟨rfl, by rw [HIO.out]; exact hov1⟩])
   clear hov HC k1
   have n0 := HKB.out.n.cell 0
   simp only [List.getElem?_cons_zero] at n0
   have nlt := HKB.out.n.lt
   have plt := HKB.out.p.lt
   have mlt := HKB.out.m.lt
   go_enter Tryz.func42, Tryz.ntmps42
   go_wp2
   generalize World.alloc (World.alloc (World.alloc w _) _) _ = w5 at *
   go_quiet ((go_at_call 56; first | exact Calls.quiet_of_same (Hix.out _ HBX.out) | exact Calls.quiet_of_same (Hix.out _ (below_drewN HBX.out _))))
   rename_i nq
   have HP := qh (AsksPost.of (v0 := .slice A xs.length ca) (ys := xs ++ R) (w := w) (n8 := xs.length) (by rw [HR.out, List.append_nil]) (by rw [HR.out, List.append_nil]; exact own_drewN HOW.out nq) ((Far.of_below _ HBX.out).drewN nq) (fun i h _ => h))
   go_wp2
   go_ret
   exact HP.out
  ·have hov1 : (ov == no) = false := by cases ov <;> cases no <;> simp_all
   have HR : Hid (R = asksL ps m ks) := qh (by rw [HC.out, if_neg k1, if_neg (fun h => by rw [HIO.out, hov1] at h; cases h.2)])
   clear hov HC k1
   have n0 := HKB.out.n.cell 0
   simp only [List.getElem?_cons_zero] at n0
   have nlt := HKB.out.n.lt
   have plt := HKB.out.p.lt
   have mlt := HKB.out.m.lt
   have n9 := HKB.out.n.cell 9
   simp only [qgz, qgs] at n9
   go_enter Tryz.func42, Tryz.ntmps42
   go_wp2
   generalize World.alloc (World.alloc (World.alloc w _) _) _ = w5 at *
   go_quiet ((go_at_call 56; first | exact Calls.quiet_of_same (Hix.out _ HBX.out) | exact Calls.quiet_of_same (Hix.out _ (below_drewN HBX.out _))))
   rename_i nq
   have HKB5 := qh (HKB.out.far (Far.drewN (Far.refl (fun _ => False) _) nq) fun _ h => h.elim)
   have HOW5 := qh (own_drewN HOW.out nq)
   have HBX5 := qh (below_drewN HBX.out nq)
   clear HKB HOW HBX
   have HKB := HKB5; have HOW := HOW5; have HBX := HBX5
   clear HKB5 HOW5 HBX5
   go_wp2
   clear n0 nlt plt mlt
   (try clear n3 n7 n8 m1 p3 qb)
   obtain ⟨w6, hw6⟩ : ∃ x, x = w5.drewN nq := ⟨_, rfl⟩
   rw [← hw6] at HKB HOW HBX ⊢
   clear hw6
   go_loopg [3, 40] r (fun g ov iv wr => ∃ (i : Nat) (A1 : Option Addr) (c1 : Nat), Hid (i + g = r) ∧ iv = .int .i64 i ∧ ov = .slice A1 (xs ++ asksL ps m (ks.take i)).length c1 ∧ Hid (wr.ownsRow base 37 6 (.slice A1 (xs ++ asksL ps m (ks.take i)).length c1) (xs ++ asksL ps m (ks.take i)).length (atCells (xs ++ asksL ps m (ks.take i)))) ∧ Hid (Far (fun j => (Value.slice A xs.length ca).ownBlock = some j) w6 wr) ∧ Hid (∀ j, (Value.slice A1 (xs ++ asksL ps m (ks.take i)).length c1).ownBlock = some j → j < w6.heap.size → (Value.slice A xs.length ca).ownBlock = some j))
   case atStart => exact ⟨0, A, ca, qh (Nat.zero_add _), rfl, by simp [asksL], qh (by simpa [asksL] using HOW.out), qh (Far.refl _ _), qh (fun j h _ => by simpa [asksL] using h)⟩
   case round =>
    obtain ⟨i, A1, c1, Hi1, rfl, rfl, Hown1, Hfar, Hob⟩ := hrel
    have HKR := qh (HKB.out.far Hfar.out fun i h => .inl (HOLT.out i h))
    have HFR : Hid (Far (fun j => (Value.slice A xs.length ca).ownBlock = some j) w wr) := qh ((Far.of_below _ HBX.out).trans Hfar.out fun i _ h => h)
    by_cases hi : i < r
    ·obtain ⟨b, o, x, y, hCe, hbS, hy, hxy, hcell⟩ := (HKD.out.keep (w' := wr) fun p hp => HFR.out.cell (HS.out _ hp).1 (HS.out _ hp).2).at_ hi
     subst hCe
     have Hst := qh (asksL_step (ps := ps) (me := m) hy)
     have hyk := List.mem_of_getElem? hy
     have hbl : b < wr.heap.size := ql (HS.out _ hbS).1 HFR.out.size
     have hnt := nodesL_take hy
     have hal := asksL_len ps m (ks.take i)
     have hlx : (xs ++ asksL ps m (ks.take i)).length + y.nodes ≤ 100000 := by rw [List.length_append]; omega
     obtain ⟨k2, a2, f2, no2, ks2⟩ := y
     obtain ⟨D2, r2, e2, rfl, _, _, _, _, _, _⟩ := hxy.open_
     have g0 := hcell 0 (by omega); have g1 := hcell 1 (by omega); have g2 := hcell 2 (by omega); have g3 := hcell 3 (by omega); have g4 := hcell 4 (by omega); have g5 := hcell 5 (by omega); have g6 := hcell 6 (by omega); have g7 := hcell 7 (by omega); have g8 := hcell 8 (by omega); have g9 := hcell 9 (by omega)
     have hbx : Below wr.heap.size wr (wr.alloc (.cells (ndRow k2 a2 f2 no2 D2 r2 e2).toArray 40)) := (Below.refl _ _).alloc (qr _) _
     have hfx : Far (fun j => (Value.slice A xs.length ca).ownBlock = some j) w (wr.alloc (.cells (ndRow k2 a2 f2 no2 D2 r2 e2).toArray 40)) := HFR.out.trans (Far.of_below (fun _ => False) hbx) fun _ _ h => h.elim
     have hcall := Heach.out _ hyk (xs ++ asksL ps m (ks.take i)) A1 c1 (ndRow k2 a2 f2 no2 D2 r2 e2) (wr.alloc (.cells (ndRow k2 a2 f2 no2 D2 r2 e2).toArray 40))
      (HF.out.keep fun p hp => hfx.cell (HS.out _ hp).1 (HS.out _ hp).2) (Row.keep HBO.out fun p hp => hfx.cell (HS.out _ hp).1 (HS.out _ hp).2) (hxy.keep fun p hp => hbx.cell (ql (HS.out _ hp).1 HFR.out.size))
      (fun g hg => HFLA.out g (by unfold flagsN; exact List.mem_append_right _ (flagsN_in hyk g hg)))
      (fun i hi => ⟨ql (HS.out i hi).1 hfx.size, fun e => (HS.out i hi).2 (Hob.out i e (ql (HS.out i hi).1 HBX.out.size))⟩)
      (Hown1.out.alloc _) (Nat.le_trans hbase hfx.size) hlx
     unfold ndRow at g0 g1 g2 g3 g4 g5 g6 g7 g8 g9 hcall
     simp only [List.getElem?_cons_zero, List.getElem?_cons_succ, Nat.add_zero] at g0 g1 g2 g3 g4 g5 g6 g7 g8 g9
     rw [List.append_assoc, ← Hst.out] at hcall
     have Hc := qh hcall
     have p0 := HKR.out.p.cell 0; have p1 := HKR.out.p.cell 1; have p2 := HKR.out.p.cell 2; have p3 := HKR.out.p.cell 3; have p4 := HKR.out.p.cell 4; have p5 := HKR.out.p.cell 5; have p6 := HKR.out.p.cell 6; have p7 := HKR.out.p.cell 7; have p8 := HKR.out.p.cell 8; have p9 := HKR.out.p.cell 9; have p10 := HKR.out.p.cell 10; have p11 := HKR.out.p.cell 11; have p12 := HKR.out.p.cell 12; have p13 := HKR.out.p.cell 13
     have m0 := HKR.out.m.cell 0; have m1 := HKR.out.m.cell 1
     simp only [qgz, qgs] at p0 p1 p2 p3 p4 p5 p6 p7 p8 p9 p10 p11 p12 p13 m0 m1
     have plt := HKR.out.p.lt
     have mlt := HKR.out.m.lt
     have HBX2 := qh hbx
     clear hcell hxy hcall hy hyk hbx hfx hnt hal hlx
     generalize (xs ++ asksL ps m (ks.take i)).length = q1 at Hown1 Hob Hc ⊢
     go_wp2_with (first | (go_at_call 42; refine Hc.out.mono ?_; rintro e w7 ⟨A7, c7, rfl, hown7, hfar7, hob7⟩; refine Hid.out ?_))
     refine qh ?_
     have Hown7 := qh hown7
     have Hfar7 : Hid (Far (fun j => (Value.slice A xs.length ca).ownBlock = some j) w6 w7) := qh (((Hfar.out.trans (Far.of_below (fun _ => False) HBX2.out) fun _ _ h => h.elim)).trans hfar7 fun i hi h => Hob.out i h hi)
     have Hob7 := qh (fun j (h : (Value.slice A7 (xs ++ asksL ps m (ks.take (i + 1))).length c7).ownBlock = some j) (hj : j < w6.heap.size) => Hob.out j (hob7 j h (ql hj (Nat.le_trans Hfar.out.size HBX2.out.size))) hj)
     clear hown7 hfar7 hob7 p0 p1 p2 p3 p4 p5 p6 p7 p8 p9 p10 p11 p12 p13 m0 m1 plt mlt g0 g1 g2 g3 g4 g5 g6 g7 g8 g9
     go_wp2
     go_roundg (gk - 1)
     case measure => have := Hi1.out; omega
     case rel => exact ⟨i + 1, A7, c7, qh (by have := Hi1.out; omega), by go_num, by rw [List.length_append], Hown7, Hfar7, Hob7⟩
    ·obtain rfl : r = i := by have := Hi1.out; omega
     have hfull : ks.take r = ks := List.take_of_length_le (by rw [Hkl.out]; exact qr _)
     rw [hfull, ← HR.out] at Hown1 Hob ⊢
     have HP := qh (AsksPost.of (v0 := .slice A xs.length ca) (ys := xs ++ R) (w := w) rfl Hown1.out HFR.out fun i h hi => Hob.out i h (ql hi HBX.out.size))
     generalize (xs ++ R).length = q1 at HP ⊢
     go_wp2
     go_ret
     exact HP.out
 ·have k5' : (kd == 5) = false := by simpa using k5
  have HR : Hid (R = asksL ps m ks) := qh (by rw [HC.out, if_neg k1, if_neg (fun h => k5 h.1)])
  clear k1 k5 HC
  have n0 := HKB.out.n.cell 0
  simp only [List.getElem?_cons_zero] at n0
  have nlt := HKB.out.n.lt
  have plt := HKB.out.p.lt
  have mlt := HKB.out.m.lt
  have n9 := HKB.out.n.cell 9
  simp only [qgz, qgs] at n9
  go_enter Tryz.func42, Tryz.ntmps42
  go_wp2
  generalize World.alloc (World.alloc (World.alloc w _) _) _ = w5 at *
  go_quiet (fail)
  rename_i nq
  have HKB5 := qh (HKB.out.far (Far.drewN (Far.refl (fun _ => False) _) nq) fun _ h => h.elim)
  have HOW5 := qh (own_drewN HOW.out nq)
  have HBX5 := qh (below_drewN HBX.out nq)
  clear HKB HOW HBX
  have HKB := HKB5; have HOW := HOW5; have HBX := HBX5
  clear HKB5 HOW5 HBX5
  go_wp2
  clear n0 nlt plt mlt
  (try clear n3 n7 n8 m1 p3 qb)
  obtain ⟨w6, hw6⟩ : ∃ x, x = w5.drewN nq := ⟨_, rfl⟩
  rw [← hw6] at HKB HOW HBX ⊢
  clear hw6
  go_loopg [3, 40] r (fun g ov iv wr => ∃ (i : Nat) (A1 : Option Addr) (c1 : Nat), Hid (i + g = r) ∧ iv = .int .i64 i ∧ ov = .slice A1 (xs ++ asksL ps m (ks.take i)).length c1 ∧ Hid (wr.ownsRow base 37 6 (.slice A1 (xs ++ asksL ps m (ks.take i)).length c1) (xs ++ asksL ps m (ks.take i)).length (atCells (xs ++ asksL ps m (ks.take i)))) ∧ Hid (Far (fun j => (Value.slice A xs.length ca).ownBlock = some j) w6 wr) ∧ Hid (∀ j, (Value.slice A1 (xs ++ asksL ps m (ks.take i)).length c1).ownBlock = some j → j < w6.heap.size → (Value.slice A xs.length ca).ownBlock = some j))
  case atStart => exact ⟨0, A, ca, qh (Nat.zero_add _), rfl, by simp [asksL], qh (by simpa [asksL] using HOW.out), qh (Far.refl _ _), qh (fun j h _ => by simpa [asksL] using h)⟩
  case round =>
   obtain ⟨i, A1, c1, Hi1, rfl, rfl, Hown1, Hfar, Hob⟩ := hrel
   have HKR := qh (HKB.out.far Hfar.out fun i h => .inl (HOLT.out i h))
   have HFR : Hid (Far (fun j => (Value.slice A xs.length ca).ownBlock = some j) w wr) := qh ((Far.of_below _ HBX.out).trans Hfar.out fun i _ h => h)
   by_cases hi : i < r
   ·obtain ⟨b, o, x, y, hCe, hbS, hy, hxy, hcell⟩ := (HKD.out.keep (w' := wr) fun p hp => HFR.out.cell (HS.out _ hp).1 (HS.out _ hp).2).at_ hi
    subst hCe
    have Hst := qh (asksL_step (ps := ps) (me := m) hy)
    have hyk := List.mem_of_getElem? hy
    have hbl : b < wr.heap.size := ql (HS.out _ hbS).1 HFR.out.size
    have hnt := nodesL_take hy
    have hal := asksL_len ps m (ks.take i)
    have hlx : (xs ++ asksL ps m (ks.take i)).length + y.nodes ≤ 100000 := by rw [List.length_append]; omega
    obtain ⟨k2, a2, f2, no2, ks2⟩ := y
    obtain ⟨D2, r2, e2, rfl, _, _, _, _, _, _⟩ := hxy.open_
    have g0 := hcell 0 (by omega); have g1 := hcell 1 (by omega); have g2 := hcell 2 (by omega); have g3 := hcell 3 (by omega); have g4 := hcell 4 (by omega); have g5 := hcell 5 (by omega); have g6 := hcell 6 (by omega); have g7 := hcell 7 (by omega); have g8 := hcell 8 (by omega); have g9 := hcell 9 (by omega)
    have hbx : Below wr.heap.size wr (wr.alloc (.cells (ndRow k2 a2 f2 no2 D2 r2 e2).toArray 40)) := (Below.refl _ _).alloc (qr _) _
    have hfx : Far (fun j => (Value.slice A xs.length ca).ownBlock = some j) w (wr.alloc (.cells (ndRow k2 a2 f2 no2 D2 r2 e2).toArray 40)) := HFR.out.trans (Far.of_below (fun _ => False) hbx) fun _ _ h => h.elim
    have hcall := Heach.out _ hyk (xs ++ asksL ps m (ks.take i)) A1 c1 (ndRow k2 a2 f2 no2 D2 r2 e2) (wr.alloc (.cells (ndRow k2 a2 f2 no2 D2 r2 e2).toArray 40))
     (HF.out.keep fun p hp => hfx.cell (HS.out _ hp).1 (HS.out _ hp).2) (Row.keep HBO.out fun p hp => hfx.cell (HS.out _ hp).1 (HS.out _ hp).2) (hxy.keep fun p hp => hbx.cell (ql (HS.out _ hp).1 HFR.out.size))
     (fun g hg => HFLA.out g (by unfold flagsN; exact List.mem_append_right _ (flagsN_in hyk g hg)))
     (fun i hi => ⟨ql (HS.out i hi).1 hfx.size, fun e => (HS.out i hi).2 (Hob.out i e (ql (HS.out i hi).1 HBX.out.size))⟩)
     (Hown1.out.alloc _) (Nat.le_trans hbase hfx.size) hlx
    unfold ndRow at g0 g1 g2 g3 g4 g5 g6 g7 g8 g9 hcall
    simp only [List.getElem?_cons_zero, List.getElem?_cons_succ, Nat.add_zero] at g0 g1 g2 g3 g4 g5 g6 g7 g8 g9
    rw [List.append_assoc, ← Hst.out] at hcall
    have Hc := qh hcall
    have p0 := HKR.out.p.cell 0; have p1 := HKR.out.p.cell 1; have p2 := HKR.out.p.cell 2; have p3 := HKR.out.p.cell 3; have p4 := HKR.out.p.cell 4; have p5 := HKR.out.p.cell 5; have p6 := HKR.out.p.cell 6; have p7 := HKR.out.p.cell 7; have p8 := HKR.out.p.cell 8; have p9 := HKR.out.p.cell 9; have p10 := HKR.out.p.cell 10; have p11 := HKR.out.p.cell 11; have p12 := HKR.out.p.cell 12; have p13 := HKR.out.p.cell 13
    have m0 := HKR.out.m.cell 0; have m1 := HKR.out.m.cell 1
    simp only [qgz, qgs] at p0 p1 p2 p3 p4 p5 p6 p7 p8 p9 p10 p11 p12 p13 m0 m1
    have plt := HKR.out.p.lt
    have mlt := HKR.out.m.lt
    have HBX2 := qh hbx
    clear hcell hxy hcall hy hyk hbx hfx hnt hal hlx
    generalize (xs ++ asksL ps m (ks.take i)).length = q1 at Hown1 Hob Hc ⊢
    go_wp2_with (first | (go_at_call 42; refine Hc.out.mono ?_; rintro e w7 ⟨A7, c7, rfl, hown7, hfar7, hob7⟩; refine Hid.out ?_))
    refine qh ?_
    have Hown7 := qh hown7
    have Hfar7 : Hid (Far (fun j => (Value.slice A xs.length ca).ownBlock = some j) w6 w7) := qh (((Hfar.out.trans (Far.of_below (fun _ => False) HBX2.out) fun _ _ h => h.elim)).trans hfar7 fun i hi h => Hob.out i h hi)
    have Hob7 := qh (fun j (h : (Value.slice A7 (xs ++ asksL ps m (ks.take (i + 1))).length c7).ownBlock = some j) (hj : j < w6.heap.size) => Hob.out j (hob7 j h (ql hj (Nat.le_trans Hfar.out.size HBX2.out.size))) hj)
    clear hown7 hfar7 hob7 p0 p1 p2 p3 p4 p5 p6 p7 p8 p9 p10 p11 p12 p13 m0 m1 plt mlt g0 g1 g2 g3 g4 g5 g6 g7 g8 g9
    go_wp2
    go_roundg (gk - 1)
    case measure => have := Hi1.out; omega
    case rel => exact ⟨i + 1, A7, c7, qh (by have := Hi1.out; omega), by go_num, by rw [List.length_append], Hown7, Hfar7, Hob7⟩
   ·obtain rfl : r = i := by have := Hi1.out; omega
    have hfull : ks.take r = ks := List.take_of_length_le (by rw [Hkl.out]; exact qr _)
    rw [hfull, ← HR.out] at Hown1 Hob ⊢
    have HP := qh (AsksPost.of (v0 := .slice A xs.length ca) (ys := xs ++ R) (w := w) rfl Hown1.out HFR.out fun i h hi => Hob.out i h (ql hi HBX.out.size))
    generalize (xs ++ R).length = q1 at HP ⊢
    go_wp2
    go_ret
    exact HP.out
end
/- Those that a member leans on, gathered and sorted. No program in sight. -/
section
open Go.RowKit Qm

def addK (q : Nat → Bool) (xs : List Int) (k : Nat) : List Int := if q k = true ∧ xs.contains (k : Int) = false then xs ++ [(k : Int)] else xs
def addTo (q : Nat → Bool) (xs : List Int) : Nat → List Int
 | 0 => xs
 | k + 1 => addK q (addTo q xs k) k
def addAll (ps : List Pk) (l : List Mem) : List At → List Int → List Int
 | [], xs => xs
 | a :: r, xs => addAll ps l r (addTo (fun k => isA ps (memAt l k) a) xs l.length)
theorem addK_mem {q : Nat → Bool} {xs : List Int} {k : Nat} {x : Int} : x ∈ addK q xs k ↔ x ∈ xs ∨ (q k = true ∧ x = (k : Int)) := by
 unfold addK
 by_cases h : q k = true ∧ xs.contains (k : Int) = false
 ·rw [if_pos h, List.mem_append, List.mem_singleton]
  exact or_congr Iff.rfl ⟨fun e => ⟨h.1, e⟩, fun e => e.2⟩
 ·rw [if_neg h]
  refine ⟨.inl, fun g => g.elim id fun ⟨g1, g2⟩ => ?_⟩
  subst g2
  cases hc : xs.contains (k : Int)
  ·exact absurd ⟨g1, hc⟩ h
  ·exact List.contains_iff_mem.1 hc
theorem addK_nodup {q : Nat → Bool} {xs : List Int} {k : Nat} (h : xs.Nodup) : (addK q xs k).Nodup := by
 unfold addK
 by_cases g : q k = true ∧ xs.contains (k : Int) = false
 ·rw [if_pos g, List.nodup_append]
  refine ⟨h, by simp, fun a ha b hb e => ?_⟩
  rw [List.mem_singleton] at hb
  subst hb e
  have := List.contains_iff_mem.2 ha
  rw [g.2] at this; cases this
 ·rw [if_neg g]; exact h
theorem addTo_mem {q : Nat → Bool} {xs : List Int} {x : Int} : ∀ {k : Nat}, x ∈ addTo q xs k ↔ x ∈ xs ∨ ∃ j, j < k ∧ q j = true ∧ x = (j : Int)
 | 0 => ⟨.inl, fun h => h.elim id fun ⟨j, hj, _⟩ => by omega⟩
 | k + 1 => by
  rw [addTo, addK_mem, addTo_mem]
  constructor
  ·rintro ((h | ⟨j, h1, h2⟩) | ⟨h1, h2⟩)
   ·exact .inl h
   ·exact .inr ⟨j, by omega, h2⟩
   ·exact .inr ⟨k, by omega, h1, h2⟩
  ·rintro (h | ⟨j, h1, h2, h3⟩)
   ·exact .inl (.inl h)
   ·by_cases e : j = k
    ·subst e; exact .inr ⟨h2, h3⟩
    ·exact .inl (.inr ⟨j, by omega, h2, h3⟩)
theorem addTo_nodup {q : Nat → Bool} {xs : List Int} (h : xs.Nodup) : ∀ {k : Nat}, (addTo q xs k).Nodup
 | 0 => h
 | k + 1 => addK_nodup (addTo_nodup h)
theorem addAll_mem {ps : List Pk} {l : List Mem} {x : Int} : ∀ {az : List At} {xs : List Int}, x ∈ addAll ps l az xs ↔ x ∈ xs ∨ ∃ j, j < l.length ∧ az.any (fun a => isA ps (memAt l j) a) = true ∧ x = (j : Int)
 | [], xs => by simp [addAll]
 | a :: r, xs => by
  rw [addAll, addAll_mem, addTo_mem]
  constructor
  ·rintro ((h | ⟨j, h1, h2, h3⟩) | ⟨j, h1, h2, h3⟩)
   ·exact .inl h
   ·exact .inr ⟨j, h1, by rw [List.any_cons, h2]; rfl, h3⟩
   ·exact .inr ⟨j, h1, by rw [List.any_cons, h2, Bool.or_true], h3⟩
  ·rintro (h | ⟨j, h1, h2, h3⟩)
   ·exact .inl (.inl h)
   ·rw [List.any_cons, Bool.or_eq_true] at h2
    rcases h2 with h2 | h2
    ·exact .inl (.inr ⟨j, h1, h2, h3⟩)
    ·exact .inr ⟨j, h1, h2, h3⟩
theorem addAll_nodup {ps : List Pk} {l : List Mem} : ∀ {az : List At} {xs : List Int}, xs.Nodup → (addAll ps l az xs).Nodup
 | [], _, h => h
 | a :: r, xs, h => by rw [addAll]; exact addAll_nodup (addTo_nodup h)
theorem addTo_len {q : Nat → Bool} {xs : List Int} : ∀ {k : Nat}, (addTo q xs k).length ≤ xs.length + k
 | 0 => Nat.le_refl _
 | k + 1 => by
  have := addTo_len (q := q) (xs := xs) (k := k)
  rw [addTo]; unfold addK; split
  ·simp; omega
  ·omega
theorem addAll_len {ps : List Pk} {l : List Mem} {az : List At} : (addAll ps l az []).length ≤ l.length := by
 have hn := addAll_nodup (ps := ps) (l := l) (az := az) (xs := []) List.nodup_nil
 have hm : ∀ x ∈ addAll ps l az [], x ∈ (List.range l.length).map fun (k : Nat) => (k : Int) := fun x hx => by
  rcases addAll_mem.1 hx with h | ⟨j, h1, _, h3⟩
  ·cases h
  ·exact List.mem_map.2 ⟨j, List.mem_range.2 h1, h3.symm⟩
 have : ∀ {a b : List Int}, a.Nodup → (∀ x ∈ a, x ∈ b) → a.length ≤ b.length := by
  intro a
  induction a with
  | nil => intro b _ _; exact Nat.zero_le _
  | cons x r ih =>
   intro b hn hm
   rw [List.nodup_cons] at hn
   have hxb := hm x (List.mem_cons_self ..)
   have h1 := ih (b := b.erase x) hn.2 fun y hy => (List.mem_erase_of_ne (show y ≠ x from fun e => hn.1 (by rw [← e]; exact hy))).2 (hm y (List.mem_cons_of_mem _ hy))
   have h2 := List.length_erase_of_mem hxb
   have h3 := List.length_pos_of_mem hxb
   simp only [List.length_cons]; omega
 have h := this hn hm
 simpa using h
theorem addAll_sorted (ps : List Pk) (l : List Mem) (i : Nat) : (addAll ps l (asksN ps (memAt l i) (pkOf ps (memAt l i).pl).nd) []).mergeSort (fun x y => decide (x ≤ y)) = (leansAt ps l i).map fun (k : Nat) => (k : Int) := by
 have hsub : (leansAt ps l i).Pairwise (· < ·) := by unfold leansAt; exact List.Pairwise.filter _ List.pairwise_lt_range
 have hs1 : ((leansAt ps l i).map fun (k : Nat) => (k : Int)).Pairwise (fun a b => decide (a ≤ b) = true) := by
  rw [List.pairwise_map]
  exact hsub.imp fun h => decide_eq_true (by omega)
 have hn1 : ((leansAt ps l i).map fun (k : Nat) => (k : Int)).Nodup := by
  rw [List.Nodup, List.pairwise_map]
  exact hsub.imp fun h => by omega
 have hperm : (addAll ps l (asksN ps (memAt l i) (pkOf ps (memAt l i).pl).nd) []).Perm ((leansAt ps l i).map fun (k : Nat) => (k : Int)) := by
  rw [List.perm_ext_iff_of_nodup (addAll_nodup List.nodup_nil) hn1]
  intro x
  rw [addAll_mem, List.mem_map]
  constructor
  ·rintro (h | ⟨j, h1, h2, h3⟩)
   ·cases h
   ·exact ⟨j, mem_leansAt.2 ⟨h1, h2⟩, h3.symm⟩
  ·rintro ⟨j, h1, h2⟩
   obtain ⟨g1, g2⟩ := mem_leansAt.1 h1
   exact .inr ⟨j, g1, g2, h2.symm⟩
 have hs2 := List.pairwise_mergeSort (le := fun x y : Int => decide (x ≤ y)) (fun a b c h1 h2 => by simp only [decide_eq_true_eq] at *; omega) (fun a b => by simp only [Bool.or_eq_true, decide_eq_true_eq]; omega) (addAll ps l (asksN ps (memAt l i) (pkOf ps (memAt l i).pl).nd) [])
 exact ((List.mergeSort_perm _ _).trans hperm).eq_of_pairwise (fun a b _ _ h1 h2 => by simp only [decide_eq_true_eq] at *; omega) hs2 hs1
end
/- The first element that meets something; a function value that answers of each. -/
section
open Go.RowKit Qm
def ixB {α : Type} (p : α → Bool) (xs : List α) : Int := match xs.findIdx? p with | some i => (i : Int) | none => -1
theorem ixB_hit {α : Type} {p : α → Bool} {xs : List α} {k : Nat} {x : α} (hk : xs[k]? = some x) (hp : p x = true) (hn : (xs.take k).any p = false) : ixB p xs = k := by
 obtain ⟨hk', hx⟩ := List.getElem?_eq_some_iff.1 hk
 have e : xs.take k ++ x :: xs.drop (k+1) = xs := by
  rw [← hx, List.getElem_cons_drop, List.take_append_drop]
 have h1 : (xs.take k).findIdx? p = none := by
  rw [List.findIdx?_eq_none_iff]; intro y hy; exact by simpa using List.any_eq_false.1 hn y hy
 have h2 : (xs.take k ++ x :: xs.drop (k+1)).findIdx? p = some k := by
  have hl : (xs.take k).length = k := by rw [List.length_take]; omega
  rw [List.findIdx?_append, h1, List.findIdx?_cons, hp, hl]; simp
 rw [e] at h2
 unfold ixB
 rw [h2]
theorem ixB_next {α : Type} {p : α → Bool} {xs : List α} {k : Nat} {x : α} (hk : xs[k]? = some x) (hp : p x = false) (hn : (xs.take k).any p = false) : (xs.take (k + 1)).any p = false := by
 obtain ⟨hk', rfl⟩ := List.getElem?_eq_some_iff.1 hk
 clear hk
 rw [List.take_succ_eq_append_getElem hk', List.any_append, hn]; simp [hp]
theorem ixB_none {α : Type} {p : α → Bool} {xs : List α} (h : xs.any p = false) : ixB p xs = -1 := by
 have h1 : xs.findIdx? p = none := by
  rw [List.findIdx?_eq_none_iff]; intro y hy; exact by simpa using List.any_eq_false.1 h y hy
 unfold ixB; rw [h1]
theorem ixB_any {α : Type} (p : α → Bool) (xs : List α) : decide ((0 : Int) ≤ ixB p xs) = xs.any p := by
 cases h : xs.any p
 ·rw [ixB_none h]; rfl
 ·unfold ixB
  cases h1 : xs.findIdx? p with
  | none =>
   rw [List.findIdx?_eq_none_iff] at h1
   obtain ⟨x, hx, hp⟩ := List.any_eq_true.1 h
   rw [h1 x hx] at hp; cases hp
  | some i => simp
def AsksB {α : Type} (P : Program) (w : World) (F : FuncId) (caps : Array Value) (R : List Value → α → Prop) (xs : List α) (p : α → Bool) : Prop :=
 (∀ (args : Array Value) (W : World), (callFunc F args).run P W = .ok (.enter F args) W) ∧
  ∀ x ∈ xs, ∀ (cx : List Value) (W : World), Below w.heap.size w W → R cx x → Calls P F (#[.agg cx.toArray] ++ caps) W fun e w' => e = .returned (.bool (p x)) ∧ Below W.heap.size W w'
end
/- slices.IndexFunc, slices.ContainsFunc of slices whose elements have 2 cells. (Printed by wip/bin/mkcf.py.) -/
section
open Go.RowKit Qm

def ShapeC_M (x : List Value) : Prop := ∃ (x0 : Int) (x1a : Option Addr) (x1n x1c : Nat), x = [.int .i64 x0, .slice x1a x1n x1c]
set_option maxRecDepth 100000 in
set_option maxHeartbeats 3200000 in
theorem indexF_M {α : Type} (R : List Value → α → Prop) (p : α → Bool) (A : Option Addr) (n c : Nat) (xs : List α) (F : FuncId) (caps : Array Value) (w : World) (S : Nat → Prop) (hK : RSeq 2 R w S A n xs) (hS : ∀ k, S k → k < w.heap.size) (hn : n ≤ maxLen) (hF : AsksB Tryz.prog w F caps R xs p) (hsh : ∀ x y, R x y → ShapeC_M x) :
  Calls Tryz.prog 65 #[.slice A n c, .func (.func F) #[] caps] w fun e w' => e = .returned (.int .i64 (ixB p xs)) ∧ Below w.heap.size w w' := by
 unfold maxLen at hn
 have HK := qh hK; have HS := qh hS; have HF := qh hF; clear hK hS hF
 have Hlen := qh HK.out.len
 go_enter Tryz.func65, Tryz.ntmps65
 go_wp2
 go_loopg [8] n (fun g iv wr => ∃ (j : Nat), Hid (j + g = n) ∧ iv = .int .i64 j ∧ Hid ((xs.take j).any p = false) ∧ Below w.heap.size w wr)
 case atStart => exact ⟨0, qh (Nat.zero_add _), rfl, qh rfl, Below.refl _ _⟩
 case round =>
  obtain ⟨j, Hj, rfl, Hcl, hb⟩ := hrel
  have HBr := qh hb; clear hb
  by_cases hj : j < n
  ·obtain ⟨b, o, x, y, rfl, hb, hy, hxy, hxl, hcell⟩ := (HK.out.keep (w' := wr) (fun p hp => HBr.out.cell (HS.out _ hp)) fun _ _ h => h).at_ hj (by decide)
   have Hhit := qh (fun h => ixB_hit hy h Hcl.out)
   have Hmiss := qh (fun h => ixB_next hy h Hcl.out)
   have hmem := List.mem_of_getElem? hy
   obtain ⟨x0, x1a, x1n, x1c, rfl⟩ := hsh _ _ hxy
   have g0 := hcell 0 (by omega); have g1 := hcell 1 (by omega)
   simp only [List.getElem?_cons_zero, List.getElem?_cons_succ, Nat.add_zero] at g0 g1
   clear hcell hy
   have hcall := HF.out.2 _ hmem _ _ HBr.out hxy
   have henter := HF.out.1
   clear hxy hxl hmem
   generalize p y = q at hcall Hhit Hmiss
   have Hcall := qh hcall; clear hcall
   cases q
   ·have Hm := qh (Hmiss.out rfl)
    go_wp2_with fail
    refine Hcall.out.mono ?_
    rintro e w' ⟨rfl, hb'⟩
    have HB3 := qh (HBr.out.trans (hb'.mono HBr.out.size)); clear hb'
    go_wp2_with fail
    go_roundg (gk - 1)
    case measure => have := Hj.out; omega
    case rel => exact ⟨j + 1, qh (by have := Hj.out; omega), by go_num, Hm, HB3.out⟩
   ·have Hh := qh (Hhit.out rfl)
    go_wp2_with fail
    refine Hcall.out.mono ?_
    rintro e w' ⟨rfl, hb'⟩
    have HB3 := qh (HBr.out.trans (hb'.mono HBr.out.size)); clear hb'
    go_wp2_with fail
    go_ret
    exact ⟨ret_int Hh.out.symm, HB3.out⟩
  ·go_wp2_with fail
   go_ret
   refine ⟨ret_int ?_, HBr.out⟩
   have h1 := Hcl.out
   rw [List.take_of_length_le (by have := Hlen.out; omega)] at h1
   exact (ixB_none h1).symm
set_option maxHeartbeats 400000 in
theorem containsF_M {α : Type} (R : List Value → α → Prop) (p : α → Bool) (A : Option Addr) (n c : Nat) (xs : List α) (F : FuncId) (caps : Array Value) (w : World) (S : Nat → Prop) (hK : RSeq 2 R w S A n xs) (hS : ∀ k, S k → k < w.heap.size) (hn : n ≤ maxLen) (hF : AsksB Tryz.prog w F caps R xs p) (hsh : ∀ x y, R x y → ShapeC_M x) :
  Calls Tryz.prog 32 #[.slice A n c, .func (.func F) #[] caps] w fun e w' => e = .returned (.bool (xs.any p)) ∧ Below w.heap.size w w' := by
 have Hcall := qh (indexF_M R p A n c xs F caps w S hK hS hn hF hsh)
 have Hi := qh (ixB_any p xs)
 clear hK hS hF
 generalize ixB p xs = i at Hcall Hi
 go_enter Tryz.func32, Tryz.ntmps32
 go_wp2_with fail
 refine Hcall.out.mono ?_
 rintro e w' ⟨rfl, hb⟩
 have HB := qh hb; clear hb
 go_wp2_with fail
 go_ret
 exact ⟨ret_bool Hi.out, HB.out⟩
end
/- slices.IndexFunc, slices.ContainsFunc of slices whose elements have 10 cells. (Printed by wip/bin/mkcf.py.) -/
section
open Go.RowKit Qm

def ShapeC_N (x : List Value) : Prop := ∃ (x0 : Int) (x1 : ByteArray) (x2 : Int) (x3 : Int) (x4 : Int) (x5 : ByteArray) (x6 : Bool) (x7 : ByteArray) (x8 : Bool) (x9a : Option Addr) (x9n x9c : Nat), x = [.int .i64 x0, .string x1, .int .i64 x2, .int .i64 x3, .int .i64 x4, .string x5, .bool x6, .string x7, .bool x8, .slice x9a x9n x9c]
set_option maxRecDepth 100000 in
set_option maxHeartbeats 3200000 in
theorem indexF_N {α : Type} (R : List Value → α → Prop) (p : α → Bool) (A : Option Addr) (n c : Nat) (xs : List α) (F : FuncId) (caps : Array Value) (w : World) (S : Nat → Prop) (hK : RSeq 10 R w S A n xs) (hS : ∀ k, S k → k < w.heap.size) (hn : n ≤ maxLen) (hF : AsksB Tryz.prog w F caps R xs p) (hsh : ∀ x y, R x y → ShapeC_N x) :
  Calls Tryz.prog 49 #[.slice A n c, .func (.func F) #[] caps] w fun e w' => e = .returned (.int .i64 (ixB p xs)) ∧ Below w.heap.size w w' := by
 unfold maxLen at hn
 have HK := qh hK; have HS := qh hS; have HF := qh hF; clear hK hS hF
 have Hlen := qh HK.out.len
 go_enter Tryz.func49, Tryz.ntmps49
 go_wp2
 go_loopg [8] n (fun g iv wr => ∃ (j : Nat), Hid (j + g = n) ∧ iv = .int .i64 j ∧ Hid ((xs.take j).any p = false) ∧ Below w.heap.size w wr)
 case atStart => exact ⟨0, qh (Nat.zero_add _), rfl, qh rfl, Below.refl _ _⟩
 case round =>
  obtain ⟨j, Hj, rfl, Hcl, hb⟩ := hrel
  have HBr := qh hb; clear hb
  by_cases hj : j < n
  ·obtain ⟨b, o, x, y, rfl, hb, hy, hxy, hxl, hcell⟩ := (HK.out.keep (w' := wr) (fun p hp => HBr.out.cell (HS.out _ hp)) fun _ _ h => h).at_ hj (by decide)
   have Hhit := qh (fun h => ixB_hit hy h Hcl.out)
   have Hmiss := qh (fun h => ixB_next hy h Hcl.out)
   have hmem := List.mem_of_getElem? hy
   obtain ⟨x0, x1, x2, x3, x4, x5, x6, x7, x8, x9a, x9n, x9c, rfl⟩ := hsh _ _ hxy
   have g0 := hcell 0 (by omega); have g1 := hcell 1 (by omega); have g2 := hcell 2 (by omega); have g3 := hcell 3 (by omega); have g4 := hcell 4 (by omega); have g5 := hcell 5 (by omega); have g6 := hcell 6 (by omega); have g7 := hcell 7 (by omega); have g8 := hcell 8 (by omega); have g9 := hcell 9 (by omega)
   simp only [List.getElem?_cons_zero, List.getElem?_cons_succ, Nat.add_zero] at g0 g1 g2 g3 g4 g5 g6 g7 g8 g9
   clear hcell hy
   have hcall := HF.out.2 _ hmem _ _ HBr.out hxy
   have henter := HF.out.1
   clear hxy hxl hmem
   generalize p y = q at hcall Hhit Hmiss
   have Hcall := qh hcall; clear hcall
   cases q
   ·have Hm := qh (Hmiss.out rfl)
    go_wp2_with fail
    refine Hcall.out.mono ?_
    rintro e w' ⟨rfl, hb'⟩
    have HB3 := qh (HBr.out.trans (hb'.mono HBr.out.size)); clear hb'
    go_wp2_with fail
    go_roundg (gk - 1)
    case measure => have := Hj.out; omega
    case rel => exact ⟨j + 1, qh (by have := Hj.out; omega), by go_num, Hm, HB3.out⟩
   ·have Hh := qh (Hhit.out rfl)
    go_wp2_with fail
    refine Hcall.out.mono ?_
    rintro e w' ⟨rfl, hb'⟩
    have HB3 := qh (HBr.out.trans (hb'.mono HBr.out.size)); clear hb'
    go_wp2_with fail
    go_ret
    exact ⟨ret_int Hh.out.symm, HB3.out⟩
  ·go_wp2_with fail
   go_ret
   refine ⟨ret_int ?_, HBr.out⟩
   have h1 := Hcl.out
   rw [List.take_of_length_le (by have := Hlen.out; omega)] at h1
   exact (ixB_none h1).symm
set_option maxHeartbeats 400000 in
theorem containsF_N {α : Type} (R : List Value → α → Prop) (p : α → Bool) (A : Option Addr) (n c : Nat) (xs : List α) (F : FuncId) (caps : Array Value) (w : World) (S : Nat → Prop) (hK : RSeq 10 R w S A n xs) (hS : ∀ k, S k → k < w.heap.size) (hn : n ≤ maxLen) (hF : AsksB Tryz.prog w F caps R xs p) (hsh : ∀ x y, R x y → ShapeC_N x) :
  Calls Tryz.prog 19 #[.slice A n c, .func (.func F) #[] caps] w fun e w' => e = .returned (.bool (xs.any p)) ∧ Below w.heap.size w w' := by
 have Hcall := qh (indexF_N R p A n c xs F caps w S hK hS hn hF hsh)
 have Hi := qh (ixB_any p xs)
 clear hK hS hF
 generalize ixB p xs = i at Hcall Hi
 go_enter Tryz.func19, Tryz.ntmps19
 go_wp2_with fail
 refine Hcall.out.mono ?_
 rintro e w' ⟨rfl, hb⟩
 have HB := qh hb; clear hb
 go_wp2_with fail
 go_ret
 exact ⟨ret_bool Hi.out, HB.out⟩
end
/- The closures of valid.holds; what is at hand in it. -/
section
open Go.RowKit Qm

structure Cx (ps : List Pk) (l : List Mem) (S : Nat → Prop) (A : Option Addr) (n c : Nat) (B : Option Addr) (q d : Nat) (w : World) : Prop where
 t : RTree w S A n ps
 s : RSet w S B q l
 nc : n ≤ c
 cm : c ≤ maxLen
 n8 : n ≤ 8
 qd : q ≤ d
 dm : d ≤ maxLen
 ok : ∀ m ∈ l, MemOk ps m
 lt : ∀ k, S k → k < w.heap.size
section
variable {ps : List Pk} {l : List Mem} {S : Nat → Prop} {A B : Option Addr} {n c q d : Nat} {w w' : World}
theorem Cx.under (h : Cx ps l S A n c B q d w) (hb : Below w.heap.size w w') : Cx ps l S A n c B q d w' :=
 ⟨h.t.under hb h.lt, h.s.under hb h.lt, h.nc, h.cm, h.n8, h.qd, h.dm, h.ok, fun k hk => ql (h.lt k hk) hb.size⟩
end
theorem shape_mem {w : World} {S : Nat → Prop} {x : List Value} {m : Mem} (h : RMem w S x m) : ShapeC_M x := by
 obtain ⟨A, n, c, rfl, _⟩ := h
 exact ⟨_, _, _, _, rfl⟩
theorem shape_nd {w : World} {S : Nat → Prop} {x : List Value} {y : Nd} (h : RNd w S x y) : ShapeC_N x := by
 obtain ⟨k, a, f, no, ks⟩ := y
 obtain ⟨A, n, c, rfl, -⟩ := h.open_
 exact ⟨_, _, _, _, _, _, _, _, _, _, _, _, rfl⟩
theorem kids_seq {w : World} {S : Nat → Prop} {A : Option Addr} {n : Nat} {ks : List Nd} (h : RKids w S A n ks) : RSeq 10 (RNd w S) w S A n ks := by
 obtain ⟨cs, h1, h2, h3, h4⟩ := h
 refine ⟨cs, h1, h2, h3, fun x hx => ?_, h4⟩
 obtain ⟨j, hj, rfl⟩ := List.mem_iff_getElem.1 hx
 exact (h4 j _ (ks[j]'(by omega)) (List.getElem?_eq_getElem hj) (List.getElem?_eq_getElem _)).ten
end
/- valid.holds, walked. -/
section
open Go.RowKit Qm

structure Hb (w : World) (A : Option Addr) (n c : Nat) (B : Option Addr) (q d k : Nat) (nr : List Value) (wx : World) : Prop where
 t : Whole wx w.heap.size 24 [.slice A n c]
 l : Whole wx (w.heap.size + 1) 25 [.slice B q d]
 k : Whole wx (w.heap.size + 1 + 1) 3 [.int .i64 (k : Int)]
 n : Whole wx (w.heap.size + 1 + 1 + 1) 40 nr
 e : Whole wx (w.heap.size + 1 + 1 + 1 + 1) 67 [.func (.func 72) #[] #[.pointer (some ⟨w.heap.size, 0, none⟩), .pointer (some ⟨w.heap.size + 1, 0, none⟩), .pointer (some ⟨w.heap.size + 1 + 1, 0, none⟩)]]
 bel : Below w.heap.size w wx
theorem memAt_at {l : List Mem} {k : Nat} {m : Mem} (h : l[k]? = some m) : memAt l k = m := by
 unfold memAt
 rw [List.getD_eq_getElem?_getD, h]; rfl
end
end Go.Proofs.YtpipgffbhpnmkaaGreatDoor
