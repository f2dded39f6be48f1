/- Parts of the proof: walks and plain laws, side by side. -/
import Derived.Test.YtpipgffbhpnmkaaGreatDoorM15
import Derived.Test.YtpipgffbhpnmkaaGreatDoorM16
import Derived.Test.YtpipgffbhpnmkaaGreatDoorM13
import Derived.Test.YtpipgffbhpnmkaaGreatDoorM10
set_option linter.unusedVariables false
set_option linter.unusedSimpArgs false
set_option linter.unusedSectionVars false
namespace Go.Proofs.YtpipgffbhpnmkaaGreatDoor
/- order.Leans, walked. (Printed by wip/bin/mkoleans.py.) -/
section
open Go.RowKit Qm

def leansR (ps : List Pk) (l : List Mem) : List (List Int) := if ckSet ps l = 0 then leansL ps l else []
def LeansPost (w : World) (ps : List Pk) (l : List Mem) (e : Ending) (w' : World) : Prop :=
 ∃ A c, e = .returned (.tuple #[.slice A (leansR ps l).length c, .int .i64 (ckSet ps l)]) ∧ RClauses w' (fun i => w.heap.size ≤ i ∧ i < w'.heap.size) A (leansR ps l).length (leansR ps l) ∧ (leansR ps l).length ≤ c ∧ c ≤ maxLen ∧ Below w.heap.size w w'
theorem LeansPost.err {w w' : World} {ps : List Pk} {l : List Mem} {z : Int} (hz : z ≠ 0) (he : ckSet ps l = z) (hb : Below w.heap.size w w') : LeansPost w ps l (.returned (.tuple #[.slice none 0 0, .int .i64 z])) w' := by
 have hl : leansR ps l = [] := by unfold leansR; rw [if_neg (by rw [he]; exact hz)]
 exact ⟨none, 0, by rw [hl, he]; rfl, by rw [hl]; exact RClauses.nil_, by rw [hl]; exact qr _, Nat.zero_le _, hb⟩
structure Ls (w w2 : World) (A : Option Addr) (n c : Nat) (v : Value) (i : Nat) (hs : List (Option Addr × Nat × Nat)) (ls : List (List Int)) (wr : World) : Prop where
 own : wr.ownsRow w2.heap.size 60 1 v i (hs.map hd)
 hds : Heads wr (fun k => w2.heap.size ≤ k ∧ k < wr.heap.size ∧ v.ownBlock ≠ some k) hs ls
 tx : Tx w A n c wr
 le : w2.heap.size ≤ wr.heap.size
theorem Ls.move {w w2 : World} {A : Option Addr} {n c : Nat} {v : Value} {i : Nat} {hs : List (Option Addr × Nat × Nat)} {ls : List (List Int)} {wr wy : World} (h : Ls w w2 A n c v i hs ls wr) (hb : Below wr.heap.size wr wy) : Ls w w2 A n c v i hs ls wy :=
 ⟨(Far.of_below (fun _ => False) hb).own h.own fun _ _ h => h, (h.hds.keep fun p hp => hb.cell hp.2.1).more fun k hk => ⟨hk.1, ql hk.2.1 hb.size, hk.2.2⟩, h.tx.move hb, Nat.le_trans h.le hb.size⟩
theorem Ls.push {w w2 : World} {A : Option Addr} {n c : Nat} {v v8 : Value} {i : Nat} {hs : List (Option Addr × Nat × Nat)} {ls : List (List Int)} {wr w8 : World} {Ax : Option Addr} {nx cx : Nat} {xs : List Int} (h : Ls w w2 A n c v i hs ls wr) (hw : w.heap.size < w2.heap.size)
  (hxs : RInts wr (fun k => w2.heap.size ≤ k ∧ k < wr.heap.size ∧ v.ownBlock ≠ some k) Ax nx xs) (hn : nx ≤ cx ∧ cx ≤ maxLen) (hown : w8.ownsRow w2.heap.size 60 1 v8 (i + 1) (hs.map hd ++ [.slice Ax nx cx])) (hg : (wr.alloc (.cells #[.slice Ax nx cx] 60)).grownBy w8 v.ownBlock)
  (hv : v8.ownBlock = v.ownBlock ∨ v8.ownBlock = some (wr.alloc (.cells #[.slice Ax nx cx] 60)).heap.size) : Ls w w2 A n c v8 (i + 1) (hs ++ [(Ax, nx, cx)]) (ls ++ [xs]) w8 := by
 have hal : Below wr.heap.size wr (wr.alloc (.cells #[.slice Ax nx cx] 60)) := (Below.refl _ wr).alloc (qr _) _
 have far : Far (fun i => v.ownBlock = some i) wr w8 := (Far.of_below _ hal).trans (Far.of_grown hg fun i h => h.symm) fun _ _ h => h
 have hlt := fun k (e : v.ownBlock = some k) => h.own.lt k e
 have hb := far.below (B := w2.heap.size) h.le fun k e => (hlt k e).1
 refine ⟨by simpa [hd] using hown, ((h.hds.append (Heads.one hxs hn)).keep fun p hp => far.cell hp.2.1 fun e => hp.2.2 e).more fun k hk => ⟨hk.1, ql hk.2.1 far.size, ?_⟩, ⟨h.tx.below.trans (hb.mono (Nat.le_of_lt hw)), h.tx.whole.below hb hw⟩, Nat.le_trans h.le far.size⟩
 rcases hv with e | e
 ·rw [e]; exact hk.2.2
 ·rw [e]; intro e2; injection e2 with e2; simp at e2; omega
structure Yl (w : World) (A : Option Addr) (n c : Nat) (mb : Nat) (mv : List Value) (ab : Nat) (av : List Value) (w9 : World) (wx : World) : Prop where
 t : Whole wx w.heap.size 24 [.slice A n c]
 m : Whole wx mb 33 mv
 a : Whole wx ab 37 av
 b9 : Below w9.heap.size w9 wx
 bel : Below w.heap.size w wx
theorem Yl.move {w : World} {A : Option Addr} {n c mb : Nat} {mv : List Value} {ab : Nat} {av : List Value} {w9 wx wy : World} (h : Yl w A n c mb mv ab av w9 wx) (hb : Below wx.heap.size wx wy) : Yl w A n c mb mv ab av w9 wy :=
 ⟨h.t.below hb h.t.lt, h.m.below hb h.m.lt, h.a.below hb h.a.lt, h.b9.trans (hb.mono h.b9.size), h.bel.trans (hb.mono h.bel.size)⟩
theorem addAll_snoc {ps : List Pk} {l : List Mem} {a : At} : ∀ {us : List At} {xs : List Int}, addAll ps l (us ++ [a]) xs = addTo (fun k => isA ps (memAt l k) a) (addAll ps l us xs) l.length
 | [], xs => rfl
 | b :: r, xs => by rw [List.cons_append, addAll, addAll_snoc, addAll]
theorem addAll_take {ps : List Pk} {l : List Mem} {us : List At} {j : Nat} {a : At} (h : us[j]? = some a) : addAll ps l (us.take (j + 1)) [] = addTo (fun k => isA ps (memAt l k) a) (addAll ps l (us.take j) []) l.length := by
 obtain ⟨hj, rfl⟩ := List.getElem?_eq_some_iff.1 h
 rw [List.take_succ_eq_append_getElem hj, addAll_snoc]
theorem leansL_len {ps : List Pk} {l : List Mem} : (leansL ps l).length = l.length := by unfold leansL; simp
theorem leansL_take {ps : List Pk} {l : List Mem} {i : Nat} (h : i < l.length) : (leansL ps l).take (i + 1) = (leansL ps l).take i ++ [(leansAt ps l i).map fun (k : Nat) => (k : Int)] := by
 rw [List.take_succ_eq_append_getElem (by rw [leansL_len]; exact h)]
 congr 2
 unfold leansL; simp
theorem oset_len {ps : List Pk} {l : List Mem} {n : Nat} (h : ckSet ps l = 0) (h8 : n ≤ 8) (hn : ps.length = n) : l.length ≤ 100000 := by
 have h2 := (ckMs_rises (ckSet_zero h).2).2
 have h3 := ckMs_mem (ckSet_zero h).2
 have : ∀ (l : List Mem) (b : Int), (l.map Mem.pl).Pairwise (· < ·) → (∀ m ∈ l, b ≤ m.pl ∧ m.pl < ps.length) → b ≤ ps.length → (l.length : Int) ≤ ps.length - b := by
  intro l
  induction l with
  | nil => intro b _ _ hb; simp; omega
  | cons x r ih =>
   intro b hp hm hb
   rw [List.map_cons, List.pairwise_cons] at hp
   have hx := hm x (List.mem_cons_self ..)
   have := ih (x.pl + 1) hp.2 (fun m hmr => ⟨by have := hp.1 m.pl (List.mem_map.2 ⟨m, hmr, rfl⟩); omega, (hm m (List.mem_cons_of_mem _ hmr)).2⟩) (by omega)
   simp only [List.length_cons]; omega
 have := this l 0 h2 (fun m hm => ⟨(h3 m hm).1, (h3 m hm).2.1⟩) (by omega)
 omega
theorem tree_nodes {ps : List Pk} (h : ckTree ps = 0) {m : Mem} (h0 : 0 ≤ m.pl) (h1 : m.pl < ps.length) : (pkOf ps m.pl).nd.nodes ≤ 20 := by
 have hj : m.pl.toNat < ps.length := by omega
 have : pkOf ps m.pl = ps[m.pl.toNat] := by
  unfold pkOf
  rw [List.getD_eq_getElem?_getD, List.getElem?_eq_getElem hj]; rfl
 rw [this]
 exact (ckNeed_zero (pkOk (ckTree_mem h _ (List.getElem_mem hj))).nd).2.1
theorem ints_infoO : (Tryz.prog.info? 60).map (fun i => (i.zero, i.size, i.bytes)) = some (some (.slice none 0 0), 1, 24) := by kernel_rfl
theorem int_infoO : (Tryz.prog.info? 3).map (fun i => (i.zero, i.size, i.bytes)) = some (some (.int .i64 0), 1, 8) := by kernel_rfl
set_option maxRecDepth 100000 in
set_option maxHeartbeats 12800000 in
theorem oleans_any (ps : List Pk) (l : List Mem) (S : Nat → Prop) (A B : Option Addr) (n c q d : Nat) (w : World) (hT : RTree w S A n ps) (hnc : n ≤ c) (hc : c ≤ maxLen) (hL : RSet w S B q l) (hqd : q ≤ d) (hd : d ≤ maxLen) (hS : ∀ k, S k → k < w.heap.size) :
  Calls Tryz.prog 14 #[.agg #[.slice A n c], .slice B q d] w (LeansPost w ps l) := by
 have X0 := qh (Tx.new w A n c)
 have HT := qh hT; have HS := qh hS; have HL := qh hL; clear hT hS hL
 have Hlt := qh (fun (wx : World) (hb : Below w.heap.size w wx) k hk => ql (HS.out k hk) hb.size)
 have Hcs := qh (cset_any ps l S A B n c q d _ (HT.out.under X0.out.below HS.out) hnc hc (HL.out.under X0.out.below HS.out) (Nat.le_trans hqd hd) (Hlt.out _ X0.out.below))
 have HE : Hid (∃ z, ckSet ps l = z) := qh ⟨_, rfl⟩
 have Hll := qh HL.out.len
 have Hpl := qh HT.out.len
 by_cases z0 : ckSet ps l = 0
 ·have HCK := qh z0
  have HC := qh (Cx.of z0 HT.out hnc hc HL.out hqd hd HS.out)
  have hn8 := HC.out.n8
  have hq8 : Hid (q ≤ 100000) := qh (by rw [← Hll.out]; exact oset_len z0 HC.out.n8 Hpl.out)
  have HLR : Hid (leansR ps l = leansL ps l) := qh (by unfold leansR; rw [if_pos z0])
  rw [z0] at Hcs
  have hdm := hd; have hcm := hc
  unfold maxLen at hdm hcm
  obtain ⟨i0, hi, hz0, hz1, hz2⟩ : ∃ i0, Tryz.prog.info? 60 = some i0 ∧ i0.zero = some (.slice none 0 0) ∧ i0.size = 1 ∧ i0.bytes = 24 := by
   have h := ints_infoO
   cases hh : Tryz.prog.info? 60 with
   | none => rw [hh] at h; simp at h
   | some i => rw [hh] at h; simp at h; exact ⟨i, rfl, h.1, h.2.1, h.2.2⟩
  have Hi := qh hi; have Hz0 := qh hz0; have Hz1 := qh hz1; have Hz2 := qh hz2
  obtain ⟨j0, hj, hy0, hy1, hy2⟩ : ∃ i0, Tryz.prog.info? 3 = some i0 ∧ i0.zero = some (.int .i64 0) ∧ i0.size = 1 ∧ i0.bytes = 8 := by
   have h := int_infoO
   cases hh : Tryz.prog.info? 3 with
   | none => rw [hh] at h; simp at h
   | some i => rw [hh] at h; simp at h; exact ⟨i, rfl, h.1, h.2.1, h.2.2⟩
  have Hj0 := qh hj; have Hy0 := qh hy0; have Hy1 := qh hy1; have Hy2 := qh hy2
  clear hi hz0 hz1 hz2 hj hy0 hy1 hy2 z0
  go_enter Tryz.func14, Tryz.ntmps14
  go_wp2_with (first | (go_at_call 29; refine Hcs.out.mono ?_; rintro e w2 ⟨rfl, hb2⟩; refine Hid.out ?_))
  refine qh ?_
  have X2 := qh (X0.out.move hb2)
  clear hb2 X0 Hcs
  go_wp2
  have HL2 : Hid (Ls w w2 A n c (.slice none 0 0) 0 [] ((leansL ps l).take 0) w2) := qh ⟨World.ownsRow_nil _ _ _ _, Heads.nil_, X2.out, qr _⟩
  have X2s := qh X2.out.whole.lt
  clear X2
  go_loopg [7, 24] q (fun g ov iv wr => ∃ (i : Nat) (A1 : Option Addr) (c1 : Nat) (hs : List (Option Addr × Nat × Nat)), Hid (i + g = q) ∧ iv = .int .i64 i ∧ ov = .slice A1 i c1 ∧ Hid (Ls w w2 A n c (.slice A1 i c1) i hs ((leansL ps l).take i) wr))
  case atStart => exact ⟨0, none, 0, [], qh (Nat.zero_add _), rfl, rfl, HL2⟩
  case round =>
   obtain ⟨i, A1, c1, hs, Hi1, rfl, rfl, HLs⟩ := hrel
   clear HL2
   by_cases hi : i < q
   ·obtain ⟨b, o, m, E, u, v, rfl, hbS, hm, huv, hv, hon, g0, g1⟩ := (HL.out.under HLs.out.tx.below HS.out).at_ hi
    have hmem := List.mem_of_getElem? hm
    obtain ⟨hp0, hp1, hp2⟩ := HC.out.ok m hmem
    have Hown := qh (own_flags HCK.out (k := i) (by have := Hll.out; omega))
    have HA : Hid (addAll ps l (asksN ps (memAt l i) (pkOf ps (memAt l i).pl).nd) [] = addAll ps l (asksN ps m (pkOf ps m.pl).nd) []) := qh (by rw [memAt_at hm])
    have Hso := qh (addAll_sorted ps l i)
    rw [memAt_at hm] at Hown Hso
    have hpl := Hpl.out
    have hnodes := tree_nodes (ckSet_zero HCK.out).1 (m := m) hp0 hp1
    have Hol := qh hon.len
    obtain ⟨pl, on⟩ := m
    dsimp only at g0 g1 hp0 hp1 hp2 Hown Hso hon hnodes Hol
    obtain ⟨j, rfl⟩ : ∃ j : Nat, pl = j := ⟨pl.toNat, by omega⟩
    have hjn : j < n := by omega
    obtain ⟨b2, o2, p, F, fn, fc, kd, pa, f, no, E2, r2, d2, rfl, hbS2, hp, hP, hcell⟩ := (HT.out.under HLs.out.tx.below HS.out).at_ hjn
    have hpk : pkOf ps ((j : Nat) : Int) = p := pkOf_at hp
    rw [hpk] at hp2 Hown Hso hnodes
    have h0 := hcell 0 (by omega); have h1 := hcell 1 (by omega); have h2 := hcell 2 (by omega); have h3 := hcell 3 (by omega); have h4 := hcell 4 (by omega); have h5 := hcell 5 (by omega); have h6 := hcell 6 (by omega); have h7 := hcell 7 (by omega); have h8 := hcell 8 (by omega); have h9 := hcell 9 (by omega); have h10 := hcell 10 (by omega); have h11 := hcell 11 (by omega); have h12 := hcell 12 (by omega); have h13 := hcell 13 (by omega)
    unfold pkRow ndRow at h0 h1 h2 h3 h4 h5 h6 h7 h8 h9 h10 h11 h12 h13
    simp only [List.getElem?_cons_zero, List.getElem?_cons_succ, Nat.add_zero] at h0 h1 h2 h3 h4 h5 h6 h7 h8 h9 h10 h11 h12 h13
    have hbl : b < wr.heap.size := ql (HC.out.lt _ hbS) HLs.out.tx.below.size
    have hbl2 : b2 < wr.heap.size := ql (HC.out.lt _ hbS2) HLs.out.tx.below.size
    have hbl3 : b2 < wr.heap.size + 1 := by omega
    have hbx : Below wr.heap.size wr ((wr.alloc (.cells #[.int .i64 (j : Int), .slice E u v] 33)).alloc (.cells (pkRow p F fn fc (ndRow kd pa f no E2 r2 d2)).toArray 42)) := ((Below.refl _ wr).alloc (qr _) _).alloc (by simp) _
    have Z4 := qh (HLs.out.move hbx)
    have hb4 := Z4.out.tx.below
    have P4 := qh (Whole.new (wr.alloc (.cells #[.int .i64 (j : Int), .slice E u v] 33)) (wr.heap.size + 1) 42 (pkRow p F fn fc (ndRow kd pa f no E2 r2 d2)) (by simp))
    have hkeep := fun p (hp : S p) => ql (HS.out p hp) HLs.out.tx.below.size
    have hcall := oasks_any ps p ⟨(j : Int), on⟩ hpk S ((wr.alloc (.cells #[.int .i64 (j : Int), .slice E u v] 33)).alloc (.cells (pkRow p F fn fc (ndRow kd pa f no E2 r2 d2)).toArray 42)).heap.size F E E2 fn fc u v r2 d2 kd pa f no (Nat.le_trans hP.cap hP.max) huv hp2 p.nd [] none 0 (ndRow kd pa f no E2 r2 d2) ((wr.alloc (.cells #[.int .i64 (j : Int), .slice E u v] 33)).alloc (.cells (pkRow p F fn fc (ndRow kd pa f no E2 r2 d2)).toArray 42))
     (hP.fs.row.below hbx hkeep) (Row.below hon hbx hkeep) (hP.nd.under hbx hkeep) Hown.out (fun k hk => ⟨ql (hkeep k hk) hbx.size, fun e => by cases e⟩) (World.ownsRow_nil _ _ _ _) (qr _) (by show 0 + p.nd.nodes ≤ 100000; omega)
    rw [List.nil_append] at hcall
    have hyl := asksN_len ps ⟨(j : Int), on⟩ p.nd
    have Hys : Hid (∃ ys, asksN ps ⟨(j : Int), on⟩ p.nd = ys) := qh ⟨_, rfl⟩
    have hyl2 : (asksN ps ⟨(j : Int), on⟩ p.nd).length ≤ 20 := by omega
    generalize asksN ps ⟨(j : Int), on⟩ p.nd = ys at hcall Hso hyl2
    obtain ⟨nm, ver, slot, fs, nd⟩ := p
    unfold pkRow ndRow at P4 Z4 hcall hb4
    dsimp only at P4 Z4 hcall hb4 h0 h1 h2 h3
    have Hc := qh hcall
    have t0 := HLs.out.tx.whole.cell 0
    simp only [List.getElem?_cons_zero] at t0
    have tlt := HLs.out.tx.whole.lt
    have tlt1 : w.heap.size < wr.heap.size + 1 := by omega
    have hjn1 : (j : Int) < n := by omega
    have hjn0 : (0 : Int) ≤ (j : Int) := by omega
    have hi0 : (0 : Int) ≤ (i : Int) := by omega
    have HB4 := qh hb4
    have HWR := qh HLs.out.tx.below.size
    clear hcall hcell hP hp hm hmem hon hp0 hp1 hp2 hbx hkeep hyl hpk HLs Hys HA hb4
    go_wp2_with (first | (go_at_call 42; refine Hc.out.mono ?_; rintro e w5 ⟨Aa, ca, rfl, howna, hfara, _⟩; refine Hid.out ?_))
    refine qh ?_
    have hb5 := hfara.below (qr _) (fun i h => by cases h)
    have Z5 := qh (Z4.out.move hb5)
    obtain ⟨_, _, hea, hna, hma, hra⟩ := own_formK howna
    injection hea with hea1 hea2 hea3
    subst hea1 hea3
    have HRA := qh hra
    have HOLa := qh (fun k (h : (Value.slice Aa ys.length ca).ownBlock = some k) => howna.lt k h)
    clear hfara howna hra hea2 Hc t0 tlt tlt1 h0 h1 h2 h3 h4 h5 h6 h7 h8 h9 h10 h11 h12 h13 hbl hbl2 hbl3 g0 g1 Z4 P4 hb5
    go_wp2
    obtain ⟨g9, rfl⟩ : ∃ x : Nat, x = gk := ⟨_, rfl⟩
    unfold maxLen at hma
    go_loopg [11, 40] ys.length (fun g ov iv wr => ∃ (j : Nat) (Ao : Option Addr) (co : Nat), Hid (j + g = ys.length) ∧ iv = .int .i64 j ∧ ov = .slice Ao (addAll ps l (ys.take j) []).length co ∧ Hid (wr.ownsRow w5.heap.size 3 1 (.slice Ao (addAll ps l (ys.take j) []).length co) (addAll ps l (ys.take j) []).length ((addAll ps l (ys.take j) []).map (.int .i64))) ∧ Hid (Below w5.heap.size w5 wr))
    case atStart => exact ⟨0, none, 0, qh (Nat.zero_add _), rfl, rfl, qh (World.ownsRow_nil _ _ _ _), qh (Below.refl _ _)⟩
    case round =>
     obtain ⟨ja, Ao, co, Hja, rfl, rfl, Hon, HBo⟩ := hrel
     by_cases hja : ja < ys.length
     ·obtain ⟨bq, oq, rfl, hbq⟩ := Row.some_lit HRA.out (by omega)
      have hbq' := HOLa.out bq hbq
      have hya : ys[ja]? = some (ys[ja]'hja) := List.getElem?_eq_getElem hja
      generalize ys[ja]'hja = a at hya
      have Htk := qh (addAll_take (ps := ps) (l := l) hya)
      have hac : ∀ i, i < 6 → wr.cell? ⟨bq, oq + (ja * 6 + i), none⟩ = (atRow a)[i]? := fun i hi6 => by
       obtain ⟨b', o', e', _, hcc⟩ := HRA.out.2 (by omega)
       injection e' with e'; injection e' with e1 e2
       subst e1 e2
       rw [HBo.out.cell hbq'.2, hcc (ja * 6 + i) (by omega)]
       unfold atCells
       exact flatG (K := 6) (fun x hx => by obtain ⟨y, _, rfl⟩ := List.mem_map.1 hx; rfl) (by rw [List.getElem?_map, hya]; rfl) i hi6
      have x0 := hac 0 (by omega); have x1 := hac 1 (by omega); have x2 := hac 2 (by omega); have x3 := hac 3 (by omega); have x4 := hac 4 (by omega); have x5 := hac 5 (by omega)
      unfold atRow at x0 x1 x2 x3 x4 x5
      simp only [List.getElem?_cons_zero, List.getElem?_cons_succ, Nat.add_zero, ← Nat.add_assoc] at x0 x1 x2 x3 x4 x5
      have hbqr : bq < wr.heap.size := ql hbq'.2 HBo.out.size
      have hbA : Below wr.heap.size wr (wr.alloc (.cells #[.string ⟨a.nm.toArray⟩, .int .i64 a.op, .int .i64 a.ver, .int .i64 a.slot, .string ⟨a.fl.toArray⟩, .bool a.on] 37)) := (Below.refl _ wr).alloc (qr _) _
      have HA6 := qh (Whole.new wr wr.heap.size 37 [.string ⟨a.nm.toArray⟩, .int .i64 a.op, .int .i64 a.ver, .int .i64 a.slot, .string ⟨a.fl.toArray⟩, .bool a.on] rfl)
      have HOn6 := qh (Hon.out.alloc (.cells #[.string ⟨a.nm.toArray⟩, .int .i64 a.op, .int .i64 a.ver, .int .i64 a.slot, .string ⟨a.fl.toArray⟩, .bool a.on] 37))
      have HB6 := qh (HBo.out.trans (hbA.mono HBo.out.size))
      clear hac hya hbA
      go_wp2
      clear x0 x1 x2 x3 x4 x5 hbqr
      obtain ⟨g8, rfl⟩ : ∃ x : Nat, x = gk := ⟨_, rfl⟩
      obtain ⟨w6, rfl⟩ : ∃ x : World, x = wr := ⟨_, rfl⟩
      have HTZ : Hid (addTo (fun k => isA ps (memAt l k) a) (addAll ps l (ys.take ja) []) 0 = addAll ps l (ys.take ja) []) := qh rfl
      obtain ⟨w6a, hw6a⟩ : ∃ x, x = w6.alloc (.cells #[.string ⟨a.nm.toArray⟩, .int .i64 a.op, .int .i64 a.ver, .int .i64 a.slot, .string ⟨a.fl.toArray⟩, .bool a.on] 37) := ⟨_, rfl⟩
      rw [← hw6a] at HA6 HOn6 HB6 ⊢
      clear hw6a
      generalize haq : addAll ps l (ys.take ja) [] = xq at Htk HTZ HOn6 Hon
      have Haq := qh haq
      clear haq
      go_loopg [11, 46] q (fun g ov iv wr => ∃ (k : Nat) (Ao : Option Addr) (co : Nat), Hid (k + g = q) ∧ iv = .int .i64 k ∧ ov = .slice Ao (addTo (fun k => isA ps (memAt l k) a) xq k).length co ∧ Hid (wr.ownsRow w5.heap.size 3 1 (.slice Ao (addTo (fun k => isA ps (memAt l k) a) xq k).length co) (addTo (fun k => isA ps (memAt l k) a) xq k).length ((addTo (fun k => isA ps (memAt l k) a) xq k).map (.int .i64))) ∧ Hid (Below w5.heap.size w5 wr) ∧ Hid (Whole wr w6.heap.size 37 [.string ⟨a.nm.toArray⟩, .int .i64 a.op, .int .i64 a.ver, .int .i64 a.slot, .string ⟨a.fl.toArray⟩, .bool a.on]))
      case atStart => exact ⟨0, Ao, co, qh (Nat.zero_add _), rfl, rfl, HOn6, HB6, HA6⟩
      case round =>
       obtain ⟨k, Ak, ck, Hk, rfl, rfl, Hok, HBk, HAk⟩ := hrel
       by_cases hk : k < q
       ·obtain ⟨w7, rfl⟩ : ∃ x : World, x = wr := ⟨_, rfl⟩
        have HBW : Hid (Below w.heap.size w w7) := qh (Z5.out.tx.below.trans (HBk.out.mono Z5.out.tx.below.size))
        obtain ⟨b', o', m3, E3, u3, v3, eb, hbS3, hm3, huv3, hv3, hon3, q0, q1⟩ := (HL.out.under HBW.out HS.out).at_ hk
        injection eb with eb; injection eb with eb1 eb2; subst eb1 eb2
        obtain ⟨hz0, hz1, hz2⟩ := HC.out.ok m3 (List.mem_of_getElem? hm3)
        have HX : Hid (isA ps (memAt l k) a = isP (pkOf ps m3.pl) m3 a) := qh (by rw [memAt_at hm3, isA_isP])
        have hbl7 : b < w7.heap.size := ql (HS.out _ hbS3) HBW.out.size
        obtain ⟨pl, on3⟩ := m3
        dsimp only at q0 q1 hz0 hz1 hz2 HX hon3
        obtain ⟨z, rfl⟩ : ∃ z : Nat, pl = z := ⟨pl.toNat, by omega⟩
        have hzn : z < n := by have := Hpl.out; omega
        obtain ⟨b'', o'', p2, F2, fn2, fc2, kd2, pa2, f2, no2, E2', r2', d2', eb, hbS4, hp2', hP2, hcell2⟩ := HT.out.at_ hzn
        injection eb with eb; injection eb with eb1 eb2; subst eb1 eb2
        have hpk2 : pkOf ps ((z : Nat) : Int) = p2 := pkOf_at hp2'
        rw [hpk2] at hz2 HX
        have hbl2 : b2 < w.heap.size := HS.out _ hbS4
        have h0 := hcell2 0 (by omega); have h1 := hcell2 1 (by omega); have h2 := hcell2 2 (by omega); have h3 := hcell2 3 (by omega); have h4 := hcell2 4 (by omega); have h5 := hcell2 5 (by omega); have h6 := hcell2 6 (by omega); have h7 := hcell2 7 (by omega); have h8 := hcell2 8 (by omega); have h9 := hcell2 9 (by omega); have h10 := hcell2 10 (by omega); have h11 := hcell2 11 (by omega); have h12 := hcell2 12 (by omega); have h13 := hcell2 13 (by omega)
        unfold pkRow ndRow at h0 h1 h2 h3 h4 h5 h6 h7 h8 h9 h10 h11 h12 h13
        simp only [List.getElem?_cons_zero, List.getElem?_cons_succ, Nat.add_zero] at h0 h1 h2 h3 h4 h5 h6 h7 h8 h9 h10 h11 h12 h13
        have E0 := qh h0; have E1 := qh h1; have E2 := qh h2; have E3' := qh h3; have E4 := qh h4; have E5 := qh h5; have E6 := qh h6; have E7 := qh h7; have E8 := qh h8; have E9 := qh h9; have E10 := qh h10; have E11 := qh h11; have E12 := qh h12; have E13 := qh h13
        have Hoi := qh (fun (wx : World) (hb : Below w.heap.size w wx) => ois_any p2 ⟨(z : Int), on3⟩ a S F2 E3 E2' fn2 fc2 u3 v3 r2' d2' kd2 pa2 f2 no2 wx (hP2.fs.row.below hb HS.out) (Nat.le_trans hP2.cap hP2.max) (Row.below ((Row.keep hon3 fun p hp => (HBW.out.cell (HS.out _ hp)).symm : RBools w S E3 u3 on3)) hb HS.out) huv3 hz2 (Hlt.out wx hb))
        have hxl : xq.length ≤ l.length := by rw [← Haq.out]; exact addAll_len
        have hal := addTo_len (q := fun k => isA ps (memAt l k) a) (xs := xq) (k := k)
        have Hxs : Hid (addTo (fun k => isA ps (memAt l k) a) xq (k + 1) = addK (fun k => isA ps (memAt l k) a) (addTo (fun k => isA ps (memAt l k) a) xq k) k) := qh rfl
        obtain ⟨xk, hxk⟩ : ∃ x, addTo (fun k => isA ps (memAt l k) a) xq k = x := ⟨_, rfl⟩
        rw [hxk] at Hok Hxs hal ⊢
        have hql := hq8.out
        have hll0 := Hll.out
        have hal2 : xk.length ≤ 200000 := by omega
        have hadd : addK (fun k => isA ps (memAt l k) a) xk k = if isP p2 ⟨(z : Int), on3⟩ a = true ∧ xk.contains (k : Int) = false then xk ++ [(k : Int)] else xk := by unfold addK; show (if isA ps (memAt l k) a = true ∧ xk.contains (k : Int) = false then _ else _) = _; rw [HX.out]
        rw [hadd] at Hxs
        obtain ⟨_, _, hek, hnk, hmk, hrk⟩ := own_form Hok.out
        injection hek with hek1 hek2 hek3
        subst hek1 hek3
        have Hco := qh (fun (wx : World) (hb : Below w7.heap.size w7 wx) => containsI_any Ak xk.length ck xk (k : Int) wx (fun i => w5.heap.size ≤ i ∧ i < w7.heap.size) (Row.below hrk hb fun i hi => hi.2) (by unfold maxLen; omega))
        generalize isP p2 ⟨(z : Int), on3⟩ a = x at Hoi Hxs
        generalize xk.contains (k : Int) = y at Hco Hxs
        have hbx7 : Below w7.heap.size w7 (w7.alloc (.cells #[.int .i64 (z : Int), .slice E3 u3 v3] 33)) := (Below.refl _ w7).alloc (qr _) _
        have Y8 : Hid (Yl w (some ⟨b2, o2, none⟩) n c w7.heap.size [.int .i64 (z : Int), .slice E3 u3 v3] w6.heap.size [.string ⟨a.nm.toArray⟩, .int .i64 a.op, .int .i64 a.ver, .int .i64 a.slot, .string ⟨a.fl.toArray⟩, .bool a.on] w7 (w7.alloc (.cells #[.int .i64 (z : Int), .slice E3 u3 v3] 33))) := qh ⟨(Z5.out.tx.whole.below HBk.out Z5.out.tx.whole.lt).alloc _, Whole.new w7 _ _ _ rfl, HAk.out.alloc _, hbx7, HBW.out.trans (hbx7.mono HBW.out.size)⟩
        have hk0 : (0 : Int) ≤ (k : Int) := by omega
        have hkq : (k : Int) < q := by omega
        have hzn1 : (z : Int) < n := by omega
        have hzn0 : (0 : Int) ≤ (z : Int) := by omega
        clear hxk hadd hrk hnk hmk hek2 hcell2 hP2 hp2' hpk2 hm3 hon3 hz0 hz1 hz2 h0 h1 h2 h3 h4 h5 h6 h7 h8 h9 h10 h11 h12 h13 hbx7 hxl hal HX hql hll0
        go_wp2
        clear q0 q1 hbl7
        obtain ⟨w8, hw8⟩ : ∃ x, x = w7.alloc (.cells #[.int .i64 (z : Int), .slice E3 u3 v3] 33) := ⟨_, rfl⟩
        rw [← hw8] at Y8 ⊢
        clear hw8
        have t0 := Y8.out.t.cell 0; have m0 := Y8.out.m.cell 0; have m1 := Y8.out.m.cell 1; have a0 := Y8.out.a.cell 0; have a1 := Y8.out.a.cell 1; have a2 := Y8.out.a.cell 2; have a3 := Y8.out.a.cell 3; have a4 := Y8.out.a.cell 4; have a5 := Y8.out.a.cell 5; simp only [qgz, qgs] at t0 m0 m1 a0 a1 a2 a3 a4 a5; have e0 := (Y8.out.bel.cell (p := ⟨b2, o2 + z * 14, none⟩) hbl2).trans E0.out; have e1 := (Y8.out.bel.cell (p := ⟨b2, o2 + z * 14 + 1, none⟩) hbl2).trans E1.out; have e2 := (Y8.out.bel.cell (p := ⟨b2, o2 + z * 14 + 2, none⟩) hbl2).trans E2.out; have e3 := (Y8.out.bel.cell (p := ⟨b2, o2 + z * 14 + 3, none⟩) hbl2).trans E3'.out; have e4 := (Y8.out.bel.cell (p := ⟨b2, o2 + z * 14 + 4, none⟩) hbl2).trans E4.out; have e5 := (Y8.out.bel.cell (p := ⟨b2, o2 + z * 14 + 5, none⟩) hbl2).trans E5.out; have e6 := (Y8.out.bel.cell (p := ⟨b2, o2 + z * 14 + 6, none⟩) hbl2).trans E6.out; have e7 := (Y8.out.bel.cell (p := ⟨b2, o2 + z * 14 + 7, none⟩) hbl2).trans E7.out; have e8 := (Y8.out.bel.cell (p := ⟨b2, o2 + z * 14 + 8, none⟩) hbl2).trans E8.out; have e9 := (Y8.out.bel.cell (p := ⟨b2, o2 + z * 14 + 9, none⟩) hbl2).trans E9.out; have e10 := (Y8.out.bel.cell (p := ⟨b2, o2 + z * 14 + 10, none⟩) hbl2).trans E10.out; have e11 := (Y8.out.bel.cell (p := ⟨b2, o2 + z * 14 + 11, none⟩) hbl2).trans E11.out; have e12 := (Y8.out.bel.cell (p := ⟨b2, o2 + z * 14 + 12, none⟩) hbl2).trans E12.out; have e13 := (Y8.out.bel.cell (p := ⟨b2, o2 + z * 14 + 13, none⟩) hbl2).trans E13.out
        cases x
        ·have HN : Hid (addTo (fun k => isA ps (memAt l k) a) xq (k + 1) = xk) := qh (by rw [Hxs.out, if_neg (fun h => by cases h.1)])
         clear Hco
         refine wp_region_held_drew (S := (fun w' => w'.cell? ⟨w.heap.size, 0, none⟩ = some (.slice (some ⟨b2, o2, none⟩) n c) ∧ w'.cell? ⟨w7.heap.size, 0, none⟩ = some (.int .i64 (z : Int)) ∧ w'.cell? ⟨w7.heap.size, 1, none⟩ = some (.slice E3 u3 v3) ∧ w'.cell? ⟨w6.heap.size, 0, none⟩ = some (.string ⟨a.nm.toArray⟩) ∧ w'.cell? ⟨w6.heap.size, 1, none⟩ = some (.int .i64 a.op) ∧ w'.cell? ⟨w6.heap.size, 2, none⟩ = some (.int .i64 a.ver) ∧ w'.cell? ⟨w6.heap.size, 3, none⟩ = some (.int .i64 a.slot) ∧ w'.cell? ⟨w6.heap.size, 4, none⟩ = some (.string ⟨a.fl.toArray⟩) ∧ w'.cell? ⟨w6.heap.size, 5, none⟩ = some (.bool a.on) ∧ w'.cell? ⟨b2, o2 + z * 14, none⟩ = some (.string ⟨p2.nm.toArray⟩) ∧ w'.cell? ⟨b2, o2 + z * 14 + 1, none⟩ = some (.int .i64 p2.ver) ∧ w'.cell? ⟨b2, o2 + z * 14 + 2, none⟩ = some (.int .i64 p2.slot) ∧ w'.cell? ⟨b2, o2 + z * 14 + 3, none⟩ = some (.slice F2 fn2 fc2) ∧ w'.cell? ⟨b2, o2 + z * 14 + 4, none⟩ = some (.int .i64 kd2) ∧ w'.cell? ⟨b2, o2 + z * 14 + 5, none⟩ = some (.string ⟨pa2.nm.toArray⟩) ∧ w'.cell? ⟨b2, o2 + z * 14 + 6, none⟩ = some (.int .i64 pa2.op) ∧ w'.cell? ⟨b2, o2 + z * 14 + 7, none⟩ = some (.int .i64 pa2.ver) ∧ w'.cell? ⟨b2, o2 + z * 14 + 8, none⟩ = some (.int .i64 pa2.slot) ∧ w'.cell? ⟨b2, o2 + z * 14 + 9, none⟩ = some (.string ⟨pa2.fl.toArray⟩) ∧ w'.cell? ⟨b2, o2 + z * 14 + 10, none⟩ = some (.bool pa2.on) ∧ w'.cell? ⟨b2, o2 + z * 14 + 11, none⟩ = some (.string ⟨f2.toArray⟩) ∧ w'.cell? ⟨b2, o2 + z * 14 + 12, none⟩ = some (.bool no2) ∧ w'.cell? ⟨b2, o2 + z * 14 + 13, none⟩ = some (.slice E2' r2' d2'))) (by kernel_rfl) (⟨t0, m0, m1, a0, a1, a2, a3, a4, a5, e0, e1, e2, e3, e4, e5, e6, e7, e8, e9, e10, e11, e12, e13⟩) (fun hHeld => ?_)
         first | (refine tkA (v := ?_) held_at0 ?_ ?_; rotate_left; focus ((intro w_ hSw; (try dsimp only at hSw); go_simp; (try with_reducible rfl)); done)) | (refine tkB held_at0 ?_)
         (try simp only [Act.put, qsa, qsz, qss])
         first | (refine tkA (v := ?_) held_at1 ?_ ?_; rotate_left; focus ((intro w_ hSw; (try dsimp only at hSw); go_simp; (try with_reducible rfl)); done)) | (refine tkB held_at1 ?_)
         (try simp only [Act.put, qsa, qsz, qss])
         first | (refine tkA (v := ?_) held_at2 ?_ ?_; rotate_left; focus ((intro w_ hSw; (try dsimp only at hSw); go_simp; (try with_reducible rfl)); done)) | (refine tkB held_at2 ?_)
         (try simp only [Act.put, qsa, qsz, qss])
         first | (refine tkA (v := ?_) held_at3 ?_ ?_; rotate_left; focus ((intro w_ hSw; (try dsimp only at hSw); go_simp; (try with_reducible rfl)); done)) | (refine tkB held_at3 ?_)
         (try simp only [Act.put, qsa, qsz, qss])
         first | (refine tkA (v := ?_) held_at4 ?_ ?_; rotate_left; focus ((intro w_ hSw; (try dsimp only at hSw); go_simp; (try with_reducible rfl)); done)) | (refine tkB held_at4 ?_)
         (try simp only [Act.put, qsa, qsz, qss])
         first | (refine tkA (v := ?_) held_at5 ?_ ?_; rotate_left; focus ((intro w_ hSw; (try dsimp only at hSw); go_simp; (try with_reducible rfl)); done)) | (refine tkB held_at5 ?_)
         (try simp only [Act.put, qsa, qsz, qss])
         first | (refine tkA (v := ?_) held_at6 ?_ ?_; rotate_left; focus ((intro w_ hSw; (try dsimp only at hSw); go_simp; (try with_reducible rfl)); done)) | (refine tkB held_at6 ?_)
         (try simp only [Act.put, qsa, qsz, qss])
         first | (refine tkA (v := ?_) held_at7 ?_ ?_; rotate_left; focus ((intro w_ hSw; (try dsimp only at hSw); go_simp; (try with_reducible rfl)); done)) | (refine tkB held_at7 ?_)
         (try simp only [Act.put, qsa, qsz, qss])
         refine wpAnyH_ready (rs := [8]) (by kernel_rfl) (by simp) ?_
         refine AllReadyH.cons held_at8 (fun K hK => ?_) AllReadyH.nil
         (try simp only [qsa, qsz, qss])
         go_simp
         go_at_call 43
         refine (Hoi.out _ (by first | exact Y8.out.bel | exact below_drewN Y8.out.bel _)).mono ?_
         rintro e wn ⟨rfl, hb⟩
         (first | replace Y8 := qh (Y8.out.move hb) | replace Y8 := qh (Y8.out.move ((below_drewN (Below.refl _ _) _).trans hb))); clear hb t0 m0 m1 a0 a1 a2 a3 a4 a5 e0 e1 e2 e3 e4 e5 e6 e7 e8 e9 e10 e11 e12 e13; have t0 := Y8.out.t.cell 0; have m0 := Y8.out.m.cell 0; have m1 := Y8.out.m.cell 1; have a0 := Y8.out.a.cell 0; have a1 := Y8.out.a.cell 1; have a2 := Y8.out.a.cell 2; have a3 := Y8.out.a.cell 3; have a4 := Y8.out.a.cell 4; have a5 := Y8.out.a.cell 5; simp only [qgz, qgs] at t0 m0 m1 a0 a1 a2 a3 a4 a5; have e0 := (Y8.out.bel.cell (p := ⟨b2, o2 + z * 14, none⟩) hbl2).trans E0.out; have e1 := (Y8.out.bel.cell (p := ⟨b2, o2 + z * 14 + 1, none⟩) hbl2).trans E1.out; have e2 := (Y8.out.bel.cell (p := ⟨b2, o2 + z * 14 + 2, none⟩) hbl2).trans E2.out; have e3 := (Y8.out.bel.cell (p := ⟨b2, o2 + z * 14 + 3, none⟩) hbl2).trans E3'.out; have e4 := (Y8.out.bel.cell (p := ⟨b2, o2 + z * 14 + 4, none⟩) hbl2).trans E4.out; have e5 := (Y8.out.bel.cell (p := ⟨b2, o2 + z * 14 + 5, none⟩) hbl2).trans E5.out; have e6 := (Y8.out.bel.cell (p := ⟨b2, o2 + z * 14 + 6, none⟩) hbl2).trans E6.out; have e7 := (Y8.out.bel.cell (p := ⟨b2, o2 + z * 14 + 7, none⟩) hbl2).trans E7.out; have e8 := (Y8.out.bel.cell (p := ⟨b2, o2 + z * 14 + 8, none⟩) hbl2).trans E8.out; have e9 := (Y8.out.bel.cell (p := ⟨b2, o2 + z * 14 + 9, none⟩) hbl2).trans E9.out; have e10 := (Y8.out.bel.cell (p := ⟨b2, o2 + z * 14 + 10, none⟩) hbl2).trans E10.out; have e11 := (Y8.out.bel.cell (p := ⟨b2, o2 + z * 14 + 11, none⟩) hbl2).trans E11.out; have e12 := (Y8.out.bel.cell (p := ⟨b2, o2 + z * 14 + 12, none⟩) hbl2).trans E12.out; have e13 := (Y8.out.bel.cell (p := ⟨b2, o2 + z * 14 + 13, none⟩) hbl2).trans E13.out
         refine hK.out _ _ (⟨t0, m0, m1, a0, a1, a2, a3, a4, a5, e0, e1, e2, e3, e4, e5, e6, e7, e8, e9, e10, e11, e12, e13⟩) (fun hHeld => ?_)
         clear hK K
         (try simp only [Act.put, qsa, qsz, qss])
         first | (refine tkA (v := ?_) held_at9 ?_ ?_; rotate_left; focus ((intro w_ hSw; (try dsimp only at hSw); go_simp; (try with_reducible rfl)); done)) | (refine tkB held_at9 ?_)
         (try simp only [Act.put, qsa, qsz, qss])
         first | (refine tkA (v := ?_) held_at10 ?_ ?_; rotate_left; focus ((intro w_ hSw; (try dsimp only at hSw); go_simp; (try with_reducible rfl)); done)) | (refine tkB held_at10 ?_)
         (try simp only [Act.put, qsa, qsz, qss])
         first | (refine tkA (v := ?_) held_at11 ?_ ?_; rotate_left; focus ((intro w_ hSw; (try dsimp only at hSw); go_simp; (try with_reducible rfl)); done)) | (refine tkB held_at11 ?_)
         (try simp only [Act.put, qsa, qsz, qss])
         first | (refine tkA (v := ?_) held_at12 ?_ ?_; rotate_left; focus ((intro w_ hSw; (try dsimp only at hSw); go_simp; (try with_reducible rfl)); done)) | (refine tkB held_at12 ?_)
         (try simp only [Act.put, qsa, qsz, qss])
         first | (refine tkA (v := ?_) held_at13 ?_ ?_; rotate_left; focus ((intro w_ hSw; (try dsimp only at hSw); go_simp; (try with_reducible rfl)); done)) | (refine tkB held_at13 ?_)
         (try simp only [Act.put, qsa, qsz, qss])
         first | (refine tkA (v := ?_) held_at14 ?_ ?_; rotate_left; focus ((intro w_ hSw; (try dsimp only at hSw); go_simp; (try with_reducible rfl)); done)) | (refine tkB held_at14 ?_)
         (try simp only [Act.put, qsa, qsz, qss])
         refine wpAnyH_done (by kernel_rfl) ?_ _
         skip
         have BW := qh Y8.out.b9
         go_wp2
         go_roundg (gk - 1)
         case measure => have := Hk.out; omega
         case rel => exact ⟨k + 1, Ak, ck, qh (by have := Hk.out; omega), by go_num, by rw [HN.out], qh (by rw [HN.out]; exact (Far.of_below (fun _ => False) BW.out).own Hok.out fun _ _ h => h), qh (HBk.out.trans (BW.out.mono HBk.out.size)), qh (HAk.out.below BW.out HAk.out.lt)⟩
        ·cases y
         ·have HN : Hid (addTo (fun k => isA ps (memAt l k) a) xq (k + 1) = xk ++ [(k : Int)]) := qh (by rw [Hxs.out, if_pos ⟨rfl, rfl⟩])
          refine wp_region_held_drew (S := (fun w' => w'.cell? ⟨w.heap.size, 0, none⟩ = some (.slice (some ⟨b2, o2, none⟩) n c) ∧ w'.cell? ⟨w7.heap.size, 0, none⟩ = some (.int .i64 (z : Int)) ∧ w'.cell? ⟨w7.heap.size, 1, none⟩ = some (.slice E3 u3 v3) ∧ w'.cell? ⟨w6.heap.size, 0, none⟩ = some (.string ⟨a.nm.toArray⟩) ∧ w'.cell? ⟨w6.heap.size, 1, none⟩ = some (.int .i64 a.op) ∧ w'.cell? ⟨w6.heap.size, 2, none⟩ = some (.int .i64 a.ver) ∧ w'.cell? ⟨w6.heap.size, 3, none⟩ = some (.int .i64 a.slot) ∧ w'.cell? ⟨w6.heap.size, 4, none⟩ = some (.string ⟨a.fl.toArray⟩) ∧ w'.cell? ⟨w6.heap.size, 5, none⟩ = some (.bool a.on) ∧ w'.cell? ⟨b2, o2 + z * 14, none⟩ = some (.string ⟨p2.nm.toArray⟩) ∧ w'.cell? ⟨b2, o2 + z * 14 + 1, none⟩ = some (.int .i64 p2.ver) ∧ w'.cell? ⟨b2, o2 + z * 14 + 2, none⟩ = some (.int .i64 p2.slot) ∧ w'.cell? ⟨b2, o2 + z * 14 + 3, none⟩ = some (.slice F2 fn2 fc2) ∧ w'.cell? ⟨b2, o2 + z * 14 + 4, none⟩ = some (.int .i64 kd2) ∧ w'.cell? ⟨b2, o2 + z * 14 + 5, none⟩ = some (.string ⟨pa2.nm.toArray⟩) ∧ w'.cell? ⟨b2, o2 + z * 14 + 6, none⟩ = some (.int .i64 pa2.op) ∧ w'.cell? ⟨b2, o2 + z * 14 + 7, none⟩ = some (.int .i64 pa2.ver) ∧ w'.cell? ⟨b2, o2 + z * 14 + 8, none⟩ = some (.int .i64 pa2.slot) ∧ w'.cell? ⟨b2, o2 + z * 14 + 9, none⟩ = some (.string ⟨pa2.fl.toArray⟩) ∧ w'.cell? ⟨b2, o2 + z * 14 + 10, none⟩ = some (.bool pa2.on) ∧ w'.cell? ⟨b2, o2 + z * 14 + 11, none⟩ = some (.string ⟨f2.toArray⟩) ∧ w'.cell? ⟨b2, o2 + z * 14 + 12, none⟩ = some (.bool no2) ∧ w'.cell? ⟨b2, o2 + z * 14 + 13, none⟩ = some (.slice E2' r2' d2'))) (by kernel_rfl) (⟨t0, m0, m1, a0, a1, a2, a3, a4, a5, e0, e1, e2, e3, e4, e5, e6, e7, e8, e9, e10, e11, e12, e13⟩) (fun hHeld => ?_)
          first | (refine tkA (v := ?_) held_at0 ?_ ?_; rotate_left; focus ((intro w_ hSw; (try dsimp only at hSw); go_simp; (try with_reducible rfl)); done)) | (refine tkB held_at0 ?_)
          (try simp only [Act.put, qsa, qsz, qss])
          first | (refine tkA (v := ?_) held_at1 ?_ ?_; rotate_left; focus ((intro w_ hSw; (try dsimp only at hSw); go_simp; (try with_reducible rfl)); done)) | (refine tkB held_at1 ?_)
          (try simp only [Act.put, qsa, qsz, qss])
          first | (refine tkA (v := ?_) held_at2 ?_ ?_; rotate_left; focus ((intro w_ hSw; (try dsimp only at hSw); go_simp; (try with_reducible rfl)); done)) | (refine tkB held_at2 ?_)
          (try simp only [Act.put, qsa, qsz, qss])
          first | (refine tkA (v := ?_) held_at3 ?_ ?_; rotate_left; focus ((intro w_ hSw; (try dsimp only at hSw); go_simp; (try with_reducible rfl)); done)) | (refine tkB held_at3 ?_)
          (try simp only [Act.put, qsa, qsz, qss])
          first | (refine tkA (v := ?_) held_at4 ?_ ?_; rotate_left; focus ((intro w_ hSw; (try dsimp only at hSw); go_simp; (try with_reducible rfl)); done)) | (refine tkB held_at4 ?_)
          (try simp only [Act.put, qsa, qsz, qss])
          first | (refine tkA (v := ?_) held_at5 ?_ ?_; rotate_left; focus ((intro w_ hSw; (try dsimp only at hSw); go_simp; (try with_reducible rfl)); done)) | (refine tkB held_at5 ?_)
          (try simp only [Act.put, qsa, qsz, qss])
          first | (refine tkA (v := ?_) held_at6 ?_ ?_; rotate_left; focus ((intro w_ hSw; (try dsimp only at hSw); go_simp; (try with_reducible rfl)); done)) | (refine tkB held_at6 ?_)
          (try simp only [Act.put, qsa, qsz, qss])
          first | (refine tkA (v := ?_) held_at7 ?_ ?_; rotate_left; focus ((intro w_ hSw; (try dsimp only at hSw); go_simp; (try with_reducible rfl)); done)) | (refine tkB held_at7 ?_)
          (try simp only [Act.put, qsa, qsz, qss])
          refine wpAnyH_ready (rs := [8]) (by kernel_rfl) (by simp) ?_
          refine AllReadyH.cons held_at8 (fun K hK => ?_) AllReadyH.nil
          (try simp only [qsa, qsz, qss])
          go_simp
          go_at_call 43
          refine (Hoi.out _ (by first | exact Y8.out.bel | exact below_drewN Y8.out.bel _)).mono ?_
          rintro e wn ⟨rfl, hb⟩
          (first | replace Y8 := qh (Y8.out.move hb) | replace Y8 := qh (Y8.out.move ((below_drewN (Below.refl _ _) _).trans hb))); clear hb t0 m0 m1 a0 a1 a2 a3 a4 a5 e0 e1 e2 e3 e4 e5 e6 e7 e8 e9 e10 e11 e12 e13; have t0 := Y8.out.t.cell 0; have m0 := Y8.out.m.cell 0; have m1 := Y8.out.m.cell 1; have a0 := Y8.out.a.cell 0; have a1 := Y8.out.a.cell 1; have a2 := Y8.out.a.cell 2; have a3 := Y8.out.a.cell 3; have a4 := Y8.out.a.cell 4; have a5 := Y8.out.a.cell 5; simp only [qgz, qgs] at t0 m0 m1 a0 a1 a2 a3 a4 a5; have e0 := (Y8.out.bel.cell (p := ⟨b2, o2 + z * 14, none⟩) hbl2).trans E0.out; have e1 := (Y8.out.bel.cell (p := ⟨b2, o2 + z * 14 + 1, none⟩) hbl2).trans E1.out; have e2 := (Y8.out.bel.cell (p := ⟨b2, o2 + z * 14 + 2, none⟩) hbl2).trans E2.out; have e3 := (Y8.out.bel.cell (p := ⟨b2, o2 + z * 14 + 3, none⟩) hbl2).trans E3'.out; have e4 := (Y8.out.bel.cell (p := ⟨b2, o2 + z * 14 + 4, none⟩) hbl2).trans E4.out; have e5 := (Y8.out.bel.cell (p := ⟨b2, o2 + z * 14 + 5, none⟩) hbl2).trans E5.out; have e6 := (Y8.out.bel.cell (p := ⟨b2, o2 + z * 14 + 6, none⟩) hbl2).trans E6.out; have e7 := (Y8.out.bel.cell (p := ⟨b2, o2 + z * 14 + 7, none⟩) hbl2).trans E7.out; have e8 := (Y8.out.bel.cell (p := ⟨b2, o2 + z * 14 + 8, none⟩) hbl2).trans E8.out; have e9 := (Y8.out.bel.cell (p := ⟨b2, o2 + z * 14 + 9, none⟩) hbl2).trans E9.out; have e10 := (Y8.out.bel.cell (p := ⟨b2, o2 + z * 14 + 10, none⟩) hbl2).trans E10.out; have e11 := (Y8.out.bel.cell (p := ⟨b2, o2 + z * 14 + 11, none⟩) hbl2).trans E11.out; have e12 := (Y8.out.bel.cell (p := ⟨b2, o2 + z * 14 + 12, none⟩) hbl2).trans E12.out; have e13 := (Y8.out.bel.cell (p := ⟨b2, o2 + z * 14 + 13, none⟩) hbl2).trans E13.out
          refine hK.out _ _ (⟨t0, m0, m1, a0, a1, a2, a3, a4, a5, e0, e1, e2, e3, e4, e5, e6, e7, e8, e9, e10, e11, e12, e13⟩) (fun hHeld => ?_)
          clear hK K
          (try simp only [Act.put, qsa, qsz, qss])
          first | (refine tkA (v := ?_) held_at9 ?_ ?_; rotate_left; focus ((intro w_ hSw; (try dsimp only at hSw); go_simp; (try with_reducible rfl)); done)) | (refine tkB held_at9 ?_)
          (try simp only [Act.put, qsa, qsz, qss])
          first | (refine tkA (v := ?_) held_at10 ?_ ?_; rotate_left; focus ((intro w_ hSw; (try dsimp only at hSw); go_simp; (try with_reducible rfl)); done)) | (refine tkB held_at10 ?_)
          (try simp only [Act.put, qsa, qsz, qss])
          first | (refine tkA (v := ?_) held_at11 ?_ ?_; rotate_left; focus ((intro w_ hSw; (try dsimp only at hSw); go_simp; (try with_reducible rfl)); done)) | (refine tkB held_at11 ?_)
          (try simp only [Act.put, qsa, qsz, qss])
          refine wpAnyH_ready (rs := [12]) (by kernel_rfl) (by simp) ?_
          refine AllReadyH.cons held_at12 (fun K hK => ?_) AllReadyH.nil
          (try simp only [qsa, qsz, qss])
          go_simp
          go_at_call 44
          refine (Hco.out _ (by first | exact Y8.out.b9 | exact below_drewN Y8.out.b9 _)).mono ?_
          rintro e wm ⟨rfl, hm⟩; subst hm
          skip
          refine hK.out _ _ (⟨t0, m0, m1, a0, a1, a2, a3, a4, a5, e0, e1, e2, e3, e4, e5, e6, e7, e8, e9, e10, e11, e12, e13⟩) (fun hHeld => ?_)
          clear hK K
          (try simp only [Act.put, qsa, qsz, qss])
          first | (refine tkA (v := ?_) held_at13 ?_ ?_; rotate_left; focus ((intro w_ hSw; (try dsimp only at hSw); go_simp; (try with_reducible rfl)); done)) | (refine tkB held_at13 ?_)
          (try simp only [Act.put, qsa, qsz, qss])
          first | (refine tkA (v := ?_) held_at14 ?_ ?_; rotate_left; focus ((intro w_ hSw; (try dsimp only at hSw); go_simp; (try with_reducible rfl)); done)) | (refine tkB held_at14 ?_)
          (try simp only [Act.put, qsa, qsz, qss])
          refine wpAnyH_done (by kernel_rfl) ?_ _
          skip
          have BW := qh Y8.out.b9
          have HO8 := qh ((Far.of_below (fun _ => False) BW.out).own Hok.out fun _ _ h => h)
          have HA8 := qh (HAk.out.below BW.out HAk.out.lt)
          have HB8 := qh (HBk.out.trans (BW.out.mono HBk.out.size))
          clear Y8 BW t0 m0 m1 a0 a1 a2 a3 a4 a5 e0 e1 e2 e3 e4 e5 e6 e7 e8 e9 e10 e11 e12 e13 hHeld
          obtain ⟨w8, rfl⟩ : ∃ x : World, x = wm := ⟨_, rfl⟩
          go_wp2_with (at_builtin; refine wpList_append_own _ rfl _ _ 60 rfl w5.heap.size 3 j0 (.int .i64 0) 1 8 Tryz.underlying60 Hj0.out Hy0.out Hy1.out Hy2.out rfl (by decide) _ _ _ rfl (HO8.out.alloc _) ⟨w8.heap.size, 0, none⟩ 1 1 [.int .i64 (k : Int)] rfl rfl (cell_one_new _ _ _) ?c2 ?c3 ?c4 ?c5 ?_)
          case c2 => simp [Value.oneCell']
          case c3 => unfold maxLen; omega
          case c4 => omega
          case c5 => have := HB8.out.size; simp; omega
          intro lv' w9 hown9 hg9 _
          obtain ⟨A9, c9, rfl, _, _, _⟩ := own_form hown9
          have HB9 := qh ((HB8.out.alloc HB8.out.size (.cells #[.int .i64 (k : Int)] 3)).grown hg9 (by have := HB8.out.size; simp; omega) (fun k e => (HO8.out.lt k e).1))
          have HA9 := qh ((HA8.out.alloc (.cells #[.int .i64 (k : Int)] 3)).grown hg9 (fun e => own_ne HO8.out HA8.out (by decide) e.symm))
          have HO9 : Hid (w9.ownsRow w5.heap.size 3 1 (.slice A9 (addTo (fun k => isA ps (memAt l k) a) xq (k + 1)).length c9) (addTo (fun k => isA ps (memAt l k) a) xq (k + 1)).length ((addTo (fun k => isA ps (memAt l k) a) xq (k + 1)).map (.int .i64))) := qh (by rw [HN.out, List.length_append, List.map_append]; exact hown9)
          have hlen9 : (addTo (fun k => isA ps (memAt l k) a) xq (k + 1)).length = xk.length + 1 := by rw [HN.out, List.length_append]; rfl
          have HL9 := qh hlen9
          clear hown9 hg9 hlen9
          go_wp2_with fail
          go_roundg (gk - 1)
          case measure => have := Hk.out; omega
          case rel => exact ⟨k + 1, A9, c9, qh (by have := Hk.out; omega), by go_num, by rw [HL9.out], HO9, HB9, HA9⟩
         ·have HN : Hid (addTo (fun k => isA ps (memAt l k) a) xq (k + 1) = xk) := qh (by rw [Hxs.out, if_neg (fun h => by cases h.2)])
          refine wp_region_held_drew (S := (fun w' => w'.cell? ⟨w.heap.size, 0, none⟩ = some (.slice (some ⟨b2, o2, none⟩) n c) ∧ w'.cell? ⟨w7.heap.size, 0, none⟩ = some (.int .i64 (z : Int)) ∧ w'.cell? ⟨w7.heap.size, 1, none⟩ = some (.slice E3 u3 v3) ∧ w'.cell? ⟨w6.heap.size, 0, none⟩ = some (.string ⟨a.nm.toArray⟩) ∧ w'.cell? ⟨w6.heap.size, 1, none⟩ = some (.int .i64 a.op) ∧ w'.cell? ⟨w6.heap.size, 2, none⟩ = some (.int .i64 a.ver) ∧ w'.cell? ⟨w6.heap.size, 3, none⟩ = some (.int .i64 a.slot) ∧ w'.cell? ⟨w6.heap.size, 4, none⟩ = some (.string ⟨a.fl.toArray⟩) ∧ w'.cell? ⟨w6.heap.size, 5, none⟩ = some (.bool a.on) ∧ w'.cell? ⟨b2, o2 + z * 14, none⟩ = some (.string ⟨p2.nm.toArray⟩) ∧ w'.cell? ⟨b2, o2 + z * 14 + 1, none⟩ = some (.int .i64 p2.ver) ∧ w'.cell? ⟨b2, o2 + z * 14 + 2, none⟩ = some (.int .i64 p2.slot) ∧ w'.cell? ⟨b2, o2 + z * 14 + 3, none⟩ = some (.slice F2 fn2 fc2) ∧ w'.cell? ⟨b2, o2 + z * 14 + 4, none⟩ = some (.int .i64 kd2) ∧ w'.cell? ⟨b2, o2 + z * 14 + 5, none⟩ = some (.string ⟨pa2.nm.toArray⟩) ∧ w'.cell? ⟨b2, o2 + z * 14 + 6, none⟩ = some (.int .i64 pa2.op) ∧ w'.cell? ⟨b2, o2 + z * 14 + 7, none⟩ = some (.int .i64 pa2.ver) ∧ w'.cell? ⟨b2, o2 + z * 14 + 8, none⟩ = some (.int .i64 pa2.slot) ∧ w'.cell? ⟨b2, o2 + z * 14 + 9, none⟩ = some (.string ⟨pa2.fl.toArray⟩) ∧ w'.cell? ⟨b2, o2 + z * 14 + 10, none⟩ = some (.bool pa2.on) ∧ w'.cell? ⟨b2, o2 + z * 14 + 11, none⟩ = some (.string ⟨f2.toArray⟩) ∧ w'.cell? ⟨b2, o2 + z * 14 + 12, none⟩ = some (.bool no2) ∧ w'.cell? ⟨b2, o2 + z * 14 + 13, none⟩ = some (.slice E2' r2' d2'))) (by kernel_rfl) (⟨t0, m0, m1, a0, a1, a2, a3, a4, a5, e0, e1, e2, e3, e4, e5, e6, e7, e8, e9, e10, e11, e12, e13⟩) (fun hHeld => ?_)
          first | (refine tkA (v := ?_) held_at0 ?_ ?_; rotate_left; focus ((intro w_ hSw; (try dsimp only at hSw); go_simp; (try with_reducible rfl)); done)) | (refine tkB held_at0 ?_)
          (try simp only [Act.put, qsa, qsz, qss])
          first | (refine tkA (v := ?_) held_at1 ?_ ?_; rotate_left; focus ((intro w_ hSw; (try dsimp only at hSw); go_simp; (try with_reducible rfl)); done)) | (refine tkB held_at1 ?_)
          (try simp only [Act.put, qsa, qsz, qss])
          first | (refine tkA (v := ?_) held_at2 ?_ ?_; rotate_left; focus ((intro w_ hSw; (try dsimp only at hSw); go_simp; (try with_reducible rfl)); done)) | (refine tkB held_at2 ?_)
          (try simp only [Act.put, qsa, qsz, qss])
          first | (refine tkA (v := ?_) held_at3 ?_ ?_; rotate_left; focus ((intro w_ hSw; (try dsimp only at hSw); go_simp; (try with_reducible rfl)); done)) | (refine tkB held_at3 ?_)
          (try simp only [Act.put, qsa, qsz, qss])
          first | (refine tkA (v := ?_) held_at4 ?_ ?_; rotate_left; focus ((intro w_ hSw; (try dsimp only at hSw); go_simp; (try with_reducible rfl)); done)) | (refine tkB held_at4 ?_)
          (try simp only [Act.put, qsa, qsz, qss])
          first | (refine tkA (v := ?_) held_at5 ?_ ?_; rotate_left; focus ((intro w_ hSw; (try dsimp only at hSw); go_simp; (try with_reducible rfl)); done)) | (refine tkB held_at5 ?_)
          (try simp only [Act.put, qsa, qsz, qss])
          first | (refine tkA (v := ?_) held_at6 ?_ ?_; rotate_left; focus ((intro w_ hSw; (try dsimp only at hSw); go_simp; (try with_reducible rfl)); done)) | (refine tkB held_at6 ?_)
          (try simp only [Act.put, qsa, qsz, qss])
          first | (refine tkA (v := ?_) held_at7 ?_ ?_; rotate_left; focus ((intro w_ hSw; (try dsimp only at hSw); go_simp; (try with_reducible rfl)); done)) | (refine tkB held_at7 ?_)
          (try simp only [Act.put, qsa, qsz, qss])
          refine wpAnyH_ready (rs := [8]) (by kernel_rfl) (by simp) ?_
          refine AllReadyH.cons held_at8 (fun K hK => ?_) AllReadyH.nil
          (try simp only [qsa, qsz, qss])
          go_simp
          go_at_call 43
          refine (Hoi.out _ (by first | exact Y8.out.bel | exact below_drewN Y8.out.bel _)).mono ?_
          rintro e wn ⟨rfl, hb⟩
          (first | replace Y8 := qh (Y8.out.move hb) | replace Y8 := qh (Y8.out.move ((below_drewN (Below.refl _ _) _).trans hb))); clear hb t0 m0 m1 a0 a1 a2 a3 a4 a5 e0 e1 e2 e3 e4 e5 e6 e7 e8 e9 e10 e11 e12 e13; have t0 := Y8.out.t.cell 0; have m0 := Y8.out.m.cell 0; have m1 := Y8.out.m.cell 1; have a0 := Y8.out.a.cell 0; have a1 := Y8.out.a.cell 1; have a2 := Y8.out.a.cell 2; have a3 := Y8.out.a.cell 3; have a4 := Y8.out.a.cell 4; have a5 := Y8.out.a.cell 5; simp only [qgz, qgs] at t0 m0 m1 a0 a1 a2 a3 a4 a5; have e0 := (Y8.out.bel.cell (p := ⟨b2, o2 + z * 14, none⟩) hbl2).trans E0.out; have e1 := (Y8.out.bel.cell (p := ⟨b2, o2 + z * 14 + 1, none⟩) hbl2).trans E1.out; have e2 := (Y8.out.bel.cell (p := ⟨b2, o2 + z * 14 + 2, none⟩) hbl2).trans E2.out; have e3 := (Y8.out.bel.cell (p := ⟨b2, o2 + z * 14 + 3, none⟩) hbl2).trans E3'.out; have e4 := (Y8.out.bel.cell (p := ⟨b2, o2 + z * 14 + 4, none⟩) hbl2).trans E4.out; have e5 := (Y8.out.bel.cell (p := ⟨b2, o2 + z * 14 + 5, none⟩) hbl2).trans E5.out; have e6 := (Y8.out.bel.cell (p := ⟨b2, o2 + z * 14 + 6, none⟩) hbl2).trans E6.out; have e7 := (Y8.out.bel.cell (p := ⟨b2, o2 + z * 14 + 7, none⟩) hbl2).trans E7.out; have e8 := (Y8.out.bel.cell (p := ⟨b2, o2 + z * 14 + 8, none⟩) hbl2).trans E8.out; have e9 := (Y8.out.bel.cell (p := ⟨b2, o2 + z * 14 + 9, none⟩) hbl2).trans E9.out; have e10 := (Y8.out.bel.cell (p := ⟨b2, o2 + z * 14 + 10, none⟩) hbl2).trans E10.out; have e11 := (Y8.out.bel.cell (p := ⟨b2, o2 + z * 14 + 11, none⟩) hbl2).trans E11.out; have e12 := (Y8.out.bel.cell (p := ⟨b2, o2 + z * 14 + 12, none⟩) hbl2).trans E12.out; have e13 := (Y8.out.bel.cell (p := ⟨b2, o2 + z * 14 + 13, none⟩) hbl2).trans E13.out
          refine hK.out _ _ (⟨t0, m0, m1, a0, a1, a2, a3, a4, a5, e0, e1, e2, e3, e4, e5, e6, e7, e8, e9, e10, e11, e12, e13⟩) (fun hHeld => ?_)
          clear hK K
          (try simp only [Act.put, qsa, qsz, qss])
          first | (refine tkA (v := ?_) held_at9 ?_ ?_; rotate_left; focus ((intro w_ hSw; (try dsimp only at hSw); go_simp; (try with_reducible rfl)); done)) | (refine tkB held_at9 ?_)
          (try simp only [Act.put, qsa, qsz, qss])
          first | (refine tkA (v := ?_) held_at10 ?_ ?_; rotate_left; focus ((intro w_ hSw; (try dsimp only at hSw); go_simp; (try with_reducible rfl)); done)) | (refine tkB held_at10 ?_)
          (try simp only [Act.put, qsa, qsz, qss])
          first | (refine tkA (v := ?_) held_at11 ?_ ?_; rotate_left; focus ((intro w_ hSw; (try dsimp only at hSw); go_simp; (try with_reducible rfl)); done)) | (refine tkB held_at11 ?_)
          (try simp only [Act.put, qsa, qsz, qss])
          refine wpAnyH_ready (rs := [12]) (by kernel_rfl) (by simp) ?_
          refine AllReadyH.cons held_at12 (fun K hK => ?_) AllReadyH.nil
          (try simp only [qsa, qsz, qss])
          go_simp
          go_at_call 44
          refine (Hco.out _ (by first | exact Y8.out.b9 | exact below_drewN Y8.out.b9 _)).mono ?_
          rintro e wm ⟨rfl, hm⟩; subst hm
          skip
          refine hK.out _ _ (⟨t0, m0, m1, a0, a1, a2, a3, a4, a5, e0, e1, e2, e3, e4, e5, e6, e7, e8, e9, e10, e11, e12, e13⟩) (fun hHeld => ?_)
          clear hK K
          (try simp only [Act.put, qsa, qsz, qss])
          first | (refine tkA (v := ?_) held_at13 ?_ ?_; rotate_left; focus ((intro w_ hSw; (try dsimp only at hSw); go_simp; (try with_reducible rfl)); done)) | (refine tkB held_at13 ?_)
          (try simp only [Act.put, qsa, qsz, qss])
          first | (refine tkA (v := ?_) held_at14 ?_ ?_; rotate_left; focus ((intro w_ hSw; (try dsimp only at hSw); go_simp; (try with_reducible rfl)); done)) | (refine tkB held_at14 ?_)
          (try simp only [Act.put, qsa, qsz, qss])
          refine wpAnyH_done (by kernel_rfl) ?_ _
          skip
          have BW := qh Y8.out.b9
          go_wp2
          go_roundg (gk - 1)
          case measure => have := Hk.out; omega
          case rel => exact ⟨k + 1, Ak, ck, qh (by have := Hk.out; omega), by go_num, by rw [HN.out], qh (by rw [HN.out]; exact (Far.of_below (fun _ => False) BW.out).own Hok.out fun _ _ h => h), qh (HBk.out.trans (BW.out.mono HBk.out.size)), qh (HAk.out.below BW.out HAk.out.lt)⟩
       ·obtain rfl : q = k := by have := Hk.out; omega
        rw [Hll.out] at Htk
        rw [← Htk.out] at Hok ⊢
        go_wp2
        go_roundg (g8 - 1)
        case measure => have := Hja.out; omega
        case rel => exact ⟨ja + 1, Ak, ck, qh (by have := Hja.out; omega), by go_num, rfl, Hok, HBk⟩
     ·obtain rfl : ys.length = ja := by have := Hja.out; omega
      have hfull : ys.take ys.length = ys := List.take_of_length_le (qr _)
      rw [hfull] at Hon ⊢
      have HLE : Hid ((addAll ps l ys []).length ≤ 100000) := qh (by have : (addAll ps l ys []).length ≤ l.length := addAll_len; have := Hll.out; have := hq8.out; omega)
      generalize addAll ps l ys [] = xs at Hon Hso HLE ⊢
      have Hsr := qh (sortI_any w5.heap.size Ao xs.length co xs wr Hon.out HLE.out)
      go_wp2_with (first | (go_at_call 45; refine Hsr.out.mono ?_; rintro e w6 ⟨rfl, hown6, hfar6⟩; refine Hid.out ?_))
      refine qh ?_
      have HBS := qh (HBo.out.trans (hfar6.below HBo.out.size fun i h => (Hon.out.lt i h).1))
      have Z6 := qh (Z5.out.move HBS.out)
      rw [show sortI xs = (leansAt ps l i).map (fun (k : Nat) => (k : Int)) from Hso.out] at hown6
      obtain ⟨_, _, hes, hns, hms, hrs⟩ := own_form hown6
      injection hes with hes1 hes2 hes3
      subst hes1 hes3
      have HRS : Hid (RInts w6 (fun k => w2.heap.size ≤ k ∧ k < w6.heap.size ∧ (Value.slice A1 i c1).ownBlock ≠ some k) Ao xs.length ((leansAt ps l i).map fun (k : Nat) => (k : Int))) := qh (Row.more hrs fun k hk => ⟨Nat.le_trans Z5.out.le hk.1, hk.2, fun e => by have := (Z5.out.own.lt k e).2; omega⟩)
      have HTK := qh (leansL_take (ps := ps) (l := l) (i := i) (by have := Hll.out; omega))
      clear hfar6 hown6 hes2 hrs Hon Hso Hsr
      have hqq := hq8.out
      go_wp2_with (at_builtin; refine wpList_append_own_at _ rfl _ _ 55 rfl w2.heap.size 60 i0 (.slice none 0 0) 1 24 Tryz.underlying55 Hi.out Hz0.out Hz1.out Hz2.out rfl (by decide) _ _ _ rfl (Z6.out.own.alloc _) ⟨w6.heap.size, 0, none⟩ 1 1 [.slice Ao xs.length co] rfl rfl (cell_one_new _ _ _) (by simp [Value.oneCell']) (by unfold maxLen; omega) (by omega) (by have := Z6.out.le; simp; omega) ?_)
      intro v' w8 hown8 hg8 _ hv8
      have Z8 := qh (Z6.out.push X2s.out HRS.out ⟨hns, hms⟩ hown8 hg8 (hv8.imp id fun e => by rw [e]; simp))
      obtain ⟨A8, c8, rfl, _, _, _⟩ := own_form hown8
      rw [← HTK.out] at Z8
      clear hown8 hg8 hv8
      go_wp2_with fail
      go_roundg (g9 - 1)
      case measure => have := Hi1.out; omega
      case rel => exact ⟨i + 1, A8, c8, _, qh (by have := Hi1.out; omega), by go_num, rfl, Z8⟩
   ·obtain rfl : q = i := by have := Hi1.out; omega
    have hfull : (leansL ps l).take q = leansL ps l := List.take_of_length_le (by rw [leansL_len, Hll.out]; exact qr _)
    have HP : Hid (LeansPost w ps l (.returned (.tuple #[.slice A1 q c1, .int .i64 0])) wr) := qh (by
     have h1 := HLs.out.hds
     rw [hfull] at h1
     obtain ⟨A2, c2, e2, k1, k2, k3⟩ := own_form HLs.out.own
     injection e2 with e2 e3 e4
     subst e2 e4
     have hlen : (leansR ps l).length = q := by rw [HLR.out, leansL_len, Hll.out]
     refine ⟨A1, c1, by rw [hlen, HCK.out], ?_, by rw [hlen]; exact k1, k2, HLs.out.tx.below⟩
     rw [hlen, HLR.out]
     exact RClauses.of_ (k3.more fun k hk => ⟨Nat.le_trans (Nat.le_of_lt X2s.out) hk.1, hk.2⟩) (h1.more fun k hk => ⟨Nat.le_trans (Nat.le_of_lt X2s.out) hk.1, hk.2.1⟩))
    go_wp2
    go_ret2
    exact HP.out
 ·have z1 : (ckSet ps l != 0) = true := by simpa using z0
  have HP := qh (fun w' hb => LeansPost.err (w := w) (w' := w') z0 rfl hb)
  generalize ckSet ps l = z at Hcs z1 HP
  go_enter Tryz.func14, Tryz.ntmps14
  go_wp2_with (first | (go_at_call 29; refine Hcs.out.mono ?_; rintro e w2 ⟨rfl, hb2⟩; refine Hid.out ?_))
  refine qh ?_
  have X2 := qh (X0.out.move hb2)
  clear hb2 X0 Hcs
  go_wp2
  go_ret2
  exact HP.out _ X2.out.below
end
end Go.Proofs.YtpipgffbhpnmkaaGreatDoor
