/- Parts of the proof: walks and plain laws, side by side. -/
import Derived.Test.YtpipgffbhpnmkaaGreatDoorM24
import Derived.Test.YtpipgffbhpnmkaaGreatDoorM18
import Derived.Deep.QuietTactic
import Derived.BigQuiet
import Derived.IntWalk
import Derived.Test.YtpipgffbhpnmkaaGreatDoorM15
import Derived.Test.YtpipgffbhpnmkaaGreatDoorRows
import Derived.Test.YtpipgffbhpnmkaaGreatDoorM5
import Derived.ProofKit
import Derived.LaidMore
import Derived.OpenShut
import Derived.Stop.Joined
import Derived.Stop.LaidErr
import Derived.Lib.LaidTab
import Derived.Test.YtpipgffbhpnmkaaGreatDoorM3
import Derived.ChangeOld
import Derived.Lib.SmallJoins
import Derived.Deep.Matrix
import Derived.Deep.Grids
set_option linter.unusedVariables false
set_option linter.unusedSimpArgs false
set_option linter.unusedSectionVars false
/- What a plan makes of what is there; who leans on something. No program in sight. -/
namespace Go.Proofs.YtpipgffbhpnmkaaGreatDoor
open Qm

theorem leans_want {ps : List Pk} {l : List Mem} {i : Nat} (h3 : (pkOf ps (memAt l i).pl).nd.kind = 3) (h : holdsAt ps l i = true) (hw : (pkOf ps (memAt l i).pl).nd.kids.any (fun x => decide (x.kind = 1)) = true) : leansAt ps l i ≠ [] := by
  unfold holdsAt at h
  obtain ⟨x, hx, hk⟩ := List.any_eq_true.1 hw
  have hk := of_decide_eq_true hk
  have key : ∃ k, k < l.length ∧ leanB ps l i k = true := by
    unfold leanB
    revert h h3 hx
    generalize (pkOf ps (memAt l i).pl).nd = nd
    intro h3 h hx
    cases nd with
    | mk kd a f no ks =>
      have h3 : kd = 3 := h3
      subst h3
      rw [holdsN, if_neg (by decide), if_neg (by decide), if_neg (by decide), if_neg (by simp), allN_eq] at h
      have hx' : x ∈ ks := hx
      have h1 := List.all_eq_true.1 h x hx'
      cases x with
      | mk kd2 a2 f2 no2 ks2 =>
        have hk : kd2 = 1 := hk
        subst hk
        rw [holdsN, if_pos rfl] at h1
        obtain ⟨m, hm, hma⟩ := List.any_eq_true.1 h1
        obtain ⟨j, hj, rfl⟩ := List.getElem_of_mem hm
        refine ⟨j, hj, ?_⟩
        rw [asksN, if_neg (by decide), if_neg (by simp), asksL_any, List.any_eq_true]
        refine ⟨_, hx', ?_⟩
        rw [asksN, if_pos rfl, List.any_cons]
        have : memAt l j = l[j] := by unfold memAt; rw [List.getD_eq_getElem?_getD, List.getElem?_eq_getElem hj]; rfl
        rw [this, hma]; rfl
  obtain ⟨k, hk1, hk2⟩ := key
  intro e
  have := mem_leansAt.2 ⟨hk1, hk2⟩
  rw [e] at this; cases this

/-! ### what a plan makes -/
/-- What OrderMakes asks of the acts. -/
structure ActsOk (ps : List Pk) (there l : List Mem) (az : List Ac) : Prop where
  outs : ∀ (i : Nat) (a : Ac), az[i]? = some a → a.out = true → a.m ∈ there ∧ a.cyc = 0 ∧ (∀ o ∈ l, keyOfM ps o ≠ keyOfM ps a.m) ∧ ∀ (j : Nat) (b : Ac), j < i → az[j]? = some b → b.out = true ∧ b.m ≠ a.m
  ins : ∀ (i : Nat) (a : Ac), az[i]? = some a → a.out = false → a.m ∈ l ∧ a.m ∉ there ∧ ∀ (j : Nat) (b : Ac), j < i → az[j]? = some b → b.out = false → b.m ≠ a.m
  all : ∀ m ∈ l, m ∉ there → ∃ a ∈ az, a.out = false ∧ a.m = m
  go : ∀ m ∈ there, (∀ o ∈ l, keyOfM ps o ≠ keyOfM ps m) → ∃ a ∈ az, a.out = true ∧ a.m = m
/-- What stands after so many acts. -/
structure Made (ps : List Pk) (there : List Mem) (az : List Ac) (i : Nat) (E : List Mem) : Prop where
  nd : (E.map (keyOfM ps)).Nodup
  mem : ∀ x, x ∈ E ↔ (∃ a ∈ az.take i, a.out = false ∧ a.m = x) ∨ (x ∈ there ∧ (∀ a ∈ az.take i, a.out = true → a.m ≠ x) ∧ ∀ a ∈ az.take i, a.out = false → keyOfM ps a.m ≠ keyOfM ps x)
theorem Made.zero {ps : List Pk} {there : List Mem} {az : List Ac} (h : (there.map (keyOfM ps)).Nodup) : Made ps there az 0 there :=
  ⟨h, fun x => by simp⟩
end Go.Proofs.YtpipgffbhpnmkaaGreatDoor

/- slices.IsSorted of ints. -/
namespace Go.Proofs.YtpipgffbhpnmkaaGreatDoor
open Go.RowKit Qm

set_option maxHeartbeats 1000000 in
theorem lessI_any (x y : Int) (w : World) : Calls Tryz.prog 46 #[.int .i64 x, .int .i64 y] w fun e w' => e = .returned (.bool (decide (x < y))) ∧ w' = w := by
  go_enter Tryz.func46, Tryz.ntmps46
  go_wp2
  go_ret
  exact ⟨rfl, rfl⟩
theorem rises_at {xs : List Int} (h : xs.Pairwise (· ≤ ·)) {j : Nat} (hj : j + 1 < xs.length) : ¬ xs.getD (j + 1) 0 < xs.getD j 0 := by
  have := List.pairwise_iff_getElem.1 h j (j + 1) (by omega) hj (by omega)
  rw [List.getD_eq_getElem?_getD, List.getD_eq_getElem?_getD, List.getElem?_eq_getElem hj, List.getElem?_eq_getElem (by omega : j < xs.length)]
  simp only [Option.getD_some]; omega
set_option maxRecDepth 100000 in
set_option maxHeartbeats 2000000 in
theorem sortedI_any (A : Option Addr) (n c : Nat) (xs : List Int) (w : World) (S : Nat → Prop) (hr : RInts w S A n xs) (hn : n ≤ 100000) (hs : xs.Pairwise (· ≤ ·)) :
    Calls Tryz.prog 15 #[.slice A n c] w fun e w' => e = .returned (.bool true) ∧ ∃ q, w' = w.drewN q := by
  have Hlen := Lib.hid hr.len
  have HR := Lib.hid hr
  have HS := Lib.hid (fun j hj => rises_at (j := j) hs hj)
  clear hr hs
  go_enter Tryz.func15, Tryz.ntmps15
  go_wp2_with fail
  go_loopg [3] n (fun g iv wr => ∃ (i : Int) (d : Nat), iv = .int .i64 i ∧ -1 ≤ i ∧ i < n ∧ Hid ((i + 1).toNat ≤ g) ∧ Hid (wr = w.drewN d))
  case atStart => exact ⟨(n : Int) - 1, 0, rfl, by omega, by omega, Lib.hid (by omega), Lib.hid rfl⟩
  case round =>
    obtain ⟨i, d, rfl, hi1, hi2, Hg, Hw⟩ := hrel
    have HRr : Hid (RInts wr S A n xs) := Lib.hid (by rw [Hw.out]; exact HR.out.keep fun _ _ => rfl)
    by_cases h0 : 0 < i
    · obtain ⟨j, rfl⟩ : ∃ j : Nat, i = (j : Int) + 1 := ⟨(i - 1).toNat, by omega⟩
      obtain ⟨b, o, rfl, hb, hc⟩ := HRr.out.at_ (k := j + 1) (by omega)
      obtain ⟨b', o', e, hb', hc'⟩ := HRr.out.at_ (k := j) (by omega)
      injection e with e; injection e with e1 e2; subst e1 e2
      have hlt := HS.out j (by have := Hlen.out; omega)
      generalize xs.getD (j + 1) 0 = u at hc hlt
      generalize xs.getD j 0 = v at hc' hlt
      have hd : decide (u < v) = false := decide_eq_false (by omega)
      have Hc := Lib.hid (fun wx => lessI_any u v wx)
      rw [hd] at Hc
      have q1 : IntKind.i64.wrap ((j : Int) + 1 - 1) = (j : Int) := by rw [IntKind.wrap_i64]; omega
      have q0 : IntKind.i64.wrap (j : Int) = (j : Int) := by rw [IntKind.wrap_i64]; omega
      have q2 : ((j : Int) + 1).toNat = j + 1 := by omega
      have q3 : (j : Int) < n := by omega
      have q4 : (0 : Int) ≤ (j : Int) + 1 := by omega
      clear hlt hd
      go_wp2_with fail
      go_quiet ((go_at_call 46; exact Calls.quiet_of_same (Hc.out _)))
      clear q0 q1 q2 q4
      go_wp2_with fail
      go_roundg (gk - 1)
      case measure => have := Hg.out; omega
      case rel => exact ⟨j, _, by first | rfl | go_num, by omega, by omega, Lib.hid (by have := Hg.out; omega), Lib.hid (by rw [Hw.out]; first | rfl | exact World.drewN_drewN _ _ _)⟩
    · go_wp2_with fail
      go_ret
      exact ⟨rfl, _, Hw.out⟩

end Go.Proofs.YtpipgffbhpnmkaaGreatDoor

/- OrderLeans, walked: it returns true. -/
namespace Go.Proofs.YtpipgffbhpnmkaaGreatDoor
open Go.RowKit Qm

/-- The tree's box and the set's. -/
structure Ox (w : World) (A : Option Addr) (n c : Nat) (B : Option Addr) (q d : Nat) (wx : World) : Prop where
  below : Below w.heap.size w wx
  t : Whole wx w.heap.size 24 [.slice A n c]
  l : Whole wx (w.heap.size + 1) 25 [.slice B q d]
theorem Ox.move {w : World} {A : Option Addr} {n c : Nat} {B : Option Addr} {q d : Nat} {wx wy : World} (h : Ox w A n c B q d wx) (hb : Below wx.heap.size wx wy) : Ox w A n c B q d wy := ⟨h.below.trans (hb.mono h.below.size), h.t.below hb h.t.lt, h.l.below hb h.l.lt⟩
theorem Ox.new (w : World) (A : Option Addr) (n c : Nat) (B : Option Addr) (q d : Nat) : Ox w A n c B q d ((w.alloc (.cells #[.slice A n c] 24)).alloc (.cells #[.slice B q d] 25)) :=
  ⟨((Below.refl _ w).alloc (Nat.le_refl _) _).alloc (by simp) _, (Whole.new w _ _ [.slice A n c] rfl).alloc _, Whole.new _ _ _ [.slice B q d] (by simp)⟩
theorem oleans1_any (x : Int) (lb : Nat) (B : Option Addr) (q d : Nat) (w : World) (h : w.cell? ⟨lb, 0, none⟩ = some (.slice B q d)) (h0 : 0 ≤ x) (h1 : x < q) :
    Calls Tryz.prog 17 #[.int .i64 x, .pointer (some ⟨lb, 0, none⟩)] w fun e w' => e = .returned (.bool false) ∧ ∃ z, w' = w.drewN z := by
  go_enter Tryz.func17, Tryz.ntmps17
  go_wp2
  go_ret
  exact ⟨ret_bool (by rw [decide_eq_false (by omega), decide_eq_false (by omega)]; rfl), 0, rfl⟩
theorem oleans2_any (cx : List Value) (y : Nd) (S : Nat → Prop) (w0 w : World) (h : RNd w0 S cx y) :
    Calls Tryz.prog 20 #[.agg cx.toArray] w fun e w' => e = .returned (.bool (decide (y.kind = 1))) ∧ Below w.heap.size w w' := by
  obtain ⟨k, a, f, no, ks⟩ := y
  obtain ⟨A, n, c, rfl, _, _, _, _, _, _⟩ := h.open_
  have hb : Hid (Below w.heap.size w (w.alloc (.cells (ndRow k a f no A n c).toArray 40))) := Lib.hid ((Below.refl _ w).alloc (Nat.le_refl _) _)
  have HE : Hid (decide ((Nd.mk k a f no ks).kind = 1) = (k == 1)) := Lib.hid rfl
  generalize decide ((Nd.mk k a f no ks).kind = 1) = R at HE
  clear h
  unfold ndRow at hb ⊢
  go_enter Tryz.func20, Tryz.ntmps20
  go_wp2
  go_ret
  exact ⟨ret_bool HE.out.symm, hb.out⟩
set_option maxRecDepth 100000 in
set_option maxHeartbeats 6400000 in
theorem oleansLaw_any (ps : List Pk) (l : List Mem) (S : Nat → Prop) (A B : Option Addr) (n c q d : Nat) (w : World) (hT : RTree w S A n ps) (hnc : n ≤ c) (hc : c ≤ maxLen) (hL : RSet w S B q l) (hqd : q ≤ d) (hd : d ≤ maxLen) (hS : ∀ k, S k → k < w.heap.size) (hLV : LaidV w) (hMW : MaxW w) :
    Calls Tryz.prog 6 #[.agg #[.slice A n c], .slice B q d] w fun e w' => e = .returned (.bool true) ∧ Below w.heap.size w w' := by
  have X0 := Lib.hid (Ox.new w A n c B q d)
  have HT := Lib.hid hT; have HS := Lib.hid hS; have HL := Lib.hid hL; have HLV := Lib.hid hLV; have HMW := Lib.hid hMW; clear hT hS hL hLV hMW
  have Hlt := Lib.hid (fun (wx : World) (hb : Below w.heap.size w wx) k hk => Nat.lt_of_lt_of_le (HS.out k hk) hb.size)
  have Hle := Lib.hid (fun wx (hb : Below w.heap.size w wx) => oleans_any ps l S A B n c q d wx (HT.out.under hb HS.out) hnc hc (HL.out.under hb HS.out) hqd hd (Hlt.out _ hb))
  have Hho := Lib.hid (fun (k : Int) wx (hb : Below w.heap.size w wx) => vholds_any ps l k S A B n c q d wx (HT.out.under hb HS.out) hnc hc (HL.out.under hb HS.out) hqd hd (Hlt.out _ hb))
  have Hor := Lib.hid (fun wx (hb : Below w.heap.size w wx) => ordered_any wx (HLV.out.below hb) (HMW.out.below hb))
  have HLE := Lib.hid (Hle.out _ X0.out.below)
  unfold maxLen at hc hd
  clear Hle
  obtain ⟨z, hz⟩ : ∃ z, ckSet ps l = z := ⟨_, rfl⟩
  have HZ := Lib.hid hz; clear hz
  go_enter Tryz.func6, Tryz.ntmps6
  go_upto_region 2 with (first | (go_at_call 14; refine HLE.out.mono ?_; rintro e w2 ⟨A2, c2, rfl, hr2, hn2, hc2, hb2⟩; rw [HZ.out]; refine Hid.out ?_))
  refine Lib.hid ?_
  have X2 := Lib.hid (X0.out.move hb2)
  have HR2 := Lib.hid hr2
  have HO2 := Lib.hid (Hor.out _ X2.out.below)
  clear hb2 hr2 HLE X0
  by_cases hz0 : z = 0
  · subst hz0
    have hlr : leansR ps l = leansL ps l := by unfold leansR; rw [if_pos HZ.out]
    have hlq : (leansR ps l).length = q := by rw [hlr, leansL_len]; exact HL.out.len
    rw [hlq] at hn2 HR2 ⊢
    rw [hlr] at HR2
    clear hlr hlq
    unfold maxLen at hc2
    go_upto_region 4 with (first | (go_at_call 9; refine HO2.out.mono ?_; rintro e w3 ⟨rfl, hb3⟩; refine Hid.out ?_))
    refine Lib.hid ?_
    have X3 := Lib.hid (X2.out.move hb3)
    have HR3 := Lib.hid ((HR2.out.keep fun p hp => hb3.cell hp.2).more fun k hk => (Nat.lt_of_lt_of_le hk.2 hb3.size : k < w3.heap.size))
    have t1 := X3.out.l.cell 0
    simp only [List.getElem?_cons_zero] at t1
    have hp8 := ckTree_len (ckSet_zero HZ.out).1
    have hlen : l.length ≤ 100000 := oset_len HZ.out (by rw [← HT.out.len]; exact hp8) HT.out.len
    have hlq : q ≤ 100000 := by rw [← HL.out.len]; exact hlen
    have hN8 : n ≤ 8 := by rw [← HT.out.len]; exact hp8
    clear hb3 HR2 HO2 X2 hlen hp8
    go_wp2
    go_loopg [32] q (fun g iv wr => ∃ i : Nat, Hid (i + g = q) ∧ iv = .int .i64 i ∧ Hid (Ox w A n c B q d wr) ∧ Hid (Below w3.heap.size w3 wr))
    case atStart => exact ⟨0, Lib.hid (Nat.zero_add _), rfl, X3, Lib.hid (Below.refl _ _)⟩
    case round =>
      obtain ⟨i, Hi, rfl, XR, HBR⟩ := hrel
      by_cases hi : i < q
      · have hbr := XR.out.below
        obtain ⟨b, o, m, E, u, v0, rfl, hbS, hm, huv, hv, hbo, g0, g1⟩ := (HL.out.under hbr HS.out).at_ hi
        have hme : memAt l i = m := memAt_at hm
        have hmok := ckMs_mem (ckSet_zero HZ.out).2 m (List.mem_of_getElem? hm)
        have hb1 : Below wr.heap.size wr (wr.alloc (.cells #[.int .i64 m.pl, .slice E u v0] 33)) := (Below.refl _ wr).alloc (Nat.le_refl _) _
        have X4 := Lib.hid (XR.out.move hb1)
        have HB4 := Lib.hid (HBR.out.trans (hb1.mono HBR.out.size))
        have M4 := Lib.hid (Whole.new wr wr.heap.size 33 [.int .i64 m.pl, .slice E u v0] rfl)
        have HR4 := Lib.hid (HR3.out.below HB4.out fun k hk => hk)
        have hbl : b < wr.heap.size := Nat.lt_of_lt_of_le (HS.out _ hbS) hbr.size
        have hi1 : (i : Int) < q := by omega
        have hi0 : (0 : Int) ≤ (i : Int) := by omega
        have hle : (leansL ps l).getD i [] = (leansAt ps l i).map fun (k : Nat) => (k : Int) := by
          unfold leansL
          rw [List.getD_eq_getElem?_getD, List.getElem?_map, List.getElem?_range (by rw [HL.out.len]; exact hi)]; rfl
        obtain ⟨b4, o4, A4, n4, c4, rfl, hb4S, hc4, hr4, hn4, hc4m⟩ := HR4.out.at_ hi
        rw [hle] at hr4
        have HR5 := Lib.hid hr4
        have hn4' := hr4.len
        rw [List.length_map] at hn4'
        have hn4q : n4 ≤ q := by
          have h1 := List.length_filter_le (leanB ps l i) (List.range l.length)
          rw [List.length_range] at h1
          have h3 := HL.out.len
          have h2 : (leansAt ps l i).length = ((List.range l.length).filter (leanB ps l i)).length := rfl
          omega
        have HN4 := Lib.hid hn4'
        have hsort : ((leansAt ps l i).map fun (k : Nat) => (k : Int)).Pairwise (· ≤ ·) := by
          rw [List.pairwise_map]
          unfold leansAt
          exact (List.Pairwise.filter _ List.pairwise_lt_range).imp fun h => by omega
        have Hso := Lib.hid (fun wx h => sortedI_any A4 n4 c4 _ wx (fun k => k < w3.heap.size) h (by omega) hsort)
        have t0 := X4.out.t.cell 0; have t1' := X4.out.l.cell 0; have m0 := M4.out.cell 0
        simp only [List.getElem?_cons_zero] at t0 t1' m0
        have hb4l : b4 < (wr.alloc (.cells #[.int .i64 m.pl, .slice E u v0] 33)).heap.size := Nat.lt_of_lt_of_le hb4S HB4.out.size
        have HM := Lib.hid hm; have HME := Lib.hid hme; have HMO := Lib.hid hmok
        clear hb1 hbo hmok hle hr4 hn4' hsort hm hme XR HBR
        go_upto_region 10 with (first | (go_at_call 15; refine (Hso.out _ HR5.out).mono ?_; rintro e w6 ⟨rfl, q6, rfl⟩; refine Hid.out ?_))
        refine Lib.hid ?_
        have X5 := Lib.hid (X4.out.move (below_drewN (Below.refl _ _) q6))
        have HR6 : Hid (RInts ((wr.alloc (.cells #[.int .i64 m.pl, .slice E u v0] 33)).drewN q6) _ _ _ _) := Lib.hid (RInts.keep HR5.out fun _ _ => rfl)
        have M5 := Lib.hid (M4.out.drewN q6)
        have HB5 := Lib.hid (below_drewN HB4.out q6)
        have hs6 : ((wr.alloc (.cells #[.int .i64 m.pl, .slice E u v0] 33)).drewN q6).heap.size = (wr.alloc (.cells #[.int .i64 m.pl, .slice E u v0] 33)).heap.size := rfl
        have hc4' : ((wr.alloc (.cells #[.int .i64 m.pl, .slice E u v0] 33)).drewN q6).cell? ⟨b4, o4 + i, none⟩ = some (.slice A4 n4 c4) := hc4
        rw [← hs6] at hb4l
        clear hc4 hs6 X4 HR5 M4 HB4 HR4 Hso t0 t1' m0 g0 g1 hbl
        generalize (wr.alloc (.cells #[.int .i64 m.pl, .slice E u v0] 33)).drewN q6 = w6 at *
        have hany : ((leansAt ps l i).map fun (k : Nat) => (k : Int)).any (fun _ => false) = false := by simp
        have HCF := Lib.hid (by
          have h := containsFunc_any A4 n4 c4 ((leansAt ps l i).map fun (k : Nat) => (k : Int)) 17 #[.pointer (some ⟨w.heap.size + 1, 0, none⟩)] (fun _ => false) w6 (fun k => k < w3.heap.size) HR6.out (by unfold maxLen; omega)
            ⟨fun args W => by kernel_rfl, fun x hx d0 => by
              obtain ⟨k, hk, rfl⟩ := List.mem_map.1 hx
              have := (mem_leansAt.1 hk).1
              have h3 := HL.out.len
              exact (oleans1_any (k : Int) (w.heap.size + 1) (some ⟨b, o, none⟩) q d (w6.drewN d0) (X5.out.l.cell 0) (by omega) (by omega)).mono fun e w' ⟨g1, z, g2⟩ => ⟨g1, _, g2.trans (World.drewN_drewN _ _ _)⟩⟩
          rw [hany] at h
          exact h)
        clear hany
        have hmf : ∀ (wx : World), (Instr.makeFunc (.func 17) #[] #[.pointer (some ⟨w.heap.size + 1, 0, none⟩)]).run Tryz.prog wx = .ok (.func (.func 17) #[] #[.pointer (some ⟨w.heap.size + 1, 0, none⟩)]) wx := fun wx => by kernel_rfl
        go_upto_region 11 with (first | (go_at_call 16; refine HCF.out.mono ?_; rintro e w7 ⟨rfl, q7, rfl⟩; refine Hid.out ?_))
        refine Lib.hid ?_
        have X7 := Lib.hid (X5.out.move (below_drewN (Below.refl _ _) q7))
        have HB7 := Lib.hid (below_drewN HB5.out q7)
        have M7 := Lib.hid (M5.out.drewN q7)
        have hc7 : (w6.drewN q7).cell? ⟨b4, o4 + i, none⟩ = some (.slice A4 n4 c4) := hc4'
        have hb7l : b4 < (w6.drewN q7).heap.size := hb4l
        clear hc4' hb4l X5 HB5 M5 HR6 HCF hmf
        generalize w6.drewN q7 = w7 at *
        have HHO := Lib.hid (Hho.out (i : Int) _ X7.out.below)
        have hE0 : holdsE ps l (i : Int) = 0 := by unfold holdsE; rw [if_neg (by rw [HZ.out]; decide), if_neg (by have := HL.out.len; omega)]
        rw [hE0] at HHO
        have hV0 : holdsV ps l (i : Int) = holdsAt ps l i := by unfold holdsV; rw [hE0]; simp
        rw [hV0] at HHO
        have hwant := @leans_want ps l i
        rw [HME.out] at hwant
        have t0 := X7.out.t.cell 0; have t1' := X7.out.l.cell 0
        simp only [List.getElem?_cons_zero] at t0 t1'
        clear hE0 hV0
        generalize holdsAt ps l i = hb at HHO hwant
        have HW := Lib.hid hwant
        clear hwant
        go_upto_region 12 with (first | (go_at_call 18; refine HHO.out.mono ?_; rintro e w8 ⟨rfl, hb8⟩; refine Hid.out ?_))
        refine Lib.hid ?_
        have X8 := Lib.hid (X7.out.move hb8)
        have HB8 := Lib.hid (HB7.out.trans (hb8.mono HB7.out.size))
        have M8 := Lib.hid (M7.out.below hb8 M7.out.lt)
        have hc8 := (hb8.cell (p := ⟨b4, o4 + i, none⟩) hb7l).trans hc7
        have hb8l : b4 < w8.heap.size := Nat.lt_of_lt_of_le hb7l hb8.size
        clear hb8 hc7 hb7l X7 HB7 M7 HHO t0 t1'
        obtain ⟨jp, hjp⟩ : ∃ j : Nat, m.pl = (j : Int) := ⟨m.pl.toNat, by have := HMO.out.1; omega⟩
        have hjn : jp < n := by have := HMO.out.2.1; have := HT.out.len; omega
        obtain ⟨bT, oT, p, Bp, mp, cp, kk, aa, ff, nn, D, qn, qc, rfl, hbTS, hpj, hPk, hcell⟩ := (HT.out.under X8.out.below HS.out).at_ hjn
        have hpk : pkOf ps m.pl = p := by rw [hjp]; exact pkOf_at hpj
        have hk3 : p.nd.kind = 3 := by
          have := (pkOk (ckTree_mem (ckSet_zero HZ.out).1 p (List.mem_of_getElem? hpj))).kind
          exact this
        obtain ⟨nm, ver, slot, fs, nd⟩ := p
        obtain ⟨k2, a2, f2, no2, ks⟩ := nd
        obtain ⟨D2, q2, d2, he, hq2, hd2, _, _, _, hkids⟩ := hPk.nd.open_
        unfold ndRow at he
        simp only [List.cons.injEq, Value.slice.injEq, Value.int.injEq, true_and, and_true] at he
        obtain ⟨_, _, _, _, _, _, _, _, _, rfl, rfl, rfl⟩ := he
        have hk13 := hcell 13 (by omega)
        unfold pkRow ndRow at hk13
        simp only [List.getElem?_cons_zero, List.getElem?_cons_succ] at hk13
        have HKS := Lib.hid (containsF_N (RNd w8 S) (fun y => decide (y.kind = 1)) D qn qc ks 20 #[] w8 S (kids_seq hkids) (Hlt.out _ X8.out.below) (by unfold maxLen at hd2 ⊢; omega)
          ⟨fun args W => by kernel_rfl, fun x hx cx W hb hr => oleans2_any cx x S w8 W hr⟩ (fun x y h => shape_nd h))
        have hw2 : hb = true → ks.any (fun y => decide (y.kind = 1)) = true → n4 ≠ 0 := fun g1 g2 e => by
          have h1 := HW.out (by rw [hpk]; exact hk3) g1 (by rw [hpk]; exact g2)
          have h2 := HN4.out
          rw [e] at h2
          exact h1 (List.length_eq_zero_iff.1 h2)
        generalize ks.any (fun y => decide (y.kind = 1)) = wb at HKS hw2
        have HW2 := Lib.hid hw2
        have t0 := X8.out.t.cell 0; have m0 := M8.out.cell 0
        simp only [List.getElem?_cons_zero] at t0 m0
        rw [hjp] at m0
        have hbTl : bT < w8.heap.size := Hlt.out _ X8.out.below _ hbTS
        have hjn1 : (jp : Int) < n := by omega
        have hjn0 : (0 : Int) ≤ (jp : Int) := by omega
        unfold maxLen at hd2
        have HJP := Lib.hid hjp
        clear hkids hpk hk3 hcell hPk HW hpj hw2 hjp
        go_upto_region 13 with (first | (go_at_call 19; refine HKS.out.mono ?_; rintro e w9 ⟨rfl, hb9⟩; refine Hid.out ?_))
        refine Lib.hid ?_
        have X9 := Lib.hid (X8.out.move hb9)
        have HB9 := Lib.hid (HB8.out.trans (hb9.mono HB8.out.size))
        have hc9 := (hb9.cell (p := ⟨b4, o4 + i, none⟩) hb8l).trans hc8
        have hb9l : b4 < w9.heap.size := Nat.lt_of_lt_of_le hb8l hb9.size
        clear hb9 hc8 hb8l X8 HB8 HKS t0 m0 hk13
        cases hb
        · go_wp2
          go_roundg (gk - 1)
          case measure => have := Hi.out; omega
          case rel => exact ⟨i + 1, Lib.hid (by have := Hi.out; omega), by go_num, X9, HB9⟩
        · cases wb
          · go_wp2
            go_roundg (gk - 1)
            case measure => have := Hi.out; omega
            case rel => exact ⟨i + 1, Lib.hid (by have := Hi.out; omega), by go_num, X9, HB9⟩
          · have hn0 : ((n4 : Int) == 0) = false := by have := HW2.out rfl rfl; simp; omega
            go_wp2
            go_roundg (gk - 1)
            case measure => have := Hi.out; omega
            case rel => exact ⟨i + 1, Lib.hid (by have := Hi.out; omega), by go_num, X9, HB9⟩
      · obtain rfl : q = i := by have := Hi.out; omega
        go_wp2
        go_ret
        exact ⟨rfl, XR.out.below⟩
  · have hzb : (z == 0) = false := by simpa using hz0
    go_upto_region 3 with (first | (go_at_call 9; refine HO2.out.mono ?_; rintro e w3 ⟨rfl, hb3⟩; refine Hid.out ?_))
    refine Lib.hid ?_
    have X3 := Lib.hid (X2.out.move hb3)
    have HO3 := Lib.hid (Hor.out _ X3.out.below)
    clear hb3 HO2
    go_wp2_with (first | (go_at_call 9; refine HO3.out.mono ?_; rintro e w4 ⟨rfl, hb4⟩; refine Hid.out ?_))
    refine Lib.hid ?_
    have X4 := Lib.hid (X3.out.move hb4)
    clear hb4
    go_wp2
    go_ret
    exact ⟨rfl, X4.out.below⟩
end Go.Proofs.YtpipgffbhpnmkaaGreatDoor

/- Arguments that can be read as data, opened: atoms, strings; what the listed variables hold. -/
namespace Go.Proofs.YtpipgffbhpnmkaaGreatDoor
open Go.ChangeShapes Go.WideShapes Go.ChangeAt Go.RowKit Qm

section
variable {H : Type} {enc : TypeId × Value → H} {w : World} {base : Nat} {sp : Nat → Bool} {held : Bool}
/-- One cell's field of a struct. -/
theorem field_cell {P : Program} {t : TypeId} {fs : Array Field} {fuel : Nat} {cs : List Value} {x : DataW H × List MemPlace} (ht : P.underlying t = some (.struct fs)) (h : DataW.trod enc P w base sp held fuel t cs = some x)
    (i : Nat) {f : Field} (hf : fs[i]? = some f) (hc : P.cellsOf f.type = 1) (hlt : f.offset < P.cellsOf t) : ∃ c n y, cs[f.offset]? = some c ∧ DataW.trod enc P w base sp held n f.type [c] = some y := by
  obtain ⟨xs, n, _, _, hl, hxl, hx⟩ := DataW.trod_struct ht h
  have h1 := hx i f hf
  have hlt' : f.offset < cs.length := by omega
  have hi : i < fs.size := (Array.getElem?_eq_some_iff.1 hf).1
  rw [hc, List.drop_eq_getElem_cons hlt'] at h1
  refine ⟨cs[f.offset], n, xs[i]'(by omega), List.getElem?_eq_getElem hlt', ?_⟩
  rw [List.getElem?_eq_getElem (by omega)] at h1
  have e : (cs[f.offset] :: List.drop (f.offset + 1) cs).take 1 = [cs[f.offset]] := rfl
  rw [e] at h1
  exact h1
def In64 (x : Int) : Prop := -9223372036854775808 ≤ x ∧ x ≤ 9223372036854775807
theorem i64_le {x : Int} (h : (Lit.int .i64 x).wf = true) : In64 x := by
  unfold In64
  simp [Lit.wf, IntKind.min, IntKind.max, IntKind.bits, IntKind.signed] at h; omega
theorem six_of {α : Type} {cs : List α} {a b c d e f : α} (hl : cs.length = 6) (h0 : cs[0]? = some a) (h1 : cs[1]? = some b) (h2 : cs[2]? = some c) (h3 : cs[3]? = some d) (h4 : cs[4]? = some e) (h5 : cs[5]? = some f) : cs = [a, b, c, d, e, f] := by
  match cs, hl with
  | [_, _, _, _, _, _], _ => simp at h0 h1 h2 h3 h4 h5; simp [h0, h1, h2, h3, h4, h5]
theorem str_one {P : Program} {t : TypeId} {n : Nat} {c : Value} {y : DataW H × List MemPlace} (ht : P.underlying t = some .string) (h : DataW.trod enc P w base sp held n t [c] = some y) : ∃ s : ByteArray, c = .string s ∧ s.size ≤ maxLen := by
  obtain ⟨s, e, _, hs⟩ := DataW.trod_string ht h
  simp at e
  exact ⟨s, e, hs⟩
theorem int_oneA {P : Program} {t : TypeId} {n : Nat} {c : Value} {y : DataW H × List MemPlace} (ht : P.underlying t = some (.int .i64)) (h : DataW.trod enc P w base sp held n t [c] = some y) : ∃ x : Int, c = .int .i64 x ∧ In64 x := by
  obtain ⟨x, e, _, hs⟩ := DataW.trod_int ht h
  simp at e
  exact ⟨x, e, i64_le hs⟩
theorem bool_one_ {P : Program} {t : TypeId} {n : Nat} {c : Value} {y : DataW H × List MemPlace} (ht : P.underlying t = some .bool) (h : DataW.trod enc P w base sp held n t [c] = some y) : ∃ x : Bool, c = .bool x := by
  obtain ⟨x, e, _⟩ := DataW.trod_bool ht h
  simp at e
  exact ⟨x, e⟩
/-- An atom's six cells. -/
theorem atom_cells {fuel : Nat} {cs : List Value} {x : DataW H × List MemPlace} (h : DataW.trod enc Tryz.prog w base sp held fuel 37 cs = some x) :
    ∃ (s f : ByteArray) (op ver slot : Int) (on : Bool), cs = [.string s, .int .i64 op, .int .i64 ver, .int .i64 slot, .string f, .bool on] ∧ s.size ≤ maxLen ∧ f.size ≤ maxLen ∧ In64 op ∧
      In64 ver ∧ In64 slot := by
  have hT := Tryz.underlying37
  have hl : cs.length = 6 := by
    obtain ⟨_, _, _, _, hl, _⟩ := DataW.trod_struct hT h
    rw [hl]; kernel_rfl
  obtain ⟨c0, n0, y0, e0, k0⟩ := field_cell hT h 0 rfl (by kernel_rfl) (of_decide_eq_true (by kernel_rfl))
  obtain ⟨c1, n1, y1, e1, k1⟩ := field_cell hT h 1 rfl (by kernel_rfl) (of_decide_eq_true (by kernel_rfl))
  obtain ⟨c2, n2, y2, e2, k2⟩ := field_cell hT h 2 rfl (by kernel_rfl) (of_decide_eq_true (by kernel_rfl))
  obtain ⟨c3, n3, y3, e3, k3⟩ := field_cell hT h 3 rfl (by kernel_rfl) (of_decide_eq_true (by kernel_rfl))
  obtain ⟨c4, n4, y4, e4, k4⟩ := field_cell hT h 4 rfl (by kernel_rfl) (of_decide_eq_true (by kernel_rfl))
  obtain ⟨c5, n5, y5, e5, k5⟩ := field_cell hT h 5 rfl (by kernel_rfl) (of_decide_eq_true (by kernel_rfl))
  obtain ⟨s, rfl, hs⟩ := str_one Tryz.underlying9 k0
  obtain ⟨op, rfl, ho⟩ := int_oneA Tryz.underlying3 k1
  obtain ⟨ver, rfl, hv⟩ := int_oneA Tryz.underlying3 k2
  obtain ⟨slot, rfl, hsl⟩ := int_oneA Tryz.underlying3 k3
  obtain ⟨f, rfl, hf⟩ := str_one Tryz.underlying9 k4
  obtain ⟨on, rfl⟩ := bool_one_ Tryz.underlying4 k5
  exact ⟨s, f, op, ver, slot, on, six_of hl e0 e1 e2 e3 e4 e5, hs, hf, ho, hv, hsl⟩
end

/-! what the listed variables hold -/
theorem laid_at {P : Program} {w : World} : ∀ {l : List (String × DataW Unit)} {k : Nat} {x : String × DataW Unit}, laidMet P l w → l[k]? = some x → ∃ r, laidMet P (x :: r) w
  | [], _, _, _, h => by simp at h
  | y :: r, 0, x, h, hk => by
    simp only [List.getElem?_cons_zero, Option.some.injEq] at hk
    subst hk
    exact ⟨r, h⟩
  | y :: r, k + 1, x, h, hk => laid_at h.tail (by simpa using hk)
theorem gPow : Tryz.prog.globalNamed "internal/strconv.uint64pow10" = some 5 := by kernel_rfl
theorem gRng : Tryz.prog.globalNamed "strconv.ErrRange" = some 4 := by kernel_rfl
theorem gSyn : Tryz.prog.globalNamed "strconv.ErrSyntax" = some 3 := by kernel_rfl
theorem tPow : (Tryz.prog.globals[5]?).map (·.type) = some 230 := by kernel_rfl
theorem tRng : (Tryz.prog.globals[4]?).map (·.type) = some 153 := by kernel_rfl
theorem tSyn : (Tryz.prog.globals[3]?).map (·.type) = some 153 := by kernel_rfl
theorem rowErr : ∀ u, Tryz.prog.typeName? 3 u = some "*errors.errorString" → u = 226 := fun _ h => typeName_ptr_named (nm := "errors.errorString") (by kernel_rfl) (by kernel_rfl) (by decide) _ h
theorem laidV_of {w : World} {l : List (String × DataW Unit)} (h : laidMet Tryz.prog l w) {i j k : Nat} (hi : l[i]? = some ("internal/strconv.uint64pow10", Rows.laid_internal_strconv_uint64pow10)) (hj : l[j]? = some ("strconv.ErrRange", Rows.laid_strconv_ErrRange)) (hk : l[k]? = some ("strconv.ErrSyntax", Rows.laid_strconv_ErrSyntax)) : LaidV w := by
  obtain ⟨_, h1⟩ := laid_at h hi
  obtain ⟨_, h2⟩ := laid_at h hj
  obtain ⟨_, h3⟩ := laid_at h hk
  obtain ⟨a2, s2, e2, _⟩ := laid_sentinel h2 gRng tRng Tryz.underlying153 rowErr Tryz.underlying226 Tryz.underlying228 rfl rfl Tryz.underlying9 (by kernel_rfl) (by kernel_rfl)
  obtain ⟨a3, s3, e3, _⟩ := laid_sentinel h3 gSyn tSyn Tryz.underlying153 rowErr Tryz.underlying226 Tryz.underlying228 rfl rfl Tryz.underlying9 (by kernel_rfl) (by kernel_rfl)
  exact ⟨⟨_, _, e3⟩, ⟨_, _, e2⟩, Lib.tabIs_of_head gPow tPow Tryz.underlying230 Tryz.underlying140 (by kernel_rfl) (by kernel_rfl) h1⟩
end Go.Proofs.YtpipgffbhpnmkaaGreatDoor

/- Arguments that can be read as data, opened into the words of these proofs. -/
namespace Go.Proofs.YtpipgffbhpnmkaaGreatDoor
open Go.ChangeShapes Go.WideShapes Go.ChangeAt Go.RowKit Go.Joins Go.Deep

theorem spot_add {w : World} {a : Addr} {n : Nat} {f : Nat → Value} (hn : 0 < n) (h : ∀ i, i < n → w.cell? (a.add i) = some (f i)) : ∃ b o, a = ⟨b, o, none⟩ ∧ b < w.heap.size ∧ ∀ j, j < n → w.cell? ⟨b, o + j, none⟩ = some (f j) := by
  obtain ⟨b, o, spot⟩ := a
  have h0 := h 0 hn
  have hs : spot = none := by simpa [Addr.add] using World.cell?_spot h0
  subst hs
  have ha : ∀ j, (⟨b, o, none⟩ : Addr).add j = ⟨b, o + j, none⟩ := by
    intro j; unfold Addr.add; by_cases hj : j = 0 <;> simp [hj]
  refine ⟨b, o, rfl, ?_, fun j hj => by rw [← ha]; exact h j hj⟩
  have := World.block_lt_of_cell? w _ h0
  rw [ha] at this; exact this

theorem row_of_cells {w : World} {a : Addr} {n : Nat} {vs : List Value} (hl : vs.length = n) (h : ∀ i (_ : i < n), w.cell? (a.add i) = vs[i]?) : Row w (fun k => k < w.heap.size) (some a) n vs := by
  refine ⟨hl, fun hn => ?_⟩
  obtain ⟨b, o, rfl, hb, hc⟩ := spot_add (f := fun i => (vs[i]?).getD undef) hn (fun i hi => by rw [h i hi, List.getElem?_eq_getElem (by omega)]; rfl)
  exact ⟨b, o, rfl, hb, fun j hj => by rw [hc j hj, List.getElem?_eq_getElem (by omega)]; rfl⟩

section
variable {H : Type} {enc : TypeId × Value → H} {P : Program} {w : World} {base : Nat} {held : Bool}
end
end Go.Proofs.YtpipgffbhpnmkaaGreatDoor

/- Arguments that can be read as needs, opened. -/
namespace Go.Proofs.YtpipgffbhpnmkaaGreatDoor
open Go.ChangeShapes Go.WideShapes Go.ChangeAt Go.RowKit Qm

theorem flatK {K : Nat} {cs : List (List Value)} (h : ∀ x ∈ cs, x.length = K) : ∀ {j : Nat} {x : List Value}, cs[j]? = some x → ∀ i, i < K → cs.flatten[j * K + i]? = x[i]? := by
  induction cs with
  | nil => intro j x hj; simp at hj
  | cons c r ih =>
    intro j x hj i hi
    have hc := h c (List.mem_cons_self ..)
    rw [List.flatten_cons]
    cases j with
    | zero =>
      simp only [List.getElem?_cons_zero, Option.some.injEq] at hj
      subst hj
      rw [List.getElem?_append_left (by omega)]; congr 1; omega
    | succ j =>
      rw [List.getElem?_cons_succ] at hj
      have he : (j + 1) * K = j * K + K := Nat.succ_mul j K
      rw [List.getElem?_append_right (by omega)]
      rw [← ih (fun y hy => h y (List.mem_cons_of_mem _ hy)) hj i hi]
      congr 1; omega
theorem flatK_len {K : Nat} {cs : List (List Value)} (h : ∀ x ∈ cs, x.length = K) : cs.flatten.length = cs.length * K := by
  induction cs with
  | nil => simp
  | cons c r ih =>
    have hc := h c (List.mem_cons_self ..)
    have := ih fun y hy => h y (List.mem_cons_of_mem _ hy)
    simp only [List.flatten_cons, List.length_append, List.length_cons, Nat.succ_mul]
    omega

section
variable {H : Type} {enc : TypeId × Value → H} {P : Program} {w : World} {base : Nat} {sp : Nat → Bool} {held : Bool}
/-- A slice whose elements have K cells: its rows, each read with less fuel. -/
theorem slice_items {t e : TypeId} {K fuel : Nat} {v : Value} {x : DataW H × List MemPlace} (ht : P.underlying t = some (.slice e)) (hK : P.cellsOf e = K) (hK0 : 0 < K) (h : DataW.trod enc P w base sp held fuel t [v] = some x) :
    ∃ (A : Option Addr) (n c : Nat) (cs : List (List Value)), v = .slice A n c ∧ n ≤ c ∧ c ≤ maxLen ∧ cs.length = n ∧ Row w (fun k => k < w.heap.size) A (n * K) cs.flatten ∧
      ∀ x ∈ cs, x.length = K ∧ ∃ m y, m < fuel ∧ DataW.trod enc P w base sp held m e x = some y := by
  rcases DataW.trod_slice ht h with ⟨hcs, _⟩ | ⟨a, len, cap, elems, rest, n, hfuel, hcs, _, hb, hl, hm, hlen, hel, _, _⟩
  · simp at hcs
    exact ⟨none, 0, 0, [], hcs, Nat.le_refl _, Nat.zero_le _, rfl, by simpa using Row.nil_, fun x hx => by cases hx⟩
  · simp at hcs
    subst hcs hK
    have key : ∀ i, i < len → ∃ cs', w.cells? base (a.add (i * P.cellsOf e)) (P.cellsOf e) = some cs' ∧ ∃ y, DataW.trod enc P w base sp held n e cs' = some y := fun i hi => by
      have h1 := hel i hi
      rw [List.getElem?_eq_getElem (by omega)] at h1
      obtain ⟨cs', h2, h3⟩ := Option.bind_eq_some_iff.1 h1
      exact ⟨cs', h2, _, h3⟩
    have hget : ∀ j, j < len → ((List.range len).map fun i => (w.cells? base (a.add (i * P.cellsOf e)) (P.cellsOf e)).getD [])[j]? = some ((w.cells? base (a.add (j * P.cellsOf e)) (P.cellsOf e)).getD []) := fun j hj => by
      rw [List.getElem?_map, List.getElem?_range hj]; rfl
    have hmem : ∀ x ∈ (List.range len).map fun i => (w.cells? base (a.add (i * P.cellsOf e)) (P.cellsOf e)).getD [], x.length = P.cellsOf e ∧ ∃ m y, m < fuel ∧ DataW.trod enc P w base sp held m e x = some y := by
      intro x hx
      obtain ⟨i, hi, rfl⟩ := List.mem_map.1 hx
      rw [List.mem_range] at hi
      obtain ⟨cs', h1, y, h2⟩ := key i hi
      rw [h1]
      exact ⟨(World.cells?_some h1).2.1, n, y, by omega, h2⟩
    refine ⟨some a, len, cap, (List.range len).map fun i => (w.cells? base (a.add (i * P.cellsOf e)) (P.cellsOf e)).getD [], rfl, hl, hm, by simp, ?_, hmem⟩
    refine row_of_cells (by rw [flatK_len fun x hx => (hmem x hx).1]; simp) fun p hp => ?_
    obtain ⟨i, r, hr, rfl⟩ : ∃ i r, r < P.cellsOf e ∧ p = i * P.cellsOf e + r := ⟨p / P.cellsOf e, p % P.cellsOf e, Nat.mod_lt _ hK0, by rw [Nat.mul_comm]; exact (Nat.div_add_mod p _).symm⟩
    have hi : i < len := by
      apply Classical.byContradiction
      intro hni
      have : len * P.cellsOf e ≤ i * P.cellsOf e := Nat.mul_le_mul_right _ (by omega)
      omega
    rw [flatK (fun x hx => (hmem x hx).1) (hget i hi) r hr]
    obtain ⟨cs', h1, _⟩ := key i hi
    rw [h1, ← Go.Deep.add_add]
    exact (World.cells?_some h1).2.2 r hr
end
section
variable {H : Type} {enc : TypeId × Value → H} {w : World} {base : Nat} {sp : Nat → Bool} {held : Bool}
theorem bs_list (s : ByteArray) : s = ⟨s.data.toList.toArray⟩ := by obtain ⟨⟨l⟩⟩ := s; rfl
set_option maxRecDepth 100000 in
theorem need_cells : ∀ (fuel : Nat) (cs : List Value) (x : DataW H × List MemPlace), DataW.trod enc Tryz.prog w base sp held fuel 40 cs = some x →
    ∃ y, RNd w (fun k => k < w.heap.size) cs y := by
  intro fuel
  induction fuel using Nat.strongRecOn with
  | _ fuel ih =>
    intro cs x h
    have hT := Tryz.underlying40
    obtain ⟨xs, n, hfu, _, hlen, hxl, hx⟩ := DataW.trod_struct hT h
    have hl : cs.length = 10 := by rw [hlen]; kernel_rfl
    obtain ⟨c0, n0, y0, e0, k0⟩ := field_cell hT h 0 rfl (by kernel_rfl) (of_decide_eq_true (by kernel_rfl))
    obtain ⟨c7, n7, y7, e7, k7⟩ := field_cell hT h 2 rfl (by kernel_rfl) (of_decide_eq_true (by kernel_rfl))
    obtain ⟨c8, n8, y8, e8, k8⟩ := field_cell hT h 3 rfl (by kernel_rfl) (of_decide_eq_true (by kernel_rfl))
    have h1 := hx 1 _ rfl
    have h4 := hx 4 _ rfl
    have hxs : xs.length = 5 := hxl
    rw [List.getElem?_eq_getElem (by omega)] at h1 h4
    obtain ⟨k, rfl, _⟩ := int_oneA Tryz.underlying3 k0
    obtain ⟨f, rfl, hf⟩ := str_one Tryz.underlying9 k7
    obtain ⟨no, rfl⟩ := bool_one_ Tryz.underlying4 k8
    obtain ⟨s, g, op, ver, slot, on, ea, hs, hg, _, _, _⟩ := atom_cells h1
    match cs, hl with
    | [d0, d1, d2, d3, d4, d5, d6, d7, d8, d9], _ =>
      have h4' : DataW.trod enc Tryz.prog w base sp held n 38 [d9] = some xs[4] := h4
      obtain ⟨A, m, c, rows, rfl, hnc, hc, hrl, hrow, hit⟩ := slice_items Tryz.underlying38 (K := 10) (by kernel_rfl) (by decide) h4'
      have e0' : d0 = .int .i64 k := by simpa using e0
      have e7' : d7 = .string f := by simpa using e7
      have e8' : d8 = .bool no := by simpa using e8
      have ea' : [d1, d2, d3, d4, d5, d6] = [.string s, .int .i64 op, .int .i64 ver, .int .i64 slot, .string g, .bool on] := ea
      simp only [List.cons.injEq, and_true] at ea'
      obtain ⟨rfl, rfl, rfl, rfl, rfl, rfl⟩ := ea'
      subst e0' e7' e8'
      have hkid : ∀ x ∈ rows, ∃ y, RNd w (fun k => k < w.heap.size) x y := fun x hx => by
        obtain ⟨_, m, y, hm, hy⟩ := hit x hx
        exact ih m (by omega) x y hy
      obtain ⟨ks, hkl, hks⟩ : ∃ ks : List Nd, ks.length = rows.length ∧ ∀ (j : Nat) (x : List Value) (y : Nd), rows[j]? = some x → ks[j]? = some y → RNd w (fun k => k < w.heap.size) x y := by
        clear hrow hit hrl
        induction rows with
        | nil => exact ⟨[], rfl, fun j x y h => by simp at h⟩
        | cons r rs ihr =>
          obtain ⟨y, hy⟩ := hkid r (List.mem_cons_self ..)
          obtain ⟨ks, h1, h2⟩ := ihr fun x hx => hkid x (List.mem_cons_of_mem _ hx)
          refine ⟨y :: ks, by simp [h1], fun j x' y' h3 h4 => ?_⟩
          cases j with
          | zero =>
            simp only [List.getElem?_cons_zero, Option.some.injEq] at h3 h4
            subst h3 h4; exact hy
          | succ j => rw [List.getElem?_cons_succ] at h3 h4; exact h2 j x' y' h3 h4
      refine ⟨.mk k ⟨s.data.toList, op, ver, slot, g.data.toList, on⟩ f.data.toList no ks, ?_⟩
      have hr := RNd.shut (w := w) (S := fun k => k < w.heap.size) (k := k) (a := ⟨s.data.toList, op, ver, slot, g.data.toList, on⟩) (f := f.data.toList) (no := no) (ks := ks) hnc hc (by rw [← Lib.size_eq]; exact hs) (by rw [← Lib.size_eq]; exact hg) (by rw [← Lib.size_eq]; exact hf) ⟨rows, by omega, hrl, hrow, hks⟩
      unfold ndRow at hr
      simp only [] at hr
      rw [← bs_list, ← bs_list, ← bs_list] at hr
      exact hr
end
end Go.Proofs.YtpipgffbhpnmkaaGreatDoor
