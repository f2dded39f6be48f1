/- Parts of the proof: walks and plain laws, side by side. -/
import Derived.Test.YtpipgffbhpnmkaaGreatDoorM24
import Derived.Test.YtpipgffbhpnmkaaGreatDoorM25
import Derived.Test.YtpipgffbhpnmkaaGreatDoorM12
set_option linter.unusedVariables false
set_option linter.unusedSimpArgs false
set_option linter.unusedSectionVars false
/- OrderFirst, walked: it returns true. -/
namespace Go.Proofs.YtpipgffbhpnmkaaGreatDoor
open Go.RowKit Qm

/-- In the first loop: the acts' world below, the three maps. -/
structure Fr (w5 : World) (aL : List Ac) (k ab : Nat) (at_ cy sz : Int → Option Int) (ma mc mz : Nat) (wr : World) : Prop where
  b : Below w5.heap.size w5 wr
  a : IntMap Tryz.prog wr ab at_ ma
  c : IntMap Tryz.prog wr (ab + 1) cy mc
  z : IntMap Tryz.prog wr (ab + 1 + 1) sz mz
  hab : w5.heap.size ≤ ab
  sn : Seen aL k at_ cy sz
  la : ma ≤ k
  lc : mc ≤ k
  lz : mz ≤ k
theorem Fr.move {w5 : World} {aL : List Ac} {k ab : Nat} {at_ cy sz : Int → Option Int} {ma mc mz : Nat} {wr wy : World} (h : Fr w5 aL k ab at_ cy sz ma mc mz wr) (hb : Below wr.heap.size wr wy) : Fr w5 aL k ab at_ cy sz ma mc mz wy :=
  ⟨h.b.trans (hb.mono h.b.size), h.a.kept (grown_of_below hb none) (by simp), h.c.kept (grown_of_below hb none) (by simp), h.z.kept (grown_of_below hb none) (by simp), h.hab, h.sn, h.la, h.lc, h.lz⟩
theorem Fr.zero {w5 : World} {aL : List Ac} : Fr w5 aL 0 w5.heap.size (fun _ => none) (fun _ => none) (fun _ => none) 0 0 0 (((w5.alloc (.map #[] 0)).alloc (.map #[] 0)).alloc (.map #[] 0)) := by
  have h1 := IntMap.made Tryz.prog w5
  have h2 := IntMap.made Tryz.prog (w5.alloc (.map #[] 0))
  have h3 := IntMap.made Tryz.prog ((w5.alloc (.map #[] 0)).alloc (.map #[] 0))
  refine ⟨(((Below.refl _ _).alloc (Nat.le_refl _) _).alloc (by simp) _).alloc (by simp; omega) _, (h1.kept (World.grownBy_alloc _ _ none) (by simp)).kept (World.grownBy_alloc _ _ none) (by simp), ?_, ?_, Nat.le_refl _, Seen.zero, Nat.le_refl _, Nat.le_refl _, Nat.le_refl _⟩
  · have := h2.kept (World.grownBy_alloc _ (.map #[] 0) none) (by simp)
    simpa using this
  · simpa using h3
theorem cnt_le {b : Bool} {m k : Nat} (h : m ≤ k) : (if b = true then m else m + 1) ≤ k + 1 := by split <;> omega
theorem zeroIntM (w : World) : (zeroValue 3).run Tryz.prog w = .ok (.int .i64 0) w := by kernel_rfl
set_option maxRecDepth 100000 in
set_option maxHeartbeats 6400000 in
theorem ofirst_any (ps : List Pk) (l1 l : List Mem) (S : Nat → Prop) (A B1 B : Option Addr) (n c q1 d1 q d : Nat) (w : World) (hT : RTree w S A n ps) (hnc : n ≤ c) (hc : c ≤ maxLen) (hL1 : RSet w S B1 q1 l1) (hqd1 : q1 ≤ d1) (hd1 : d1 ≤ maxLen) (hL : RSet w S B q l) (hqd : q ≤ d) (hd : d ≤ maxLen) (hS : ∀ k, S k → k < w.heap.size) (hLV : LaidV w) (hMW : MaxW w) :
    Calls Tryz.prog 5 #[.agg #[.slice A n c], .slice B1 q1 d1, .slice B q d] w fun e w' => e = .returned (.bool true) ∧ Below w.heap.size w w' := by
  have X0 := Lib.hid (Tx.new w A n c)
  have HT := Lib.hid hT; have HS := Lib.hid hS; have HL := Lib.hid hL; have HL1 := Lib.hid hL1; have HLV := Lib.hid hLV; have HMW := Lib.hid hMW; clear hT hS hL hL1 hLV hMW
  have Hlt := Lib.hid (fun (wx : World) (hb : Below w.heap.size w wx) k hk => Nat.lt_of_lt_of_le (HS.out k hk) hb.size)
  have Hle := Lib.hid (fun wx (hb : Below w.heap.size w wx) => oleans_any ps l S A B n c q d wx (HT.out.under hb HS.out) hnc hc (HL.out.under hb HS.out) hqd hd (Hlt.out _ hb))
  have HP1 := Lib.hid (fun wx (hb : Below w.heap.size w wx) => oplan_any ps l1 l S A B1 B n c q1 d1 q d wx (HT.out.under hb HS.out) hnc hc (HL1.out.under hb HS.out) hqd1 hd1 (HL.out.under hb HS.out) hqd hd (Hlt.out _ hb))
  have Hor := Lib.hid (fun wx (hb : Below w.heap.size w wx) => ordered_any wx (HLV.out.below hb) (HMW.out.below hb))
  have HLE := Lib.hid (Hle.out _ X0.out.below)
  unfold maxLen at hc hd hd1
  clear Hle
  obtain ⟨z, hz⟩ : ∃ z, ckSet ps l = z := ⟨_, rfl⟩
  have HZ := Lib.hid hz; clear hz
  obtain ⟨z1, hz1⟩ : ∃ z, planE ps l1 l = z := ⟨_, rfl⟩
  have HZ1 := Lib.hid hz1; clear hz1
  go_enter Tryz.func5, Tryz.ntmps5
  go_upto_region 2 with (first | (go_at_call 14; refine HLE.out.mono ?_; rintro e w2 ⟨A2, c2, rfl, hr2, hn2, hc2, hb2⟩; rw [HZ.out]; refine Hid.out ?_))
  refine Lib.hid ?_
  have X2 := Lib.hid (X0.out.move hb2)
  have HA2 := Lib.hid (HP1.out _ X2.out.below)
  have HR2 := Lib.hid hr2
  have t0 := X2.out.whole.cell 0
  simp only [List.getElem?_cons_zero] at t0
  clear hb2 hr2 HLE X0 HP1
  go_upto_region 3 with (first | (go_at_call 8; refine HA2.out.mono ?_; rintro e w3 ⟨v3, cs3, B3, rfl, _, hG3, hb3⟩; rw [HZ1.out]; refine Hid.out ?_))
  refine Lib.hid ?_
  have X3 := Lib.hid (X2.out.move hb3)
  obtain ⟨A3, c3, rfl, hn3, hc3, hs3⟩ := hG3.seq
  have HR3 := Lib.hid ((HR2.out.keep fun p hp => hb3.cell hp.2).more fun k hk => (⟨hk.1, Nat.lt_of_lt_of_le hk.2 hb3.size⟩ : (w.alloc (.cells #[.slice A n c] 24)).heap.size ≤ k ∧ k < w3.heap.size))
  have HS3 := Lib.hid (RSeq.more (S' := fun k => k < w3.heap.size) (R' := RAct w3 fun k => k < w3.heap.size) (fun k hk => hk.2) hs3 fun x y h => h.more fun k hk => hk.2)
  have HO3 := Lib.hid (Hor.out _ X3.out.below)
  clear hb3 hG3 HA2 HR2 t0 X2 hs3
  by_cases hz0 : z = 0
  · subst hz0
    by_cases hz1 : z1 = 0
    · subst hz1
      have hlr : leansR ps l = leansL ps l := by unfold leansR; rw [if_pos HZ.out]
      have hpr : planR ps l1 l = planL ps l1 l := by unfold planR; rw [if_pos HZ1.out]
      have hlq : (leansR ps l).length = q := by rw [hlr, leansL_len]; exact HL.out.len
      rw [hpr] at hn3 HS3 ⊢
      rw [hlq] at hn2 HR3 ⊢
      rw [hlr] at HR3
      obtain ⟨ks, f, hF⟩ := first_ok ps l1 l
      have HF := Lib.hid hF
      have HPW : Hid ((l.map Mem.pl).Pairwise (· < ·)) := Lib.hid (ckMs_rises (ckSet_zero HZ.out).2).2
      obtain ⟨aL, haL⟩ : ∃ x, x = planL ps l1 l := ⟨_, rfl⟩
      rw [← haL] at hn3 HS3 ⊢
      have HAL := Lib.hid haL
      obtain ⟨N, hN⟩ : ∃ x, x = aL.length := ⟨_, rfl⟩
      rw [← hN] at hn3 HS3 ⊢
      have HN := Lib.hid hN
      clear hF hlr hpr hlq haL hN
      have hmm := @run_makeMap Tryz.prog
      unfold maxLen at hc3
      go_upto_region 5 with (first | (go_at_call 9; refine HO3.out.mono ?_; rintro e w5 ⟨rfl, hb5⟩; refine Hid.out ?_))
      refine Lib.hid ?_
      have X5 := Lib.hid (X3.out.move hb5)
      have HR5 := Lib.hid ((HR3.out.keep fun p hp => hb5.cell hp.2).more fun k hk => (Nat.lt_of_lt_of_le hk.2 hb5.size : k < w5.heap.size))
      have HS5 := Lib.hid (RSeq.more (S' := fun k => k < w5.heap.size) (R' := RAct w5 fun k => k < w5.heap.size) (fun k hk => Nat.lt_of_lt_of_le hk hb5.size) (RSeq.keep HS3.out (fun p hp => hb5.cell hp) fun x y h => h) fun x y h => (h.keep fun p hp => hb5.cell hp).more fun k hk => Nat.lt_of_lt_of_le hk hb5.size)
      have F0 := Lib.hid (Fr.zero (w5 := w5) (aL := aL))
      clear hb5 HO3 HR3 HS3 X3
      go_wp2
      go_loopg [58] N (fun g iv wr => ∃ (k : Nat) (at_ cy sz : Int → Option Int) (ma mc mz : Nat), Hid (k + g = N) ∧ iv = .int .i64 k ∧ Hid (Fr w5 aL k w5.heap.size at_ cy sz ma mc mz wr))
      case atStart => exact ⟨0, _, _, _, 0, 0, 0, Lib.hid (Nat.zero_add _), rfl, F0⟩
      case round =>
        obtain ⟨k, at_, cy, sz, ma, mc, mz, Hk, rfl, XF⟩ := hrel
        clear F0 hmm
        by_cases hk : k < N
        · obtain ⟨b2, o2, x, a, rfl, hbS2, hy, hxy, _, hcell⟩ := HS5.out.at_ hk (by decide)
          obtain ⟨E2, u2, v2, rfl, hu2, hv2, hon2⟩ := hxy
          have e0 := (XF.out.b.cell (p := ⟨b2, o2 + k * 4 + 0, none⟩) hbS2).trans (hcell 0 (by omega)); have e1 := (XF.out.b.cell (p := ⟨b2, o2 + k * 4 + 1, none⟩) hbS2).trans (hcell 1 (by omega)); have e2 := (XF.out.b.cell (p := ⟨b2, o2 + k * 4 + 2, none⟩) hbS2).trans (hcell 2 (by omega)); have e3 := (XF.out.b.cell (p := ⟨b2, o2 + k * 4 + 3, none⟩) hbS2).trans (hcell 3 (by omega))
          simp only [List.getElem?_cons_zero, List.getElem?_cons_succ, Nat.add_zero] at e0 e1 e2 e3
          have hbl2 : b2 < wr.heap.size := Nat.lt_of_lt_of_le hbS2 XF.out.b.size
          have hk1 : (k : Int) < N := by omega
          have hk0 : (0 : Int) ≤ (k : Int) := by omega
          have HY := Lib.hid hy
          obtain ⟨out, m, cyc⟩ := a
          clear hcell hy hon2
          have hb1 : Below wr.heap.size wr (wr.alloc (.cells #[.bool out, .int .i64 m.pl, .slice E2 u2 v2, .int .i64 cyc] 48)) := (Below.refl _ wr).alloc (Nat.le_refl _) _
          have F1 := Lib.hid (XF.out.move hb1)
          have M1 := Lib.hid (Whole.new wr wr.heap.size 48 [.bool out, .int .i64 m.pl, .slice E2 u2 v2, .int .i64 cyc] rfl)
          clear hb1
          cases out
          · have hyy := HY.out
            rw [HAL.out] at hyy
            have hnew := F1.out.sn
            rw [HAL.out] at hnew
            have hfr := hnew.fresh HF.out HPW.out hyy rfl
            obtain ⟨i, hgi, hi, hie⟩ := HF.out.act hyy rfl
            have hik := (HF.out.mem i).1 (List.mem_of_getElem? hi)
            have hfi := HF.out.small (List.mem_of_getElem? hi)
            simp only [Ac.mk.injEq, true_and] at hie
            obtain ⟨rfl, rfl⟩ := hie
            have hmok := ckMs_mem (ckSet_zero HZ.out).2 (memAt l i) (by unfold memAt; rw [List.getD_eq_getElem?_getD, List.getElem?_eq_getElem hik.1]; exact List.getElem_mem hik.1)
            have hp0 := hmok.1; have hp1 := hmok.2.1
            have hp8 := ckTree_len (ckSet_zero HZ.out).1
            have hlen : l.length ≤ 100000 := oset_len HZ.out (by rw [← HT.out.len]; exact hp8) HT.out.len
            have hwx : (Lit.int .i64 (memAt l i).pl).wf = true := wf_of (by omega) (by omega)
            have hwc : (Lit.int .i64 (f i : Int)).wf = true := wf_of (by omega) (by omega)
            have hwk : (Lit.int .i64 (k : Int)).wf = true := wf_of (by omega) (by omega)
            have hl1 := F1.out.a.look_ok Tryz.underlying3 (zeroIntM _) Tryz.underlying58 hwx
            have HFR := Lib.hid hfr
            dsimp only at hfr
            rw [hfr] at hl1
            simp only [Option.getD_none, Option.isSome_none] at hl1
            generalize hpl : (memAt l i).pl = pl at *
            have m0 := M1.out.cell 0; have m1 := M1.out.cell 1; have m3 := M1.out.cell 3
            simp only [List.getElem?_cons_zero, List.getElem?_cons_succ] at m0 m1 m3
            clear hyy hnew hfr hi hik hmok hp8
            go_upto_region 15 with fail
            have hbd : Below (wr.alloc (.cells #[.bool false, .int .i64 pl, .slice E2 u2 v2, .int .i64 (f i : Int)] 48)).heap.size (wr.alloc (.cells #[.bool false, .int .i64 pl, .slice E2 u2 v2, .int .i64 (f i : Int)] 48)) (wr.alloc (.cells #[.bool false, .int .i64 pl, .slice E2 u2 v2, .int .i64 (f i : Int)] 48)).drew := below_drewN (Below.refl _ _) 1
            have FD := Lib.hid (F1.out.move hbd)
            have MD := Lib.hid M1.out.drew
            obtain ⟨w7, hput, hset7, hg7, hs7⟩ := FD.out.a.put Tryz.underlying3 Tryz.underlying58 hwx hwk (by have := FD.out.la; unfold maxLen; omega)
            have HA7 := Lib.hid hset7
            have HC7 := Lib.hid (FD.out.c.kept hg7 (by simp))
            have HZ7 := Lib.hid (FD.out.z.kept hg7 (by simp; omega))
            have HB7 := Lib.hid (FD.out.b.grown hg7 FD.out.b.size (fun k e => by injection e with e; have := FD.out.hab; omega))
            have M7 := Lib.hid (MD.out.grown hg7 (by have := XF.out.a.lt; intro e; injection e with e; omega))
            clear hset7 hs7 hg7
            obtain ⟨w8, hput2, hset8, hg8, hs8⟩ := HC7.out.put Tryz.underlying3 Tryz.underlying58 hwx hwc (by have := FD.out.lc; unfold maxLen; omega)
            have HC8 := Lib.hid hset8
            have HA8 := Lib.hid (HA7.out.kept hg8 (by simp))
            have HZ8 := Lib.hid (HZ7.out.kept hg8 (by simp))
            have HB8 := Lib.hid (HB7.out.grown hg8 HB7.out.size (fun k e => by injection e with e; have := FD.out.hab; omega))
            have M8 := Lib.hid (M7.out.grown hg8 (by have := XF.out.c.lt; intro e; injection e with e; omega))
            clear hset8 hs8 hg8
            refine wp_region_held_drew (S := (fun w' => w'.cell? ⟨wr.heap.size, 1, none⟩ = some (.int .i64 pl) ∧ w'.cell? ⟨wr.heap.size, 3, none⟩ = some (.int .i64 (f i : Int)))) (by kernel_rfl) (⟨m1, m3⟩) (fun hHeld => ?_)
            first
            | (refine wpAnyH_take (i := 0) (v := ?_) held_at0 (by kernel_rfl) (by kernel_rfl) (by kernel_rfl) (fun _ _ _ h => h) (Or.inl ⟨by rfl, ?_⟩) (by assumption) ?_
               rotate_left
               · (intro w_ hSw; (try dsimp only at hSw); go_simp; (try with_reducible rfl))
               (try simp only [Act.put, List.setIfInBounds_toArray, List.set_cons_zero, List.set_cons_succ]))
            | (refine wpAnyH_take (i := 0) (v := undef) held_at0 (by kernel_rfl) (by kernel_rfl) (by kernel_rfl) (fun _ _ _ h => h) (Or.inr ⟨by rfl, rfl⟩) (by assumption) ?_
               (try simp only [Act.put, List.setIfInBounds_toArray, List.set_cons_zero, List.set_cons_succ]))
            first
            | (refine wpAnyH_take (i := 1) (v := ?_) held_at1 (by kernel_rfl) (by kernel_rfl) (by kernel_rfl) (fun _ _ _ h => h) (Or.inl ⟨by rfl, ?_⟩) (by assumption) ?_
               rotate_left
               · (intro w_ hSw; (try dsimp only at hSw); go_simp; (try with_reducible rfl))
               (try simp only [Act.put, List.setIfInBounds_toArray, List.set_cons_zero, List.set_cons_succ]))
            | (refine wpAnyH_take (i := 1) (v := undef) held_at1 (by kernel_rfl) (by kernel_rfl) (by kernel_rfl) (fun _ _ _ h => h) (Or.inr ⟨by rfl, rfl⟩) (by assumption) ?_
               (try simp only [Act.put, List.setIfInBounds_toArray, List.set_cons_zero, List.set_cons_succ]))
            first
            | (refine wpAnyH_take (i := 2) (v := ?_) held_at2 (by kernel_rfl) (by kernel_rfl) (by kernel_rfl) (fun _ _ _ h => h) (Or.inl ⟨by rfl, ?_⟩) (by assumption) ?_
               rotate_left
               · (intro w_ hSw; (try dsimp only at hSw); go_simp; (try with_reducible rfl))
               (try simp only [Act.put, List.setIfInBounds_toArray, List.set_cons_zero, List.set_cons_succ]))
            | (refine wpAnyH_take (i := 2) (v := undef) held_at2 (by kernel_rfl) (by kernel_rfl) (by kernel_rfl) (fun _ _ _ h => h) (Or.inr ⟨by rfl, rfl⟩) (by assumption) ?_
               (try simp only [Act.put, List.setIfInBounds_toArray, List.set_cons_zero, List.set_cons_succ]))
            first
            | (refine wpAnyH_take (i := 3) (v := ?_) held_at3 (by kernel_rfl) (by kernel_rfl) (by kernel_rfl) (fun _ _ _ h => h) (Or.inl ⟨by rfl, ?_⟩) (by assumption) ?_
               rotate_left
               · (intro w_ hSw; (try dsimp only at hSw); go_simp; (try with_reducible rfl))
               (try simp only [Act.put, List.setIfInBounds_toArray, List.set_cons_zero, List.set_cons_succ]))
            | (refine wpAnyH_take (i := 3) (v := undef) held_at3 (by kernel_rfl) (by kernel_rfl) (by kernel_rfl) (fun _ _ _ h => h) (Or.inr ⟨by rfl, rfl⟩) (by assumption) ?_
               (try simp only [Act.put, List.setIfInBounds_toArray, List.set_cons_zero, List.set_cons_succ]))
            first
            | (refine wpAnyH_take (i := 4) (v := ?_) held_at4 (by kernel_rfl) (by kernel_rfl) (by kernel_rfl) (fun _ _ _ h => h) (Or.inl ⟨by rfl, ?_⟩) (by assumption) ?_
               rotate_left
               · (intro w_ hSw; (try dsimp only at hSw); go_simp; (try with_reducible rfl))
               (try simp only [Act.put, List.setIfInBounds_toArray, List.set_cons_zero, List.set_cons_succ]))
            | (refine wpAnyH_take (i := 4) (v := undef) held_at4 (by kernel_rfl) (by kernel_rfl) (by kernel_rfl) (fun _ _ _ h => h) (Or.inr ⟨by rfl, rfl⟩) (by assumption) ?_
               (try simp only [Act.put, List.setIfInBounds_toArray, List.set_cons_zero, List.set_cons_succ]))
            first
            | (refine wpAnyH_take (i := 5) (v := ?_) held_at5 (by kernel_rfl) (by kernel_rfl) (by kernel_rfl) (fun _ _ _ h => h) (Or.inl ⟨by rfl, ?_⟩) (by assumption) ?_
               rotate_left
               · (intro w_ hSw; (try dsimp only at hSw); go_simp; (try with_reducible rfl))
               (try simp only [Act.put, List.setIfInBounds_toArray, List.set_cons_zero, List.set_cons_succ]))
            | (refine wpAnyH_take (i := 5) (v := undef) held_at5 (by kernel_rfl) (by kernel_rfl) (by kernel_rfl) (fun _ _ _ h => h) (Or.inr ⟨by rfl, rfl⟩) (by assumption) ?_
               (try simp only [Act.put, List.setIfInBounds_toArray, List.set_cons_zero, List.set_cons_succ]))
            first
            | (refine wpAnyH_take (i := 6) (v := ?_) held_at6 (by kernel_rfl) (by kernel_rfl) (by kernel_rfl) (fun _ _ _ h => h) (Or.inl ⟨by rfl, ?_⟩) (by assumption) ?_
               rotate_left
               · (intro w_ hSw; (try dsimp only at hSw); go_simp; (try with_reducible rfl))
               (try simp only [Act.put, List.setIfInBounds_toArray, List.set_cons_zero, List.set_cons_succ]))
            | (refine wpAnyH_take (i := 6) (v := undef) held_at6 (by kernel_rfl) (by kernel_rfl) (by kernel_rfl) (fun _ _ _ h => h) (Or.inr ⟨by rfl, rfl⟩) (by assumption) ?_
               (try simp only [Act.put, List.setIfInBounds_toArray, List.set_cons_zero, List.set_cons_succ]))
            first
            | (refine wpAnyH_take (i := 7) (v := ?_) held_at7 (by kernel_rfl) (by kernel_rfl) (by kernel_rfl) (fun _ _ _ h => h) (Or.inl ⟨by rfl, ?_⟩) (by assumption) ?_
               rotate_left
               · (intro w_ hSw; (try dsimp only at hSw); go_simp; (try with_reducible rfl))
               (try simp only [Act.put, List.setIfInBounds_toArray, List.set_cons_zero, List.set_cons_succ]))
            | (refine wpAnyH_take (i := 7) (v := undef) held_at7 (by kernel_rfl) (by kernel_rfl) (by kernel_rfl) (fun _ _ _ h => h) (Or.inr ⟨by rfl, rfl⟩) (by assumption) ?_
               (try simp only [Act.put, List.setIfInBounds_toArray, List.set_cons_zero, List.set_cons_succ]))
            first
            | (refine wpAnyH_take (i := 8) (v := ?_) held_at8 (by kernel_rfl) (by kernel_rfl) (by kernel_rfl) (fun _ _ _ h => h) (Or.inl ⟨by rfl, ?_⟩) (by assumption) ?_
               rotate_left
               · (intro w_ hSw; (try dsimp only at hSw); go_simp; (try with_reducible rfl))
               (try simp only [Act.put, List.setIfInBounds_toArray, List.set_cons_zero, List.set_cons_succ]))
            | (refine wpAnyH_take (i := 8) (v := undef) held_at8 (by kernel_rfl) (by kernel_rfl) (by kernel_rfl) (fun _ _ _ h => h) (Or.inr ⟨by rfl, rfl⟩) (by assumption) ?_
               (try simp only [Act.put, List.setIfInBounds_toArray, List.set_cons_zero, List.set_cons_succ]))
            first
            | (refine wpAnyH_take (i := 9) (v := ?_) held_at9 (by kernel_rfl) (by kernel_rfl) (by kernel_rfl) (fun _ _ _ h => h) (Or.inl ⟨by rfl, ?_⟩) (by assumption) ?_
               rotate_left
               · (intro w_ hSw; (try dsimp only at hSw); go_simp; (try with_reducible rfl))
               (try simp only [Act.put, List.setIfInBounds_toArray, List.set_cons_zero, List.set_cons_succ]))
            | (refine wpAnyH_take (i := 9) (v := undef) held_at9 (by kernel_rfl) (by kernel_rfl) (by kernel_rfl) (fun _ _ _ h => h) (Or.inr ⟨by rfl, rfl⟩) (by assumption) ?_
               (try simp only [Act.put, List.setIfInBounds_toArray, List.set_cons_zero, List.set_cons_succ]))
            first
            | (refine wpAnyH_take (i := 10) (v := ?_) held_at10 (by kernel_rfl) (by kernel_rfl) (by kernel_rfl) (fun _ _ _ h => h) (Or.inl ⟨by rfl, ?_⟩) (by assumption) ?_
               rotate_left
               · (intro w_ hSw; (try dsimp only at hSw); go_simp; (try with_reducible rfl))
               (try simp only [Act.put, List.setIfInBounds_toArray, List.set_cons_zero, List.set_cons_succ]))
            | (refine wpAnyH_take (i := 10) (v := undef) held_at10 (by kernel_rfl) (by kernel_rfl) (by kernel_rfl) (fun _ _ _ h => h) (Or.inr ⟨by rfl, rfl⟩) (by assumption) ?_
               (try simp only [Act.put, List.setIfInBounds_toArray, List.set_cons_zero, List.set_cons_succ]))
            refine wpAnyH_ready (rs := [11]) (by kernel_rfl) (by simp) ?_
            refine AllReadyH.cons held_at11 (fun K hK => ?_) AllReadyH.nil
            (try simp only [List.setIfInBounds_toArray, List.set_cons_zero, List.set_cons_succ])
            go_simp
            refine hK.out _ _ (⟨(M7.out.cell 1), (M7.out.cell 3)⟩) (fun hHeld => ?_)
            clear hK K
            (try simp only [Act.put, List.setIfInBounds_toArray, List.set_cons_zero, List.set_cons_succ])
            refine wpAnyH_ready (rs := [12]) (by kernel_rfl) (by simp) ?_
            refine AllReadyH.cons held_at12 (fun K hK => ?_) AllReadyH.nil
            (try simp only [List.setIfInBounds_toArray, List.set_cons_zero, List.set_cons_succ])
            go_simp
            refine hK.out _ _ (⟨(M8.out.cell 1), (M8.out.cell 3)⟩) (fun hHeld => ?_)
            clear hK K
            (try simp only [Act.put, List.setIfInBounds_toArray, List.set_cons_zero, List.set_cons_succ])
            refine wpAnyH_done (by kernel_rfl) ?_ _
            clear hput hput2 hl1 hwk
            have hsn := XF.out.sn
            have hya : aL[k]? = some ⟨false, ⟨pl, (memAt l i).on⟩, (f i : Int)⟩ := by rw [← hpl]; exact HY.out
            have HYA := Lib.hid hya
            have hfrz : at_ pl = none := HFR.out
            have HFZ := Lib.hid hfrz
            clear hya hfrz
            by_cases hp : (0 : Int) < (f i : Int)
            · obtain ⟨y0, hy0⟩ : ∃ y, (sz (f i : Int)).getD 0 = y := ⟨_, rfl⟩
              have hy1 : 0 ≤ y0 ∧ y0 ≤ k := by
                have h2 := hsn.z2 _ hp
                rw [hy0] at h2
                have h3 := List.length_filter_le (fun a : Ac => !a.out && a.cyc == (f i : Int)) (aL.take k)
                have h4 := List.length_take_le k aL
                omega
              have hwy : (Lit.int .i64 (y0 + 1)).wf = true := wf_of (by omega) (by omega)
              have hl2 := HZ8.out.look Tryz.underlying3 (zeroIntM _) Tryz.underlying58 hwc
              rw [hy0] at hl2
              obtain ⟨w9, hput3, hset9, hg9, hs9⟩ := HZ8.out.put Tryz.underlying3 Tryz.underlying58 hwc hwy (by have := XF.out.lz; unfold maxLen; omega)
              have FN : Hid (Fr w5 aL (k + 1) w5.heap.size _ _ _ _ _ _ w9) := Lib.hid ⟨HB8.out.grown hg9 HB8.out.size (fun k e => by injection e with e; omega), HA8.out.kept hg9 (by simp; omega), HC8.out.kept hg9 (by simp), hset9, Nat.le_refl _,
                hsn.put HYA.out rfl HFZ.out (by rw [if_pos hp, hy0]), cnt_le XF.out.la, cnt_le XF.out.lc, cnt_le XF.out.lz⟩
              have m3' := M8.out.cell 3
              simp only [List.getElem?_cons_zero, List.getElem?_cons_succ] at m3'
              have hy2 : y0 + 1 ≤ 9223372036854775807 := by omega
              have hwr : IntKind.i64.wrap (y0 + 1) = y0 + 1 := IntWalk.i64_in (y0 + 1) (by omega)
              clear hset9 hs9 hg9 hsn m0 m1 m3 XF F1 HFR HFZ
              go_wp2
              go_roundg (gk - 1)
              case measure => have := Hk.out; omega
              case rel => exact ⟨k + 1, _, _, _, _, _, _, Lib.hid (by have := Hk.out; omega), by go_num, FN⟩
            · have FN : Hid (Fr w5 aL (k + 1) w5.heap.size _ _ _ _ _ _ w8) := Lib.hid ⟨HB8.out, HA8.out, HC8.out, HZ8.out, Nat.le_refl _,
                hsn.put HYA.out rfl HFZ.out (by rw [if_neg hp]), cnt_le XF.out.la, cnt_le XF.out.lc, Nat.le_succ_of_le XF.out.lz⟩
              have m3' := M8.out.cell 3
              simp only [List.getElem?_cons_zero, List.getElem?_cons_succ] at m3'
              clear hsn m0 m1 m3 XF F1 HFR HFZ
              go_wp2
              go_roundg (gk - 1)
              case measure => have := Hk.out; omega
              case rel => exact ⟨k + 1, _, _, _, _, _, _, Lib.hid (by have := Hk.out; omega), by go_num, FN⟩
          · have FN : Hid (Fr w5 aL (k + 1) w5.heap.size at_ cy sz ma mc mz _) := Lib.hid ⟨F1.out.b, F1.out.a, F1.out.c, F1.out.z, F1.out.hab, F1.out.sn.skip HY.out rfl, Nat.le_succ_of_le F1.out.la, Nat.le_succ_of_le F1.out.lc, Nat.le_succ_of_le F1.out.lz⟩
            go_wp2
            go_roundg (gk - 1)
            case measure => have := Hk.out; omega
            case rel => exact ⟨k + 1, at_, cy, sz, ma, mc, mz, Lib.hid (by have := Hk.out; omega), by go_num, FN⟩
        · obtain rfl : N = k := by have := Hk.out; omega
          have XE : Hid (Fr w5 aL aL.length w5.heap.size at_ cy sz ma mc mz wr) := Lib.hid (by have h := XF.out; rw [HN.out] at h; exact h)
          have HRW := Lib.hid (HR5.out.keep fun p hp => XF.out.b.cell hp)
          clear XF
          go_wp2
          obtain ⟨w6, rfl⟩ : ∃ x, x = wr := ⟨_, rfl⟩
          obtain ⟨gk1, rfl⟩ : ∃ x, x = gk := ⟨_, rfl⟩
          have hb06 := Lib.hid (X5.out.below.trans (XE.out.b.mono X5.out.below.size))
          have hp8 := ckTree_len (ckSet_zero HZ.out).1
          have hlen : l.length ≤ 100000 := oset_len HZ.out (by rw [← HT.out.len]; exact hp8) HT.out.len
          have hlq : q ≤ 100000 := by rw [← HL.out.len]; exact hlen
          clear hp8 hlen
          go_loopg [96] q (fun g iv wr => ∃ i : Nat, Hid (i + g = q) ∧ iv = .int .i64 i ∧ Hid (Below w6.heap.size w6 wr))
          case atStart => exact ⟨0, Lib.hid (Nat.zero_add _), rfl, Lib.hid (Below.refl _ _)⟩
          case round =>
            obtain ⟨i, Hi, rfl, XR⟩ := hrel
            by_cases hi : i < q
            · have hbr := hb06.out.trans (XR.out.mono hb06.out.size)
              obtain ⟨b, o, m, E, u, v0, rfl, hbS, hm, huv, hv, hbo, g0, g1⟩ := (HL.out.under hbr HS.out).at_ hi
              have hme : memAt l i = m := memAt_at hm
              have hmok := ckMs_mem (ckSet_zero HZ.out).2 m (List.mem_of_getElem? hm)
              have hp0 := hmok.1; have hp1 := hmok.2.1
              have hp8 := ckTree_len (ckSet_zero HZ.out).1
              have hwx : (Lit.int .i64 m.pl).wf = true := wf_of (by omega) (by omega)
              have hb1 : Below wr.heap.size wr (wr.alloc (.cells #[.int .i64 m.pl, .slice E u v0] 33)) := (Below.refl _ wr).alloc (Nat.le_refl _) _
              have hb6 := XR.out.trans (hb1.mono XR.out.size)
              have F1 := Lib.hid (XE.out.move hb6)
              have M1 := Lib.hid (Whole.new wr wr.heap.size 33 [.int .i64 m.pl, .slice E u v0] rfl)
              have B6 := Lib.hid hb6
              have hl1 := F1.out.a.look_ok Tryz.underlying3 (zeroIntM _) Tryz.underlying58 hwx
              have m0 := M1.out.cell 0
              simp only [List.getElem?_cons_zero] at m0
              have hbl : b < wr.heap.size := Nat.lt_of_lt_of_le (HS.out _ hbS) hbr.size
              have hi1 : (i : Int) < q := by omega
              have hi0 : (0 : Int) ≤ (i : Int) := by omega
              have HBO := Lib.hid hb1
              clear hb1 hb6 hbo hmok hp8
              cases hat : at_ m.pl with
              | none =>
                rw [hat] at hl1
                simp only [Option.getD_none, Option.isSome_none] at hl1
                go_wp2
                go_roundg (gk - 1)
                case measure => have := Hi.out; omega
                case rel => exact ⟨i + 1, Lib.hid (by have := Hi.out; omega), by go_num, B6⟩
              | some yi =>
                rw [hat] at hl1
                simp only [Option.getD_some, Option.isSome_some] at hl1
                have hle : (leansL ps l).getD i [] = (leansAt ps l i).map fun (k : Nat) => (k : Int) := by
                  unfold leansL
                  rw [List.getD_eq_getElem?_getD, List.getElem?_map, List.getElem?_range (by rw [HL.out.len]; exact hi)]; rfl
                have hR1 : RClauses (wr.alloc (.cells #[.int .i64 m.pl, .slice E u v0] 33)) (fun k => k < w5.heap.size) A2 q (leansL ps l) := HRW.out.below B6.out fun k hk => Nat.lt_of_lt_of_le hk XE.out.b.size
                obtain ⟨b4, o4, A4, n4, c4, rfl, hb4S, hc4, hr4, hn4, hc4m⟩ := hR1.at_ hi
                rw [hle] at hr4
                have HR4 := Lib.hid hr4
                have HAT := Lib.hid hat
                have HLB := Lib.hid (HL.out.under (hb06.out.trans (B6.out.mono hb06.out.size)) HS.out)
                unfold maxLen at hc4m
                have hb4l : b4 < (wr.alloc (.cells #[.int .i64 m.pl, .slice E u v0] 33)).heap.size := Nat.lt_of_lt_of_le hb4S (Nat.le_trans XE.out.b.size B6.out.size)
                clear hR1 hr4 hle hat hm HRW HBO
                go_wp2
                obtain ⟨wq, rfl⟩ : ∃ x, x = wr := ⟨_, rfl⟩
                obtain ⟨gk3, rfl⟩ : ∃ x, x = gk := ⟨_, rfl⟩
                clear m0 hc4 g0 g1 hl1
                go_loopg [115] n4 (fun g iv wr => ∃ j : Nat, Hid (j + g = n4) ∧ iv = .int .i64 j ∧ wr = wq.alloc (.cells #[.int .i64 m.pl, .slice E u v0] 33))
                case atStart => exact ⟨0, Lib.hid (Nat.zero_add _), rfl, rfl⟩
                case round =>
                  obtain ⟨j, Hj, rfl, rfl⟩ := hrel
                  by_cases hj : j < n4
                  · obtain ⟨b5, o5, rfl, hb5S, hc5⟩ := HR4.out.at_ hj
                    have hlen4 := HR4.out.len
                    rw [List.length_map] at hlen4
                    obtain ⟨x, hx⟩ : ∃ x, (leansAt ps l i)[j]? = some x := ⟨_, List.getElem?_eq_getElem (by omega)⟩
                    obtain ⟨hxq, hxl⟩ := mem_leansAt.1 (List.mem_of_getElem? hx)
                    rw [HL.out.len] at hxq
                    rw [List.getD_eq_getElem?_getD, List.getElem?_map, hx] at hc5
                    simp only [Option.map_some, Option.getD_some] at hc5
                    obtain ⟨b6, o6, mx, E6, u6', v6, he6, hb6S, hmx, huv6, hv6, hbo6, g06, g16⟩ := HLB.out.at_ hxq
                    injection he6 with he6
                    injection he6 with he61 he62
                    subst he61 he62
                    have hmex : memAt l x = mx := memAt_at hmx
                    have hmokx := ckMs_mem (ckSet_zero HZ.out).2 mx (List.mem_of_getElem? hmx)
                    have hp8 := ckTree_len (ckSet_zero HZ.out).1
                    have hwy : (Lit.int .i64 mx.pl).wf = true := wf_of (by have := hmokx.1; omega) (by have := hmokx.2.1; omega)
                    have hl3 := F1.out.a.look_ok Tryz.underlying3 (zeroIntM _) Tryz.underlying58 hwy
                    have hb5l : b5 < (wq.alloc (.cells #[.int .i64 m.pl, .slice E u v0] 33)).heap.size := Nat.lt_of_lt_of_le hb5S (Nat.le_trans XE.out.b.size B6.out.size)
                    have hbl2 : b < (wq.alloc (.cells #[.int .i64 m.pl, .slice E u v0] 33)).heap.size := by simp; omega
                    have hj1 : (j : Int) < n4 := by omega
                    have hj0 : (0 : Int) ≤ (j : Int) := by omega
                    have hx1 : (x : Int) < q := by omega
                    have hx0 : (0 : Int) ≤ (x : Int) := by omega
                    clear g16 hmokx hp8 hlen4 hx
                    cases hatx : at_ mx.pl with
                    | none =>
                      rw [hatx] at hl3
                      simp only [Option.getD_none, Option.isSome_none] at hl3
                      go_wp2
                      go_roundg (gk - 1)
                      case measure => have := Hj.out; omega
                      case rel => exact ⟨j + 1, Lib.hid (by have := Hj.out; omega), by go_num, rfl⟩
                    | some yx =>
                      rw [hatx] at hl3
                      simp only [Option.getD_some, Option.isSome_some] at hl3
                      by_cases hgt : yi < yx
                      · have hsn := XE.out.sn
                        rw [HAL.out] at hsn
                        obtain ⟨z, hz0, hcz1, hcz2⟩ := hsn.pair HF.out HPW.out (by rw [HL.out.len]; exact hi) (by rw [HL.out.len]; exact hxq) hxl (by rw [hme]; exact HAT.out) (by rw [hmex]; exact hatx) hgt
                        rw [hme] at hcz1
                        rw [hmex] at hcz2
                        have hq1 := F1.out.c.look Tryz.underlying3 (zeroIntM _) Tryz.underlying58 hwx
                        have hq2 := F1.out.c.look Tryz.underlying3 (zeroIntM _) Tryz.underlying58 hwy
                        rw [hcz1] at hq1
                        rw [hcz2] at hq2
                        simp only [Option.getD_some] at hq1 hq2
                        have hzb : (z == 0) = false := by simpa using hz0
                        have m0' := M1.out.cell 0
                        simp only [List.getElem?_cons_zero] at m0'
                        clear hsn hcz1 hcz2 hatx hz0
                        go_wp2
                        go_roundg (gk - 1)
                        case measure => have := Hj.out; omega
                        case rel => exact ⟨j + 1, Lib.hid (by have := Hj.out; omega), by go_num, rfl⟩
                      · clear hatx
                        go_wp2
                        go_roundg (gk - 1)
                        case measure => have := Hj.out; omega
                        case rel => exact ⟨j + 1, Lib.hid (by have := Hj.out; omega), by go_num, rfl⟩
                  · obtain rfl : n4 = j := by have := Hj.out; omega
                    go_wp2
                    go_roundg (gk3 - 1)
                    case measure => have := Hi.out; omega
                    case rel => exact ⟨i + 1, Lib.hid (by have := Hi.out; omega), by go_num, B6⟩
            · obtain rfl : q = i := by have := Hi.out; omega
              have XZ := Lib.hid (XE.out.move XR.out)
              have hb07 := Lib.hid (hb06.out.trans (XR.out.mono hb06.out.size))
              obtain ⟨w7, hrng, hir, hg7, hs7⟩ := XZ.out.z.range_ Tryz.underlying3 Tryz.underlying58
              have HIR := Lib.hid hir
              have hb77 := Lib.hid (hb07.out.trans (below_of_grown hg7 hb07.out.size (fun k e => by cases e)))
              have hw5r : w.heap.size ≤ wr.heap.size := hb07.out.size
              have hlt7 : w5.heap.size + 1 + 1 < wr.heap.size := XZ.out.z.lt
              clear hir hg7
              go_wp2
              obtain ⟨w8, rfl⟩ : ∃ x, x = wr := ⟨_, rfl⟩
              obtain ⟨gk2, rfl⟩ : ∃ x, x = gk := ⟨_, rfl⟩
              go_loopg [] mz (fun g wr => Hid (IntRange Tryz.prog wr (w5.heap.size + 1 + 1) w8.heap.size sz g) ∧ Hid (Below w.heap.size w wr))
              case atStart => exact ⟨HIR, hb77⟩
              case round =>
                obtain ⟨HIQ, HBQ⟩ := hrel
                rcases HIQ.out.next Tryz.underlying3 0 with ⟨h0, hrun⟩ | ⟨x, y, w9, cnt, hK, hnx, hq, hlt, hg9, hs9, hen⟩
                · go_wp2
                  go_ret
                  exact ⟨rfl, HBQ.out⟩
                · have hsn := XZ.out.sn
                  rw [HAL.out] at hsn
                  have h2y := hsn.rings HF.out hK
                  have HQ := Lib.hid hq
                  have HBN := Lib.hid (HBQ.out.trans (below_of_grown hg9 HBQ.out.size (fun k e => by injection e with e; omega)))
                  clear hq hg9 hs9 hK hsn
                  go_wp2
                  go_roundg cnt
                  case measure => omega
                  case rel => exact ⟨HQ, HBN⟩
    · have hzb : (z1 == 0) = false := by simpa using hz1
      go_upto_region 4 with (first | (go_at_call 9; refine HO3.out.mono ?_; rintro e w4 ⟨rfl, hb4⟩; refine Hid.out ?_))
      refine Lib.hid ?_
      have X4 := Lib.hid (X3.out.move hb4)
      have HO4 := Lib.hid (Hor.out _ X4.out.below)
      clear hb4 HO3
      go_wp2_with (first | (go_at_call 9; refine HO4.out.mono ?_; rintro e w5 ⟨rfl, hb5⟩; refine Hid.out ?_))
      refine Lib.hid ?_
      have X5 := Lib.hid (X4.out.move hb5)
      clear hb5
      go_wp2
      go_ret
      exact ⟨rfl, X5.out.below⟩
  · have hzb : (z == 0) = false := by simpa using hz0
    go_upto_region 4 with (first | (go_at_call 9; refine HO3.out.mono ?_; rintro e w4 ⟨rfl, hb4⟩; refine Hid.out ?_))
    refine Lib.hid ?_
    have X4 := Lib.hid (X3.out.move hb4)
    have HO4 := Lib.hid (Hor.out _ X4.out.below)
    clear hb4 HO3
    go_wp2_with (first | (go_at_call 9; refine HO4.out.mono ?_; rintro e w5 ⟨rfl, hb5⟩; refine Hid.out ?_))
    refine Lib.hid ?_
    have X5 := Lib.hid (X4.out.move hb5)
    clear hb5
    go_wp2
    go_ret
    exact ⟨rfl, X5.out.below⟩
end Go.Proofs.YtpipgffbhpnmkaaGreatDoor
