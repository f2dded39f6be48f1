/- AtomSays, walked: it returns true. -/
import Derived.Test.YtheccogihldjgaaDoorAtomBack1
import Derived.Test.YtheccogihldjgaaDoorAW15
import Derived.Test.YtheccogihldjgaaDoorHeld
namespace Go.Proofs.YtheccogihldjgaaDoor
open Go.RowKit Qm

/-- AtomSays at work: its atom's box, the read atom's box N. -/
structure Sy (w : World) (x y : List Value) (N : Nat) (wx : World) : Prop where
  a : Whole wx w.heap.size 23 x
  r : Whole wx N 23 y
  b : Below w.heap.size w wx
theorem Sy.below {w wx wy : World} {x y : List Value} {N : Nat} (h : Sy w x y N wx) (hb : Below wx.heap.size wx wy) : Sy w x y N wy :=
  ⟨h.a.below hb h.a.lt, h.r.below hb h.r.lt, h.b.trans (hb.mono h.b.size)⟩
set_option maxRecDepth 100000 in
set_option maxHeartbeats 6400000 in
theorem atomSays_any (s f t : ByteArray) (op ver slot v sl : Int) (on : Bool) (w : World) (hs : s.size ≤ maxLen) (hf : f.size ≤ maxLen) (ht : t.size ≤ maxLen) (hL : LaidV w) (hM : MaxV w) :
    Calls Tryd.prog 5 #[atv s op ver slot f on, .string t, .int .i64 v, .int .i64 sl] w fun e w' => e = .returned (.bool true) ∧ Below w.heap.size w w' := by
  have HLV := Lib.hid hL; clear hL
  have HMV := Lib.hid hM; clear hM
  have HSZ := Lib.hid (Lib.size_eq t)
  have hp1 := fun wx => print_any s f op ver slot on wx hs hf
  have hpa := fun wx h => parse_any t wx ht h
  have hck := fun wx => check_any s f op ver slot on wx hs hf
  have hrc := fun wx => rcheck_any s f op ver slot on wx hs hf
  have hfi := fun wx => fits_any s f op ver slot v sl on wx
  have hfr := fun wx => rfits_any s f op ver slot v sl on wx
  have htx := fun wx => rtext_any s f op ver slot on wx
  have hre := fun (h : t.size ≤ 20000) wx hL hM => read_any t wx h hL hM
  have hna := fun wx => name_any t wx ht
  have hnr := fun wx => rname_any t wx ht
  have hpp : printE (atOf s op ver slot f on) = ckAtom (atOf s op ver slot f on) := rfl
  have hps : printS (atOf s op ver slot f on) = if ckAtom (atOf s op ver slot f on) = 0 then textOf (atOf s op ver slot f on) else [] := rfl
  rw [hpp, hps] at hp1
  have hpt : parseAt t.data.toList = if 20000 < t.data.toList.length then (At.zero, 2) else parseFew t.data.toList := rfl
  rw [hpt] at hpa
  generalize isName t.data.toList = qn at hna hnr
  generalize fitsP (atOf s op ver slot f on) v sl = qf at hfi hfr
  generalize textOf (atOf s op ver slot f on) = T at hp1 htx
  generalize ckAtom (atOf s op ver slot f on) = q at hp1 hck hrc htx
  generalize parseFew t.data.toList = r at hpa hre
  clear hpp hps hpt
  obtain ⟨p, hp⟩ : ∃ p, (if q = 0 then T else []) = p := ⟨_, rfl⟩
  rw [hp] at hp1
  have HP := Lib.hid hp; clear hp
  unfold atv at hp1 hck hrc hfi hfr htx ⊢
  simp only [AtEnd] at hpa hre
  have Hp1 := Lib.hid hp1; have Hpa := Lib.hid hpa; have Hck := Lib.hid hck; have Hrc := Lib.hid hrc; have Hfi := Lib.hid hfi; have Hfr := Lib.hid hfr; have Htx := Lib.hid htx; have Hre := Lib.hid hre; have Hna := Lib.hid hna; have Hnr := Lib.hid hnr
  clear hp1 hpa hck hrc hfi hfr htx hre hna hnr
  have A1 := Lib.hid (Whole.new w _ 23 [.string s, .int .i64 op, .int .i64 ver, .int .i64 slot, .string f, .bool on] rfl)
  have BB := Lib.hid ((Below.refl _ w).alloc (Nat.le_refl _) (.cells #[.string s, .int .i64 op, .int .i64 ver, .int .i64 slot, .string f, .bool on] 23))
  go_enter Tryd.func5, Tryd.ntmps5
  go_wp2_with (first | (go_at_call 6; with_reducible refine (Hp1.out _).mono ?_; rintro e w1 ⟨rfl, hb1⟩; refine Hid.out ?_))
  refine Lib.hid ?_
  replace A1 := Lib.hid (A1.out.below hb1 A1.out.lt)
  replace BB := Lib.hid (BB.out.trans (hb1.mono BB.out.size))
  clear hb1
  obtain ⟨g, hg⟩ : ∃ g, (if 20000 < t.data.toList.length then (At.zero, 2) else r) = g := ⟨_, rfl⟩
  rw [hg] at Hpa
  have HG := Lib.hid hg; clear hg
  go_wp2_with (first | (go_at_call 8; refine (Hpa.out _ (HLV.out.below BB.out)).mono ?_; rintro e w2 ⟨rfl, hb2⟩; refine Hid.out ?_))
  refine Lib.hid ?_
  replace A1 := Lib.hid (A1.out.below hb2 A1.out.lt)
  replace BB := Lib.hid (BB.out.trans (hb2.mono BB.out.size))
  clear hb2
  obtain ⟨⟨gn, go, gv, gs, gf, gb⟩, ge⟩ := g
  have P2 := Lib.hid (Sy.mk (A1.out.below ((Below.refl _ w2).alloc (Nat.le_refl _) (.cells #[.string ⟨gn.toArray⟩, .int .i64 go, .int .i64 gv, .int .i64 gs, .string ⟨gf.toArray⟩, .bool gb] 23)) A1.out.lt) (Whole.new w2 _ 23 [.string ⟨gn.toArray⟩, .int .i64 go, .int .i64 gv, .int .i64 gs, .string ⟨gf.toArray⟩, .bool gb] rfl) (BB.out.alloc BB.out.size _))
  simp only []
  have d0 := P2.out.a.cell 0; have d1 := P2.out.a.cell 1; have d2 := P2.out.a.cell 2; have d3 := P2.out.a.cell 3; have d4 := P2.out.a.cell 4; have d5 := P2.out.a.cell 5
  simp only [List.getElem?_cons_zero, List.getElem?_cons_succ] at d0 d1 d2 d3 d4 d5
  go_wp2_with (first | (go_at_call 12; with_reducible refine (Hrc.out _).mono ?_; rintro e w3 ⟨rfl, hb3⟩; refine Hid.out ?_))
  refine Lib.hid ?_
  have P3 := Lib.hid (P2.out.below hb3)
  clear P2 hb3 A1 BB d0 d1 d2 d3 d4 d5
  have d0 := P3.out.a.cell 0; have d1 := P3.out.a.cell 1; have d2 := P3.out.a.cell 2; have d3 := P3.out.a.cell 3; have d4 := P3.out.a.cell 4; have d5 := P3.out.a.cell 5
  simp only [List.getElem?_cons_zero, List.getElem?_cons_succ] at d0 d1 d2 d3 d4 d5
  go_upto_region 4 with fail
  go_cut [76] (fun x wx => x = .bool false ∧ Sy w [.string s, .int .i64 op, .int .i64 ver, .int .i64 slot, .string f, .bool on] [.string ⟨gn.toArray⟩, .int .i64 go, .int .i64 gv, .int .i64 gs, .string ⟨gf.toArray⟩, .bool gb] w2.heap.size wx)
  case first =>
    by_cases h0 : q = 0
    · subst h0
      obtain rfl : T = p := by have := HP.out; rwa [if_pos rfl] at this
      clear HP
      have htx := fun wx => Htx.out wx rfl
      clear Htx
      have Htx := Lib.hid htx; clear htx
      refine wp_region_held_drew (S := (fun w' => w'.cell? ⟨w.heap.size, 0, none⟩ = some (.string s) ∧ w'.cell? ⟨w.heap.size, 1, none⟩ = some (.int .i64 op) ∧ w'.cell? ⟨w.heap.size, 2, none⟩ = some (.int .i64 ver) ∧ w'.cell? ⟨w.heap.size, 3, none⟩ = some (.int .i64 slot) ∧ w'.cell? ⟨w.heap.size, 4, none⟩ = some (.string f) ∧ w'.cell? ⟨w.heap.size, 5, none⟩ = some (.bool on))) (by kernel_rfl) (⟨d0, d1, d2, d3, d4, d5⟩) (fun hHeld => ?_)
      refine wpAnyH_ready (rs := [0]) (by kernel_rfl) (by simp) ?_
      refine AllReadyH.cons held_at0 (fun K hK => ?_) AllReadyH.nil
      (try simp only [List.setIfInBounds_toArray, List.set_cons_zero, List.set_cons_succ])
      go_simp
      go_at_call 7
      refine (asked_any _ (HLV.out.below (P3.out.below (below_drewN (Below.refl _ _) _)).b)).mono ?_
      rintro e wn ⟨rfl, hb⟩
      (first | replace P3 := Lib.hid (P3.out.below hb) | replace P3 := Lib.hid (P3.out.below ((below_drewN (Below.refl _ _) _).trans hb))); clear hb d0 d1 d2 d3 d4 d5; have d0 := P3.out.a.cell 0; have d1 := P3.out.a.cell 1; have d2 := P3.out.a.cell 2; have d3 := P3.out.a.cell 3; have d4 := P3.out.a.cell 4; have d5 := P3.out.a.cell 5; simp only [List.getElem?_cons_zero, List.getElem?_cons_succ] at d0 d1 d2 d3 d4 d5
      refine hK.out _ _ (⟨d0, d1, d2, d3, d4, d5⟩) (fun hHeld => ?_)
      clear hK K
      (try simp only [Act.put, List.setIfInBounds_toArray, List.set_cons_zero, List.set_cons_succ])
      first
      | (refine wpAnyH_take (i := 1) (v := ?_) held_at1 (by kernel_rfl) (by kernel_rfl) (by kernel_rfl) (fun _ _ _ h => h) (Or.inl ⟨by rfl, ?_⟩) (by assumption) ?_
         rotate_left
         · (intro w_ hSw; (try dsimp only at hSw); go_simp; (try with_reducible rfl))
         (try simp only [Act.put, List.setIfInBounds_toArray, List.set_cons_zero, List.set_cons_succ]))
      | (refine wpAnyH_take (i := 1) (v := undef) held_at1 (by kernel_rfl) (by kernel_rfl) (by kernel_rfl) (fun _ _ _ h => h) (Or.inr ⟨by rfl, rfl⟩) (by assumption) ?_
         (try simp only [Act.put, List.setIfInBounds_toArray, List.set_cons_zero, List.set_cons_succ]))
      first
      | (refine wpAnyH_take (i := 2) (v := ?_) held_at2 (by kernel_rfl) (by kernel_rfl) (by kernel_rfl) (fun _ _ _ h => h) (Or.inl ⟨by rfl, ?_⟩) (by assumption) ?_
         rotate_left
         · (intro w_ hSw; (try dsimp only at hSw); go_simp; (try with_reducible rfl))
         (try simp only [Act.put, List.setIfInBounds_toArray, List.set_cons_zero, List.set_cons_succ]))
      | (refine wpAnyH_take (i := 2) (v := undef) held_at2 (by kernel_rfl) (by kernel_rfl) (by kernel_rfl) (fun _ _ _ h => h) (Or.inr ⟨by rfl, rfl⟩) (by assumption) ?_
         (try simp only [Act.put, List.setIfInBounds_toArray, List.set_cons_zero, List.set_cons_succ]))
      first
      | (refine wpAnyH_take (i := 3) (v := ?_) held_at3 (by kernel_rfl) (by kernel_rfl) (by kernel_rfl) (fun _ _ _ h => h) (Or.inl ⟨by rfl, ?_⟩) (by assumption) ?_
         rotate_left
         · (intro w_ hSw; (try dsimp only at hSw); go_simp; (try with_reducible rfl))
         (try simp only [Act.put, List.setIfInBounds_toArray, List.set_cons_zero, List.set_cons_succ]))
      | (refine wpAnyH_take (i := 3) (v := undef) held_at3 (by kernel_rfl) (by kernel_rfl) (by kernel_rfl) (fun _ _ _ h => h) (Or.inr ⟨by rfl, rfl⟩) (by assumption) ?_
         (try simp only [Act.put, List.setIfInBounds_toArray, List.set_cons_zero, List.set_cons_succ]))
      first
      | (refine wpAnyH_take (i := 5) (v := ?_) held_at5 (by kernel_rfl) (by kernel_rfl) (by kernel_rfl) (fun _ _ _ h => h) (Or.inl ⟨by rfl, ?_⟩) (by assumption) ?_
         rotate_left
         · (intro w_ hSw; (try dsimp only at hSw); go_simp; (try with_reducible rfl))
         (try simp only [Act.put, List.setIfInBounds_toArray, List.set_cons_zero, List.set_cons_succ]))
      | (refine wpAnyH_take (i := 5) (v := undef) held_at5 (by kernel_rfl) (by kernel_rfl) (by kernel_rfl) (fun _ _ _ h => h) (Or.inr ⟨by rfl, rfl⟩) (by assumption) ?_
         (try simp only [Act.put, List.setIfInBounds_toArray, List.set_cons_zero, List.set_cons_succ]))
      refine wpAnyH_ready (rs := [4]) (by kernel_rfl) (by simp) ?_
      refine AllReadyH.cons held_at4 (fun K hK => ?_) AllReadyH.nil
      (try simp only [List.setIfInBounds_toArray, List.set_cons_zero, List.set_cons_succ])
      go_simp
      go_at_call 13
      refine (Hna.out _).mono ?_
      rintro e wn ⟨rfl, hb⟩
      (first | replace P3 := Lib.hid (P3.out.below hb) | replace P3 := Lib.hid (P3.out.below ((below_drewN (Below.refl _ _) _).trans hb))); clear hb d0 d1 d2 d3 d4 d5; have d0 := P3.out.a.cell 0; have d1 := P3.out.a.cell 1; have d2 := P3.out.a.cell 2; have d3 := P3.out.a.cell 3; have d4 := P3.out.a.cell 4; have d5 := P3.out.a.cell 5; simp only [List.getElem?_cons_zero, List.getElem?_cons_succ] at d0 d1 d2 d3 d4 d5
      refine hK.out _ _ (⟨d0, d1, d2, d3, d4, d5⟩) (fun hHeld => ?_)
      clear hK K
      (try simp only [Act.put, List.setIfInBounds_toArray, List.set_cons_zero, List.set_cons_succ])
      refine wpAnyH_ready (rs := [6]) (by kernel_rfl) (by simp) ?_
      refine AllReadyH.cons held_at6 (fun K hK => ?_) AllReadyH.nil
      (try simp only [List.setIfInBounds_toArray, List.set_cons_zero, List.set_cons_succ])
      go_simp
      go_at_call 14
      refine (Hnr.out _).mono ?_
      rintro e wn ⟨rfl, hb⟩
      (first | replace P3 := Lib.hid (P3.out.below hb) | replace P3 := Lib.hid (P3.out.below ((below_drewN (Below.refl _ _) _).trans hb))); clear hb d0 d1 d2 d3 d4 d5; have d0 := P3.out.a.cell 0; have d1 := P3.out.a.cell 1; have d2 := P3.out.a.cell 2; have d3 := P3.out.a.cell 3; have d4 := P3.out.a.cell 4; have d5 := P3.out.a.cell 5; simp only [List.getElem?_cons_zero, List.getElem?_cons_succ] at d0 d1 d2 d3 d4 d5
      refine hK.out _ _ (⟨d0, d1, d2, d3, d4, d5⟩) (fun hHeld => ?_)
      clear hK K
      (try simp only [Act.put, List.setIfInBounds_toArray, List.set_cons_zero, List.set_cons_succ])
      first
      | (refine wpAnyH_take (i := 7) (v := ?_) held_at7 (by kernel_rfl) (by kernel_rfl) (by kernel_rfl) (fun _ _ _ h => h) (Or.inl ⟨by rfl, ?_⟩) (by assumption) ?_
         rotate_left
         · (intro w_ hSw; (try dsimp only at hSw); go_simp; (try with_reducible rfl))
         (try simp only [Act.put, List.setIfInBounds_toArray, List.set_cons_zero, List.set_cons_succ]))
      | (refine wpAnyH_take (i := 7) (v := undef) held_at7 (by kernel_rfl) (by kernel_rfl) (by kernel_rfl) (fun _ _ _ h => h) (Or.inr ⟨by rfl, rfl⟩) (by assumption) ?_
         (try simp only [Act.put, List.setIfInBounds_toArray, List.set_cons_zero, List.set_cons_succ]))
      first
      | (refine wpAnyH_take (i := 8) (v := ?_) held_at8 (by kernel_rfl) (by kernel_rfl) (by kernel_rfl) (fun _ _ _ h => h) (Or.inl ⟨by rfl, ?_⟩) (by assumption) ?_
         rotate_left
         · (intro w_ hSw; (try dsimp only at hSw); go_simp; (try with_reducible rfl))
         (try simp only [Act.put, List.setIfInBounds_toArray, List.set_cons_zero, List.set_cons_succ]))
      | (refine wpAnyH_take (i := 8) (v := undef) held_at8 (by kernel_rfl) (by kernel_rfl) (by kernel_rfl) (fun _ _ _ h => h) (Or.inr ⟨by rfl, rfl⟩) (by assumption) ?_
         (try simp only [Act.put, List.setIfInBounds_toArray, List.set_cons_zero, List.set_cons_succ]))
      first
      | (refine wpAnyH_take (i := 9) (v := ?_) held_at9 (by kernel_rfl) (by kernel_rfl) (by kernel_rfl) (fun _ _ _ h => h) (Or.inl ⟨by rfl, ?_⟩) (by assumption) ?_
         rotate_left
         · (intro w_ hSw; (try dsimp only at hSw); go_simp; (try with_reducible rfl))
         (try simp only [Act.put, List.setIfInBounds_toArray, List.set_cons_zero, List.set_cons_succ]))
      | (refine wpAnyH_take (i := 9) (v := undef) held_at9 (by kernel_rfl) (by kernel_rfl) (by kernel_rfl) (fun _ _ _ h => h) (Or.inr ⟨by rfl, rfl⟩) (by assumption) ?_
         (try simp only [Act.put, List.setIfInBounds_toArray, List.set_cons_zero, List.set_cons_succ]))
      first
      | (refine wpAnyH_take (i := 10) (v := ?_) held_at10 (by kernel_rfl) (by kernel_rfl) (by kernel_rfl) (fun _ _ _ h => h) (Or.inl ⟨by rfl, ?_⟩) (by assumption) ?_
         rotate_left
         · (intro w_ hSw; (try dsimp only at hSw); go_simp; (try with_reducible rfl))
         (try simp only [Act.put, List.setIfInBounds_toArray, List.set_cons_zero, List.set_cons_succ]))
      | (refine wpAnyH_take (i := 10) (v := undef) held_at10 (by kernel_rfl) (by kernel_rfl) (by kernel_rfl) (fun _ _ _ h => h) (Or.inr ⟨by rfl, rfl⟩) (by assumption) ?_
         (try simp only [Act.put, List.setIfInBounds_toArray, List.set_cons_zero, List.set_cons_succ]))
      first
      | (refine wpAnyH_take (i := 12) (v := ?_) held_at12 (by kernel_rfl) (by kernel_rfl) (by kernel_rfl) (fun _ _ _ h => h) (Or.inl ⟨by rfl, ?_⟩) (by assumption) ?_
         rotate_left
         · (intro w_ hSw; (try dsimp only at hSw); go_simp; (try with_reducible rfl))
         (try simp only [Act.put, List.setIfInBounds_toArray, List.set_cons_zero, List.set_cons_succ]))
      | (refine wpAnyH_take (i := 12) (v := undef) held_at12 (by kernel_rfl) (by kernel_rfl) (by kernel_rfl) (fun _ _ _ h => h) (Or.inr ⟨by rfl, rfl⟩) (by assumption) ?_
         (try simp only [Act.put, List.setIfInBounds_toArray, List.set_cons_zero, List.set_cons_succ]))
      refine wpAnyH_ready (rs := [11]) (by kernel_rfl) (by simp) ?_
      refine AllReadyH.cons held_at11 (fun K hK => ?_) AllReadyH.nil
      (try simp only [List.setIfInBounds_toArray, List.set_cons_zero, List.set_cons_succ])
      go_simp
      go_at_call 11
      refine (Hck.out _).mono ?_
      rintro e wn ⟨rfl, hb⟩
      (first | replace P3 := Lib.hid (P3.out.below hb) | replace P3 := Lib.hid (P3.out.below ((below_drewN (Below.refl _ _) _).trans hb))); clear hb d0 d1 d2 d3 d4 d5; have d0 := P3.out.a.cell 0; have d1 := P3.out.a.cell 1; have d2 := P3.out.a.cell 2; have d3 := P3.out.a.cell 3; have d4 := P3.out.a.cell 4; have d5 := P3.out.a.cell 5; simp only [List.getElem?_cons_zero, List.getElem?_cons_succ] at d0 d1 d2 d3 d4 d5
      refine hK.out _ _ (⟨d0, d1, d2, d3, d4, d5⟩) (fun hHeld => ?_)
      clear hK K
      (try simp only [Act.put, List.setIfInBounds_toArray, List.set_cons_zero, List.set_cons_succ])
      first
      | (refine wpAnyH_take (i := 13) (v := ?_) held_at13 (by kernel_rfl) (by kernel_rfl) (by kernel_rfl) (fun _ _ _ h => h) (Or.inl ⟨by rfl, ?_⟩) (by assumption) ?_
         rotate_left
         · (intro w_ hSw; (try dsimp only at hSw); go_simp; (try with_reducible rfl))
         (try simp only [Act.put, List.setIfInBounds_toArray, List.set_cons_zero, List.set_cons_succ]))
      | (refine wpAnyH_take (i := 13) (v := undef) held_at13 (by kernel_rfl) (by kernel_rfl) (by kernel_rfl) (fun _ _ _ h => h) (Or.inr ⟨by rfl, rfl⟩) (by assumption) ?_
         (try simp only [Act.put, List.setIfInBounds_toArray, List.set_cons_zero, List.set_cons_succ]))
      first
      | (refine wpAnyH_take (i := 14) (v := ?_) held_at14 (by kernel_rfl) (by kernel_rfl) (by kernel_rfl) (fun _ _ _ h => h) (Or.inl ⟨by rfl, ?_⟩) (by assumption) ?_
         rotate_left
         · (intro w_ hSw; (try dsimp only at hSw); go_simp; (try with_reducible rfl))
         (try simp only [Act.put, List.setIfInBounds_toArray, List.set_cons_zero, List.set_cons_succ]))
      | (refine wpAnyH_take (i := 14) (v := undef) held_at14 (by kernel_rfl) (by kernel_rfl) (by kernel_rfl) (fun _ _ _ h => h) (Or.inr ⟨by rfl, rfl⟩) (by assumption) ?_
         (try simp only [Act.put, List.setIfInBounds_toArray, List.set_cons_zero, List.set_cons_succ]))
      first
      | (refine wpAnyH_take (i := 15) (v := ?_) held_at15 (by kernel_rfl) (by kernel_rfl) (by kernel_rfl) (fun _ _ _ h => h) (Or.inl ⟨by rfl, ?_⟩) (by assumption) ?_
         rotate_left
         · (intro w_ hSw; (try dsimp only at hSw); go_simp; (try with_reducible rfl))
         (try simp only [Act.put, List.setIfInBounds_toArray, List.set_cons_zero, List.set_cons_succ]))
      | (refine wpAnyH_take (i := 15) (v := undef) held_at15 (by kernel_rfl) (by kernel_rfl) (by kernel_rfl) (fun _ _ _ h => h) (Or.inr ⟨by rfl, rfl⟩) (by assumption) ?_
         (try simp only [Act.put, List.setIfInBounds_toArray, List.set_cons_zero, List.set_cons_succ]))
      first
      | (refine wpAnyH_take (i := 16) (v := ?_) held_at16 (by kernel_rfl) (by kernel_rfl) (by kernel_rfl) (fun _ _ _ h => h) (Or.inl ⟨by rfl, ?_⟩) (by assumption) ?_
         rotate_left
         · (intro w_ hSw; (try dsimp only at hSw); go_simp; (try with_reducible rfl))
         (try simp only [Act.put, List.setIfInBounds_toArray, List.set_cons_zero, List.set_cons_succ]))
      | (refine wpAnyH_take (i := 16) (v := undef) held_at16 (by kernel_rfl) (by kernel_rfl) (by kernel_rfl) (fun _ _ _ h => h) (Or.inr ⟨by rfl, rfl⟩) (by assumption) ?_
         (try simp only [Act.put, List.setIfInBounds_toArray, List.set_cons_zero, List.set_cons_succ]))
      first
      | (refine wpAnyH_take (i := 17) (v := ?_) held_at17 (by kernel_rfl) (by kernel_rfl) (by kernel_rfl) (fun _ _ _ h => h) (Or.inl ⟨by rfl, ?_⟩) (by assumption) ?_
         rotate_left
         · (intro w_ hSw; (try dsimp only at hSw); go_simp; (try with_reducible rfl))
         (try simp only [Act.put, List.setIfInBounds_toArray, List.set_cons_zero, List.set_cons_succ]))
      | (refine wpAnyH_take (i := 17) (v := undef) held_at17 (by kernel_rfl) (by kernel_rfl) (by kernel_rfl) (fun _ _ _ h => h) (Or.inr ⟨by rfl, rfl⟩) (by assumption) ?_
         (try simp only [Act.put, List.setIfInBounds_toArray, List.set_cons_zero, List.set_cons_succ]))
      first
      | (refine wpAnyH_take (i := 18) (v := ?_) held_at18 (by kernel_rfl) (by kernel_rfl) (by kernel_rfl) (fun _ _ _ h => h) (Or.inl ⟨by rfl, ?_⟩) (by assumption) ?_
         rotate_left
         · (intro w_ hSw; (try dsimp only at hSw); go_simp; (try with_reducible rfl))
         (try simp only [Act.put, List.setIfInBounds_toArray, List.set_cons_zero, List.set_cons_succ]))
      | (refine wpAnyH_take (i := 18) (v := undef) held_at18 (by kernel_rfl) (by kernel_rfl) (by kernel_rfl) (fun _ _ _ h => h) (Or.inr ⟨by rfl, rfl⟩) (by assumption) ?_
         (try simp only [Act.put, List.setIfInBounds_toArray, List.set_cons_zero, List.set_cons_succ]))
      first
      | (refine wpAnyH_take (i := 20) (v := ?_) held_at20 (by kernel_rfl) (by kernel_rfl) (by kernel_rfl) (fun _ _ _ h => h) (Or.inl ⟨by rfl, ?_⟩) (by assumption) ?_
         rotate_left
         · (intro w_ hSw; (try dsimp only at hSw); go_simp; (try with_reducible rfl))
         (try simp only [Act.put, List.setIfInBounds_toArray, List.set_cons_zero, List.set_cons_succ]))
      | (refine wpAnyH_take (i := 20) (v := undef) held_at20 (by kernel_rfl) (by kernel_rfl) (by kernel_rfl) (fun _ _ _ h => h) (Or.inr ⟨by rfl, rfl⟩) (by assumption) ?_
         (try simp only [Act.put, List.setIfInBounds_toArray, List.set_cons_zero, List.set_cons_succ]))
      first
      | (refine wpAnyH_take (i := 21) (v := ?_) held_at21 (by kernel_rfl) (by kernel_rfl) (by kernel_rfl) (fun _ _ _ h => h) (Or.inl ⟨by rfl, ?_⟩) (by assumption) ?_
         rotate_left
         · (intro w_ hSw; (try dsimp only at hSw); go_simp; (try with_reducible rfl))
         (try simp only [Act.put, List.setIfInBounds_toArray, List.set_cons_zero, List.set_cons_succ]))
      | (refine wpAnyH_take (i := 21) (v := undef) held_at21 (by kernel_rfl) (by kernel_rfl) (by kernel_rfl) (fun _ _ _ h => h) (Or.inr ⟨by rfl, rfl⟩) (by assumption) ?_
         (try simp only [Act.put, List.setIfInBounds_toArray, List.set_cons_zero, List.set_cons_succ]))
      first
      | (refine wpAnyH_take (i := 22) (v := ?_) held_at22 (by kernel_rfl) (by kernel_rfl) (by kernel_rfl) (fun _ _ _ h => h) (Or.inl ⟨by rfl, ?_⟩) (by assumption) ?_
         rotate_left
         · (intro w_ hSw; (try dsimp only at hSw); go_simp; (try with_reducible rfl))
         (try simp only [Act.put, List.setIfInBounds_toArray, List.set_cons_zero, List.set_cons_succ]))
      | (refine wpAnyH_take (i := 22) (v := undef) held_at22 (by kernel_rfl) (by kernel_rfl) (by kernel_rfl) (fun _ _ _ h => h) (Or.inr ⟨by rfl, rfl⟩) (by assumption) ?_
         (try simp only [Act.put, List.setIfInBounds_toArray, List.set_cons_zero, List.set_cons_succ]))
      refine wpAnyH_ready (rs := [19]) (by kernel_rfl) (by simp) ?_
      refine AllReadyH.cons held_at19 (fun K hK => ?_) AllReadyH.nil
      (try simp only [List.setIfInBounds_toArray, List.set_cons_zero, List.set_cons_succ])
      go_simp
      go_at_call 10
      refine (Hfi.out _).mono ?_
      rintro e wn ⟨rfl, hb⟩
      (first | replace P3 := Lib.hid (P3.out.below hb) | replace P3 := Lib.hid (P3.out.below ((below_drewN (Below.refl _ _) _).trans hb))); clear hb d0 d1 d2 d3 d4 d5; have d0 := P3.out.a.cell 0; have d1 := P3.out.a.cell 1; have d2 := P3.out.a.cell 2; have d3 := P3.out.a.cell 3; have d4 := P3.out.a.cell 4; have d5 := P3.out.a.cell 5; simp only [List.getElem?_cons_zero, List.getElem?_cons_succ] at d0 d1 d2 d3 d4 d5
      refine hK.out _ _ (⟨d0, d1, d2, d3, d4, d5⟩) (fun hHeld => ?_)
      clear hK K
      (try simp only [Act.put, List.setIfInBounds_toArray, List.set_cons_zero, List.set_cons_succ])
      refine wpAnyH_ready (rs := [23]) (by kernel_rfl) (by simp) ?_
      refine AllReadyH.cons held_at23 (fun K hK => ?_) AllReadyH.nil
      (try simp only [List.setIfInBounds_toArray, List.set_cons_zero, List.set_cons_succ])
      go_simp
      go_at_call 15
      refine (Hfr.out _).mono ?_
      rintro e wn ⟨rfl, hb⟩
      (first | replace P3 := Lib.hid (P3.out.below hb) | replace P3 := Lib.hid (P3.out.below ((below_drewN (Below.refl _ _) _).trans hb))); clear hb d0 d1 d2 d3 d4 d5; have d0 := P3.out.a.cell 0; have d1 := P3.out.a.cell 1; have d2 := P3.out.a.cell 2; have d3 := P3.out.a.cell 3; have d4 := P3.out.a.cell 4; have d5 := P3.out.a.cell 5; simp only [List.getElem?_cons_zero, List.getElem?_cons_succ] at d0 d1 d2 d3 d4 d5
      refine hK.out _ _ (⟨d0, d1, d2, d3, d4, d5⟩) (fun hHeld => ?_)
      clear hK K
      (try simp only [Act.put, List.setIfInBounds_toArray, List.set_cons_zero, List.set_cons_succ])
      first
      | (refine wpAnyH_take (i := 24) (v := ?_) held_at24 (by kernel_rfl) (by kernel_rfl) (by kernel_rfl) (fun _ _ _ h => h) (Or.inl ⟨by rfl, ?_⟩) (by assumption) ?_
         rotate_left
         · (intro w_ hSw; (try dsimp only at hSw); go_simp; (try with_reducible rfl))
         (try simp only [Act.put, List.setIfInBounds_toArray, List.set_cons_zero, List.set_cons_succ]))
      | (refine wpAnyH_take (i := 24) (v := undef) held_at24 (by kernel_rfl) (by kernel_rfl) (by kernel_rfl) (fun _ _ _ h => h) (Or.inr ⟨by rfl, rfl⟩) (by assumption) ?_
         (try simp only [Act.put, List.setIfInBounds_toArray, List.set_cons_zero, List.set_cons_succ]))
      first
      | (refine wpAnyH_take (i := 25) (v := ?_) held_at25 (by kernel_rfl) (by kernel_rfl) (by kernel_rfl) (fun _ _ _ h => h) (Or.inl ⟨by rfl, ?_⟩) (by assumption) ?_
         rotate_left
         · (intro w_ hSw; (try dsimp only at hSw); go_simp; (try with_reducible rfl))
         (try simp only [Act.put, List.setIfInBounds_toArray, List.set_cons_zero, List.set_cons_succ]))
      | (refine wpAnyH_take (i := 25) (v := undef) held_at25 (by kernel_rfl) (by kernel_rfl) (by kernel_rfl) (fun _ _ _ h => h) (Or.inr ⟨by rfl, rfl⟩) (by assumption) ?_
         (try simp only [Act.put, List.setIfInBounds_toArray, List.set_cons_zero, List.set_cons_succ]))
      first
      | (refine wpAnyH_take (i := 26) (v := ?_) held_at26 (by kernel_rfl) (by kernel_rfl) (by kernel_rfl) (fun _ _ _ h => h) (Or.inl ⟨by rfl, ?_⟩) (by assumption) ?_
         rotate_left
         · (intro w_ hSw; (try dsimp only at hSw); go_simp; (try with_reducible rfl))
         (try simp only [Act.put, List.setIfInBounds_toArray, List.set_cons_zero, List.set_cons_succ]))
      | (refine wpAnyH_take (i := 26) (v := undef) held_at26 (by kernel_rfl) (by kernel_rfl) (by kernel_rfl) (fun _ _ _ h => h) (Or.inr ⟨by rfl, rfl⟩) (by assumption) ?_
         (try simp only [Act.put, List.setIfInBounds_toArray, List.set_cons_zero, List.set_cons_succ]))
      first
      | (refine wpAnyH_take (i := 27) (v := ?_) held_at27 (by kernel_rfl) (by kernel_rfl) (by kernel_rfl) (fun _ _ _ h => h) (Or.inl ⟨by rfl, ?_⟩) (by assumption) ?_
         rotate_left
         · (intro w_ hSw; (try dsimp only at hSw); go_simp; (try with_reducible rfl))
         (try simp only [Act.put, List.setIfInBounds_toArray, List.set_cons_zero, List.set_cons_succ]))
      | (refine wpAnyH_take (i := 27) (v := undef) held_at27 (by kernel_rfl) (by kernel_rfl) (by kernel_rfl) (fun _ _ _ h => h) (Or.inr ⟨by rfl, rfl⟩) (by assumption) ?_
         (try simp only [Act.put, List.setIfInBounds_toArray, List.set_cons_zero, List.set_cons_succ]))
      first
      | (refine wpAnyH_take (i := 28) (v := ?_) held_at28 (by kernel_rfl) (by kernel_rfl) (by kernel_rfl) (fun _ _ _ h => h) (Or.inl ⟨by rfl, ?_⟩) (by assumption) ?_
         rotate_left
         · (intro w_ hSw; (try dsimp only at hSw); go_simp; (try with_reducible rfl))
         (try simp only [Act.put, List.setIfInBounds_toArray, List.set_cons_zero, List.set_cons_succ]))
      | (refine wpAnyH_take (i := 28) (v := undef) held_at28 (by kernel_rfl) (by kernel_rfl) (by kernel_rfl) (fun _ _ _ h => h) (Or.inr ⟨by rfl, rfl⟩) (by assumption) ?_
         (try simp only [Act.put, List.setIfInBounds_toArray, List.set_cons_zero, List.set_cons_succ]))
      first
      | (refine wpAnyH_take (i := 29) (v := ?_) held_at29 (by kernel_rfl) (by kernel_rfl) (by kernel_rfl) (fun _ _ _ h => h) (Or.inl ⟨by rfl, ?_⟩) (by assumption) ?_
         rotate_left
         · (intro w_ hSw; (try dsimp only at hSw); go_simp; (try with_reducible rfl))
         (try simp only [Act.put, List.setIfInBounds_toArray, List.set_cons_zero, List.set_cons_succ]))
      | (refine wpAnyH_take (i := 29) (v := undef) held_at29 (by kernel_rfl) (by kernel_rfl) (by kernel_rfl) (fun _ _ _ h => h) (Or.inr ⟨by rfl, rfl⟩) (by assumption) ?_
         (try simp only [Act.put, List.setIfInBounds_toArray, List.set_cons_zero, List.set_cons_succ]))
      first
      | (refine wpAnyH_take (i := 30) (v := ?_) held_at30 (by kernel_rfl) (by kernel_rfl) (by kernel_rfl) (fun _ _ _ h => h) (Or.inl ⟨by rfl, ?_⟩) (by assumption) ?_
         rotate_left
         · (intro w_ hSw; (try dsimp only at hSw); go_simp; (try with_reducible rfl))
         (try simp only [Act.put, List.setIfInBounds_toArray, List.set_cons_zero, List.set_cons_succ]))
      | (refine wpAnyH_take (i := 30) (v := undef) held_at30 (by kernel_rfl) (by kernel_rfl) (by kernel_rfl) (fun _ _ _ h => h) (Or.inr ⟨by rfl, rfl⟩) (by assumption) ?_
         (try simp only [Act.put, List.setIfInBounds_toArray, List.set_cons_zero, List.set_cons_succ]))
      first
      | (refine wpAnyH_take (i := 31) (v := ?_) held_at31 (by kernel_rfl) (by kernel_rfl) (by kernel_rfl) (fun _ _ _ h => h) (Or.inl ⟨by rfl, ?_⟩) (by assumption) ?_
         rotate_left
         · (intro w_ hSw; (try dsimp only at hSw); go_simp; (try with_reducible rfl))
         (try simp only [Act.put, List.setIfInBounds_toArray, List.set_cons_zero, List.set_cons_succ]))
      | (refine wpAnyH_take (i := 31) (v := undef) held_at31 (by kernel_rfl) (by kernel_rfl) (by kernel_rfl) (fun _ _ _ h => h) (Or.inr ⟨by rfl, rfl⟩) (by assumption) ?_
         (try simp only [Act.put, List.setIfInBounds_toArray, List.set_cons_zero, List.set_cons_succ]))
      first
      | (refine wpAnyH_take (i := 32) (v := ?_) held_at32 (by kernel_rfl) (by kernel_rfl) (by kernel_rfl) (fun _ _ _ h => h) (Or.inl ⟨by rfl, ?_⟩) (by assumption) ?_
         rotate_left
         · (intro w_ hSw; (try dsimp only at hSw); go_simp; (try with_reducible rfl))
         (try simp only [Act.put, List.setIfInBounds_toArray, List.set_cons_zero, List.set_cons_succ]))
      | (refine wpAnyH_take (i := 32) (v := undef) held_at32 (by kernel_rfl) (by kernel_rfl) (by kernel_rfl) (fun _ _ _ h => h) (Or.inr ⟨by rfl, rfl⟩) (by assumption) ?_
         (try simp only [Act.put, List.setIfInBounds_toArray, List.set_cons_zero, List.set_cons_succ]))
      first
      | (refine wpAnyH_take (i := 33) (v := ?_) held_at33 (by kernel_rfl) (by kernel_rfl) (by kernel_rfl) (fun _ _ _ h => h) (Or.inl ⟨by rfl, ?_⟩) (by assumption) ?_
         rotate_left
         · (intro w_ hSw; (try dsimp only at hSw); go_simp; (try with_reducible rfl))
         (try simp only [Act.put, List.setIfInBounds_toArray, List.set_cons_zero, List.set_cons_succ]))
      | (refine wpAnyH_take (i := 33) (v := undef) held_at33 (by kernel_rfl) (by kernel_rfl) (by kernel_rfl) (fun _ _ _ h => h) (Or.inr ⟨by rfl, rfl⟩) (by assumption) ?_
         (try simp only [Act.put, List.setIfInBounds_toArray, List.set_cons_zero, List.set_cons_succ]))
      first
      | (refine wpAnyH_take (i := 34) (v := ?_) held_at34 (by kernel_rfl) (by kernel_rfl) (by kernel_rfl) (fun _ _ _ h => h) (Or.inl ⟨by rfl, ?_⟩) (by assumption) ?_
         rotate_left
         · (intro w_ hSw; (try dsimp only at hSw); go_simp; (try with_reducible rfl))
         (try simp only [Act.put, List.setIfInBounds_toArray, List.set_cons_zero, List.set_cons_succ]))
      | (refine wpAnyH_take (i := 34) (v := undef) held_at34 (by kernel_rfl) (by kernel_rfl) (by kernel_rfl) (fun _ _ _ h => h) (Or.inr ⟨by rfl, rfl⟩) (by assumption) ?_
         (try simp only [Act.put, List.setIfInBounds_toArray, List.set_cons_zero, List.set_cons_succ]))
      first
      | (refine wpAnyH_take (i := 35) (v := ?_) held_at35 (by kernel_rfl) (by kernel_rfl) (by kernel_rfl) (fun _ _ _ h => h) (Or.inl ⟨by rfl, ?_⟩) (by assumption) ?_
         rotate_left
         · (intro w_ hSw; (try dsimp only at hSw); go_simp; (try with_reducible rfl))
         (try simp only [Act.put, List.setIfInBounds_toArray, List.set_cons_zero, List.set_cons_succ]))
      | (refine wpAnyH_take (i := 35) (v := undef) held_at35 (by kernel_rfl) (by kernel_rfl) (by kernel_rfl) (fun _ _ _ h => h) (Or.inr ⟨by rfl, rfl⟩) (by assumption) ?_
         (try simp only [Act.put, List.setIfInBounds_toArray, List.set_cons_zero, List.set_cons_succ]))
      first
      | (refine wpAnyH_take (i := 36) (v := ?_) held_at36 (by kernel_rfl) (by kernel_rfl) (by kernel_rfl) (fun _ _ _ h => h) (Or.inl ⟨by rfl, ?_⟩) (by assumption) ?_
         rotate_left
         · (intro w_ hSw; (try dsimp only at hSw); go_simp; (try with_reducible rfl))
         (try simp only [Act.put, List.setIfInBounds_toArray, List.set_cons_zero, List.set_cons_succ]))
      | (refine wpAnyH_take (i := 36) (v := undef) held_at36 (by kernel_rfl) (by kernel_rfl) (by kernel_rfl) (fun _ _ _ h => h) (Or.inr ⟨by rfl, rfl⟩) (by assumption) ?_
         (try simp only [Act.put, List.setIfInBounds_toArray, List.set_cons_zero, List.set_cons_succ]))
      refine wpAnyH_ready (rs := [37]) (by kernel_rfl) (by simp) ?_
      refine AllReadyH.cons held_at37 (fun K hK => ?_) AllReadyH.nil
      (try simp only [List.setIfInBounds_toArray, List.set_cons_zero, List.set_cons_succ])
      go_simp
      go_at_call 16
      refine (Htx.out _).mono ?_
      rintro e wn ⟨rfl, hb⟩
      (first | replace P3 := Lib.hid (P3.out.below hb) | replace P3 := Lib.hid (P3.out.below ((below_drewN (Below.refl _ _) _).trans hb))); clear hb d0 d1 d2 d3 d4 d5; have d0 := P3.out.a.cell 0; have d1 := P3.out.a.cell 1; have d2 := P3.out.a.cell 2; have d3 := P3.out.a.cell 3; have d4 := P3.out.a.cell 4; have d5 := P3.out.a.cell 5; simp only [List.getElem?_cons_zero, List.getElem?_cons_succ] at d0 d1 d2 d3 d4 d5
      refine hK.out _ _ (⟨d0, d1, d2, d3, d4, d5⟩) (fun hHeld => ?_)
      clear hK K
      (try simp only [Act.put, List.setIfInBounds_toArray, List.set_cons_zero, List.set_cons_succ])
      first
      | (refine wpAnyH_take (i := 38) (v := ?_) held_at38 (by kernel_rfl) (by kernel_rfl) (by kernel_rfl) (fun _ _ _ h => h) (Or.inl ⟨by rfl, ?_⟩) (by assumption) ?_
         rotate_left
         · (intro w_ hSw; (try dsimp only at hSw); go_simp; (try with_reducible rfl))
         (try simp only [Act.put, List.setIfInBounds_toArray, List.set_cons_zero, List.set_cons_succ]))
      | (refine wpAnyH_take (i := 38) (v := undef) held_at38 (by kernel_rfl) (by kernel_rfl) (by kernel_rfl) (fun _ _ _ h => h) (Or.inr ⟨by rfl, rfl⟩) (by assumption) ?_
         (try simp only [Act.put, List.setIfInBounds_toArray, List.set_cons_zero, List.set_cons_succ]))
      first
      | (refine wpAnyH_take (i := 39) (v := ?_) held_at39 (by kernel_rfl) (by kernel_rfl) (by kernel_rfl) (fun _ _ _ h => h) (Or.inl ⟨by rfl, ?_⟩) (by assumption) ?_
         rotate_left
         · (intro w_ hSw; (try dsimp only at hSw); go_simp; (try with_reducible rfl))
         (try simp only [Act.put, List.setIfInBounds_toArray, List.set_cons_zero, List.set_cons_succ]))
      | (refine wpAnyH_take (i := 39) (v := undef) held_at39 (by kernel_rfl) (by kernel_rfl) (by kernel_rfl) (fun _ _ _ h => h) (Or.inr ⟨by rfl, rfl⟩) (by assumption) ?_
         (try simp only [Act.put, List.setIfInBounds_toArray, List.set_cons_zero, List.set_cons_succ]))
      first
      | (refine wpAnyH_take (i := 40) (v := ?_) held_at40 (by kernel_rfl) (by kernel_rfl) (by kernel_rfl) (fun _ _ _ h => h) (Or.inl ⟨by rfl, ?_⟩) (by assumption) ?_
         rotate_left
         · (intro w_ hSw; (try dsimp only at hSw); go_simp; (try with_reducible rfl))
         (try simp only [Act.put, List.setIfInBounds_toArray, List.set_cons_zero, List.set_cons_succ]))
      | (refine wpAnyH_take (i := 40) (v := undef) held_at40 (by kernel_rfl) (by kernel_rfl) (by kernel_rfl) (fun _ _ _ h => h) (Or.inr ⟨by rfl, rfl⟩) (by assumption) ?_
         (try simp only [Act.put, List.setIfInBounds_toArray, List.set_cons_zero, List.set_cons_succ]))
      first
      | (refine wpAnyH_take (i := 41) (v := ?_) held_at41 (by kernel_rfl) (by kernel_rfl) (by kernel_rfl) (fun _ _ _ h => h) (Or.inl ⟨by rfl, ?_⟩) (by assumption) ?_
         rotate_left
         · (intro w_ hSw; (try dsimp only at hSw); go_simp; (try with_reducible rfl))
         (try simp only [Act.put, List.setIfInBounds_toArray, List.set_cons_zero, List.set_cons_succ]))
      | (refine wpAnyH_take (i := 41) (v := undef) held_at41 (by kernel_rfl) (by kernel_rfl) (by kernel_rfl) (fun _ _ _ h => h) (Or.inr ⟨by rfl, rfl⟩) (by assumption) ?_
         (try simp only [Act.put, List.setIfInBounds_toArray, List.set_cons_zero, List.set_cons_succ]))
      first
      | (refine wpAnyH_take (i := 42) (v := ?_) held_at42 (by kernel_rfl) (by kernel_rfl) (by kernel_rfl) (fun _ _ _ h => h) (Or.inl ⟨by rfl, ?_⟩) (by assumption) ?_
         rotate_left
         · (intro w_ hSw; (try dsimp only at hSw); go_simp; (try with_reducible rfl))
         (try simp only [Act.put, List.setIfInBounds_toArray, List.set_cons_zero, List.set_cons_succ]))
      | (refine wpAnyH_take (i := 42) (v := undef) held_at42 (by kernel_rfl) (by kernel_rfl) (by kernel_rfl) (fun _ _ _ h => h) (Or.inr ⟨by rfl, rfl⟩) (by assumption) ?_
         (try simp only [Act.put, List.setIfInBounds_toArray, List.set_cons_zero, List.set_cons_succ]))
      first
      | (refine wpAnyH_take (i := 43) (v := ?_) held_at43 (by kernel_rfl) (by kernel_rfl) (by kernel_rfl) (fun _ _ _ h => h) (Or.inl ⟨by rfl, ?_⟩) (by assumption) ?_
         rotate_left
         · (intro w_ hSw; (try dsimp only at hSw); go_simp; (try with_reducible rfl))
         (try simp only [Act.put, List.setIfInBounds_toArray, List.set_cons_zero, List.set_cons_succ]))
      | (refine wpAnyH_take (i := 43) (v := undef) held_at43 (by kernel_rfl) (by kernel_rfl) (by kernel_rfl) (fun _ _ _ h => h) (Or.inr ⟨by rfl, rfl⟩) (by assumption) ?_
         (try simp only [Act.put, List.setIfInBounds_toArray, List.set_cons_zero, List.set_cons_succ]))
      first
      | (refine wpAnyH_take (i := 44) (v := ?_) held_at44 (by kernel_rfl) (by kernel_rfl) (by kernel_rfl) (fun _ _ _ h => h) (Or.inl ⟨by rfl, ?_⟩) (by assumption) ?_
         rotate_left
         · (intro w_ hSw; (try dsimp only at hSw); go_simp; (try with_reducible rfl))
         (try simp only [Act.put, List.setIfInBounds_toArray, List.set_cons_zero, List.set_cons_succ]))
      | (refine wpAnyH_take (i := 44) (v := undef) held_at44 (by kernel_rfl) (by kernel_rfl) (by kernel_rfl) (fun _ _ _ h => h) (Or.inr ⟨by rfl, rfl⟩) (by assumption) ?_
         (try simp only [Act.put, List.setIfInBounds_toArray, List.set_cons_zero, List.set_cons_succ]))
      first
      | (refine wpAnyH_take (i := 45) (v := ?_) held_at45 (by kernel_rfl) (by kernel_rfl) (by kernel_rfl) (fun _ _ _ h => h) (Or.inl ⟨by rfl, ?_⟩) (by assumption) ?_
         rotate_left
         · (intro w_ hSw; (try dsimp only at hSw); go_simp; (try with_reducible rfl))
         (try simp only [Act.put, List.setIfInBounds_toArray, List.set_cons_zero, List.set_cons_succ]))
      | (refine wpAnyH_take (i := 45) (v := undef) held_at45 (by kernel_rfl) (by kernel_rfl) (by kernel_rfl) (fun _ _ _ h => h) (Or.inr ⟨by rfl, rfl⟩) (by assumption) ?_
         (try simp only [Act.put, List.setIfInBounds_toArray, List.set_cons_zero, List.set_cons_succ]))
      first
      | (refine wpAnyH_take (i := 46) (v := ?_) held_at46 (by kernel_rfl) (by kernel_rfl) (by kernel_rfl) (fun _ _ _ h => h) (Or.inl ⟨by rfl, ?_⟩) (by assumption) ?_
         rotate_left
         · (intro w_ hSw; (try dsimp only at hSw); go_simp; (try with_reducible rfl))
         (try simp only [Act.put, List.setIfInBounds_toArray, List.set_cons_zero, List.set_cons_succ]))
      | (refine wpAnyH_take (i := 46) (v := undef) held_at46 (by kernel_rfl) (by kernel_rfl) (by kernel_rfl) (fun _ _ _ h => h) (Or.inr ⟨by rfl, rfl⟩) (by assumption) ?_
         (try simp only [Act.put, List.setIfInBounds_toArray, List.set_cons_zero, List.set_cons_succ]))
      first
      | (refine wpAnyH_take (i := 47) (v := ?_) held_at47 (by kernel_rfl) (by kernel_rfl) (by kernel_rfl) (fun _ _ _ h => h) (Or.inl ⟨by rfl, ?_⟩) (by assumption) ?_
         rotate_left
         · (intro w_ hSw; (try dsimp only at hSw); go_simp; (try with_reducible rfl))
         (try simp only [Act.put, List.setIfInBounds_toArray, List.set_cons_zero, List.set_cons_succ]))
      | (refine wpAnyH_take (i := 47) (v := undef) held_at47 (by kernel_rfl) (by kernel_rfl) (by kernel_rfl) (fun _ _ _ h => h) (Or.inr ⟨by rfl, rfl⟩) (by assumption) ?_
         (try simp only [Act.put, List.setIfInBounds_toArray, List.set_cons_zero, List.set_cons_succ]))
      first
      | (refine wpAnyH_take (i := 48) (v := ?_) held_at48 (by kernel_rfl) (by kernel_rfl) (by kernel_rfl) (fun _ _ _ h => h) (Or.inl ⟨by rfl, ?_⟩) (by assumption) ?_
         rotate_left
         · (intro w_ hSw; (try dsimp only at hSw); go_simp; (try with_reducible rfl))
         (try simp only [Act.put, List.setIfInBounds_toArray, List.set_cons_zero, List.set_cons_succ]))
      | (refine wpAnyH_take (i := 48) (v := undef) held_at48 (by kernel_rfl) (by kernel_rfl) (by kernel_rfl) (fun _ _ _ h => h) (Or.inr ⟨by rfl, rfl⟩) (by assumption) ?_
         (try simp only [Act.put, List.setIfInBounds_toArray, List.set_cons_zero, List.set_cons_succ]))
      refine wpAnyH_done (by kernel_rfl) ?_ _
      (go_wp2; go_meet; (case rel => exact ⟨rfl, P3.out⟩))
    · obtain rfl : [] = p := by have := HP.out; rwa [if_neg h0] at this
      clear HP
      have h1 : (q == 0) = false := by simpa using h0
      have h2 : (q != 0) = true := by simpa using h0
      clear h0
      refine wp_region_held_drew (S := (fun w' => w'.cell? ⟨w.heap.size, 0, none⟩ = some (.string s) ∧ w'.cell? ⟨w.heap.size, 1, none⟩ = some (.int .i64 op) ∧ w'.cell? ⟨w.heap.size, 2, none⟩ = some (.int .i64 ver) ∧ w'.cell? ⟨w.heap.size, 3, none⟩ = some (.int .i64 slot) ∧ w'.cell? ⟨w.heap.size, 4, none⟩ = some (.string f) ∧ w'.cell? ⟨w.heap.size, 5, none⟩ = some (.bool on))) (by kernel_rfl) (⟨d0, d1, d2, d3, d4, d5⟩) (fun hHeld => ?_)
      refine wpAnyH_ready (rs := [0]) (by kernel_rfl) (by simp) ?_
      refine AllReadyH.cons held_at0 (fun K hK => ?_) AllReadyH.nil
      (try simp only [List.setIfInBounds_toArray, List.set_cons_zero, List.set_cons_succ])
      go_simp
      go_at_call 7
      refine (asked_any _ (HLV.out.below (P3.out.below (below_drewN (Below.refl _ _) _)).b)).mono ?_
      rintro e wn ⟨rfl, hb⟩
      (first | replace P3 := Lib.hid (P3.out.below hb) | replace P3 := Lib.hid (P3.out.below ((below_drewN (Below.refl _ _) _).trans hb))); clear hb d0 d1 d2 d3 d4 d5; have d0 := P3.out.a.cell 0; have d1 := P3.out.a.cell 1; have d2 := P3.out.a.cell 2; have d3 := P3.out.a.cell 3; have d4 := P3.out.a.cell 4; have d5 := P3.out.a.cell 5; simp only [List.getElem?_cons_zero, List.getElem?_cons_succ] at d0 d1 d2 d3 d4 d5
      refine hK.out _ _ (⟨d0, d1, d2, d3, d4, d5⟩) (fun hHeld => ?_)
      clear hK K
      (try simp only [Act.put, List.setIfInBounds_toArray, List.set_cons_zero, List.set_cons_succ])
      first
      | (refine wpAnyH_take (i := 1) (v := ?_) held_at1 (by kernel_rfl) (by kernel_rfl) (by kernel_rfl) (fun _ _ _ h => h) (Or.inl ⟨by rfl, ?_⟩) (by assumption) ?_
         rotate_left
         · (intro w_ hSw; (try dsimp only at hSw); go_simp; (try with_reducible rfl))
         (try simp only [Act.put, List.setIfInBounds_toArray, List.set_cons_zero, List.set_cons_succ]))
      | (refine wpAnyH_take (i := 1) (v := undef) held_at1 (by kernel_rfl) (by kernel_rfl) (by kernel_rfl) (fun _ _ _ h => h) (Or.inr ⟨by rfl, rfl⟩) (by assumption) ?_
         (try simp only [Act.put, List.setIfInBounds_toArray, List.set_cons_zero, List.set_cons_succ]))
      first
      | (refine wpAnyH_take (i := 2) (v := ?_) held_at2 (by kernel_rfl) (by kernel_rfl) (by kernel_rfl) (fun _ _ _ h => h) (Or.inl ⟨by rfl, ?_⟩) (by assumption) ?_
         rotate_left
         · (intro w_ hSw; (try dsimp only at hSw); go_simp; (try with_reducible rfl))
         (try simp only [Act.put, List.setIfInBounds_toArray, List.set_cons_zero, List.set_cons_succ]))
      | (refine wpAnyH_take (i := 2) (v := undef) held_at2 (by kernel_rfl) (by kernel_rfl) (by kernel_rfl) (fun _ _ _ h => h) (Or.inr ⟨by rfl, rfl⟩) (by assumption) ?_
         (try simp only [Act.put, List.setIfInBounds_toArray, List.set_cons_zero, List.set_cons_succ]))
      first
      | (refine wpAnyH_take (i := 3) (v := ?_) held_at3 (by kernel_rfl) (by kernel_rfl) (by kernel_rfl) (fun _ _ _ h => h) (Or.inl ⟨by rfl, ?_⟩) (by assumption) ?_
         rotate_left
         · (intro w_ hSw; (try dsimp only at hSw); go_simp; (try with_reducible rfl))
         (try simp only [Act.put, List.setIfInBounds_toArray, List.set_cons_zero, List.set_cons_succ]))
      | (refine wpAnyH_take (i := 3) (v := undef) held_at3 (by kernel_rfl) (by kernel_rfl) (by kernel_rfl) (fun _ _ _ h => h) (Or.inr ⟨by rfl, rfl⟩) (by assumption) ?_
         (try simp only [Act.put, List.setIfInBounds_toArray, List.set_cons_zero, List.set_cons_succ]))
      first
      | (refine wpAnyH_take (i := 5) (v := ?_) held_at5 (by kernel_rfl) (by kernel_rfl) (by kernel_rfl) (fun _ _ _ h => h) (Or.inl ⟨by rfl, ?_⟩) (by assumption) ?_
         rotate_left
         · (intro w_ hSw; (try dsimp only at hSw); go_simp; (try with_reducible rfl))
         (try simp only [Act.put, List.setIfInBounds_toArray, List.set_cons_zero, List.set_cons_succ]))
      | (refine wpAnyH_take (i := 5) (v := undef) held_at5 (by kernel_rfl) (by kernel_rfl) (by kernel_rfl) (fun _ _ _ h => h) (Or.inr ⟨by rfl, rfl⟩) (by assumption) ?_
         (try simp only [Act.put, List.setIfInBounds_toArray, List.set_cons_zero, List.set_cons_succ]))
      refine wpAnyH_ready (rs := [4]) (by kernel_rfl) (by simp) ?_
      refine AllReadyH.cons held_at4 (fun K hK => ?_) AllReadyH.nil
      (try simp only [List.setIfInBounds_toArray, List.set_cons_zero, List.set_cons_succ])
      go_simp
      go_at_call 13
      refine (Hna.out _).mono ?_
      rintro e wn ⟨rfl, hb⟩
      (first | replace P3 := Lib.hid (P3.out.below hb) | replace P3 := Lib.hid (P3.out.below ((below_drewN (Below.refl _ _) _).trans hb))); clear hb d0 d1 d2 d3 d4 d5; have d0 := P3.out.a.cell 0; have d1 := P3.out.a.cell 1; have d2 := P3.out.a.cell 2; have d3 := P3.out.a.cell 3; have d4 := P3.out.a.cell 4; have d5 := P3.out.a.cell 5; simp only [List.getElem?_cons_zero, List.getElem?_cons_succ] at d0 d1 d2 d3 d4 d5
      refine hK.out _ _ (⟨d0, d1, d2, d3, d4, d5⟩) (fun hHeld => ?_)
      clear hK K
      (try simp only [Act.put, List.setIfInBounds_toArray, List.set_cons_zero, List.set_cons_succ])
      refine wpAnyH_ready (rs := [6]) (by kernel_rfl) (by simp) ?_
      refine AllReadyH.cons held_at6 (fun K hK => ?_) AllReadyH.nil
      (try simp only [List.setIfInBounds_toArray, List.set_cons_zero, List.set_cons_succ])
      go_simp
      go_at_call 14
      refine (Hnr.out _).mono ?_
      rintro e wn ⟨rfl, hb⟩
      (first | replace P3 := Lib.hid (P3.out.below hb) | replace P3 := Lib.hid (P3.out.below ((below_drewN (Below.refl _ _) _).trans hb))); clear hb d0 d1 d2 d3 d4 d5; have d0 := P3.out.a.cell 0; have d1 := P3.out.a.cell 1; have d2 := P3.out.a.cell 2; have d3 := P3.out.a.cell 3; have d4 := P3.out.a.cell 4; have d5 := P3.out.a.cell 5; simp only [List.getElem?_cons_zero, List.getElem?_cons_succ] at d0 d1 d2 d3 d4 d5
      refine hK.out _ _ (⟨d0, d1, d2, d3, d4, d5⟩) (fun hHeld => ?_)
      clear hK K
      (try simp only [Act.put, List.setIfInBounds_toArray, List.set_cons_zero, List.set_cons_succ])
      first
      | (refine wpAnyH_take (i := 7) (v := ?_) held_at7 (by kernel_rfl) (by kernel_rfl) (by kernel_rfl) (fun _ _ _ h => h) (Or.inl ⟨by rfl, ?_⟩) (by assumption) ?_
         rotate_left
         · (intro w_ hSw; (try dsimp only at hSw); go_simp; (try with_reducible rfl))
         (try simp only [Act.put, List.setIfInBounds_toArray, List.set_cons_zero, List.set_cons_succ]))
      | (refine wpAnyH_take (i := 7) (v := undef) held_at7 (by kernel_rfl) (by kernel_rfl) (by kernel_rfl) (fun _ _ _ h => h) (Or.inr ⟨by rfl, rfl⟩) (by assumption) ?_
         (try simp only [Act.put, List.setIfInBounds_toArray, List.set_cons_zero, List.set_cons_succ]))
      first
      | (refine wpAnyH_take (i := 8) (v := ?_) held_at8 (by kernel_rfl) (by kernel_rfl) (by kernel_rfl) (fun _ _ _ h => h) (Or.inl ⟨by rfl, ?_⟩) (by assumption) ?_
         rotate_left
         · (intro w_ hSw; (try dsimp only at hSw); go_simp; (try with_reducible rfl))
         (try simp only [Act.put, List.setIfInBounds_toArray, List.set_cons_zero, List.set_cons_succ]))
      | (refine wpAnyH_take (i := 8) (v := undef) held_at8 (by kernel_rfl) (by kernel_rfl) (by kernel_rfl) (fun _ _ _ h => h) (Or.inr ⟨by rfl, rfl⟩) (by assumption) ?_
         (try simp only [Act.put, List.setIfInBounds_toArray, List.set_cons_zero, List.set_cons_succ]))
      first
      | (refine wpAnyH_take (i := 9) (v := ?_) held_at9 (by kernel_rfl) (by kernel_rfl) (by kernel_rfl) (fun _ _ _ h => h) (Or.inl ⟨by rfl, ?_⟩) (by assumption) ?_
         rotate_left
         · (intro w_ hSw; (try dsimp only at hSw); go_simp; (try with_reducible rfl))
         (try simp only [Act.put, List.setIfInBounds_toArray, List.set_cons_zero, List.set_cons_succ]))
      | (refine wpAnyH_take (i := 9) (v := undef) held_at9 (by kernel_rfl) (by kernel_rfl) (by kernel_rfl) (fun _ _ _ h => h) (Or.inr ⟨by rfl, rfl⟩) (by assumption) ?_
         (try simp only [Act.put, List.setIfInBounds_toArray, List.set_cons_zero, List.set_cons_succ]))
      first
      | (refine wpAnyH_take (i := 10) (v := ?_) held_at10 (by kernel_rfl) (by kernel_rfl) (by kernel_rfl) (fun _ _ _ h => h) (Or.inl ⟨by rfl, ?_⟩) (by assumption) ?_
         rotate_left
         · (intro w_ hSw; (try dsimp only at hSw); go_simp; (try with_reducible rfl))
         (try simp only [Act.put, List.setIfInBounds_toArray, List.set_cons_zero, List.set_cons_succ]))
      | (refine wpAnyH_take (i := 10) (v := undef) held_at10 (by kernel_rfl) (by kernel_rfl) (by kernel_rfl) (fun _ _ _ h => h) (Or.inr ⟨by rfl, rfl⟩) (by assumption) ?_
         (try simp only [Act.put, List.setIfInBounds_toArray, List.set_cons_zero, List.set_cons_succ]))
      first
      | (refine wpAnyH_take (i := 12) (v := ?_) held_at12 (by kernel_rfl) (by kernel_rfl) (by kernel_rfl) (fun _ _ _ h => h) (Or.inl ⟨by rfl, ?_⟩) (by assumption) ?_
         rotate_left
         · (intro w_ hSw; (try dsimp only at hSw); go_simp; (try with_reducible rfl))
         (try simp only [Act.put, List.setIfInBounds_toArray, List.set_cons_zero, List.set_cons_succ]))
      | (refine wpAnyH_take (i := 12) (v := undef) held_at12 (by kernel_rfl) (by kernel_rfl) (by kernel_rfl) (fun _ _ _ h => h) (Or.inr ⟨by rfl, rfl⟩) (by assumption) ?_
         (try simp only [Act.put, List.setIfInBounds_toArray, List.set_cons_zero, List.set_cons_succ]))
      refine wpAnyH_ready (rs := [11]) (by kernel_rfl) (by simp) ?_
      refine AllReadyH.cons held_at11 (fun K hK => ?_) AllReadyH.nil
      (try simp only [List.setIfInBounds_toArray, List.set_cons_zero, List.set_cons_succ])
      go_simp
      go_at_call 11
      refine (Hck.out _).mono ?_
      rintro e wn ⟨rfl, hb⟩
      (first | replace P3 := Lib.hid (P3.out.below hb) | replace P3 := Lib.hid (P3.out.below ((below_drewN (Below.refl _ _) _).trans hb))); clear hb d0 d1 d2 d3 d4 d5; have d0 := P3.out.a.cell 0; have d1 := P3.out.a.cell 1; have d2 := P3.out.a.cell 2; have d3 := P3.out.a.cell 3; have d4 := P3.out.a.cell 4; have d5 := P3.out.a.cell 5; simp only [List.getElem?_cons_zero, List.getElem?_cons_succ] at d0 d1 d2 d3 d4 d5
      refine hK.out _ _ (⟨d0, d1, d2, d3, d4, d5⟩) (fun hHeld => ?_)
      clear hK K
      (try simp only [Act.put, List.setIfInBounds_toArray, List.set_cons_zero, List.set_cons_succ])
      first
      | (refine wpAnyH_take (i := 13) (v := ?_) held_at13 (by kernel_rfl) (by kernel_rfl) (by kernel_rfl) (fun _ _ _ h => h) (Or.inl ⟨by rfl, ?_⟩) (by assumption) ?_
         rotate_left
         · (intro w_ hSw; (try dsimp only at hSw); go_simp; (try with_reducible rfl))
         (try simp only [Act.put, List.setIfInBounds_toArray, List.set_cons_zero, List.set_cons_succ]))
      | (refine wpAnyH_take (i := 13) (v := undef) held_at13 (by kernel_rfl) (by kernel_rfl) (by kernel_rfl) (fun _ _ _ h => h) (Or.inr ⟨by rfl, rfl⟩) (by assumption) ?_
         (try simp only [Act.put, List.setIfInBounds_toArray, List.set_cons_zero, List.set_cons_succ]))
      first
      | (refine wpAnyH_take (i := 14) (v := ?_) held_at14 (by kernel_rfl) (by kernel_rfl) (by kernel_rfl) (fun _ _ _ h => h) (Or.inl ⟨by rfl, ?_⟩) (by assumption) ?_
         rotate_left
         · (intro w_ hSw; (try dsimp only at hSw); go_simp; (try with_reducible rfl))
         (try simp only [Act.put, List.setIfInBounds_toArray, List.set_cons_zero, List.set_cons_succ]))
      | (refine wpAnyH_take (i := 14) (v := undef) held_at14 (by kernel_rfl) (by kernel_rfl) (by kernel_rfl) (fun _ _ _ h => h) (Or.inr ⟨by rfl, rfl⟩) (by assumption) ?_
         (try simp only [Act.put, List.setIfInBounds_toArray, List.set_cons_zero, List.set_cons_succ]))
      first
      | (refine wpAnyH_take (i := 15) (v := ?_) held_at15 (by kernel_rfl) (by kernel_rfl) (by kernel_rfl) (fun _ _ _ h => h) (Or.inl ⟨by rfl, ?_⟩) (by assumption) ?_
         rotate_left
         · (intro w_ hSw; (try dsimp only at hSw); go_simp; (try with_reducible rfl))
         (try simp only [Act.put, List.setIfInBounds_toArray, List.set_cons_zero, List.set_cons_succ]))
      | (refine wpAnyH_take (i := 15) (v := undef) held_at15 (by kernel_rfl) (by kernel_rfl) (by kernel_rfl) (fun _ _ _ h => h) (Or.inr ⟨by rfl, rfl⟩) (by assumption) ?_
         (try simp only [Act.put, List.setIfInBounds_toArray, List.set_cons_zero, List.set_cons_succ]))
      first
      | (refine wpAnyH_take (i := 16) (v := ?_) held_at16 (by kernel_rfl) (by kernel_rfl) (by kernel_rfl) (fun _ _ _ h => h) (Or.inl ⟨by rfl, ?_⟩) (by assumption) ?_
         rotate_left
         · (intro w_ hSw; (try dsimp only at hSw); go_simp; (try with_reducible rfl))
         (try simp only [Act.put, List.setIfInBounds_toArray, List.set_cons_zero, List.set_cons_succ]))
      | (refine wpAnyH_take (i := 16) (v := undef) held_at16 (by kernel_rfl) (by kernel_rfl) (by kernel_rfl) (fun _ _ _ h => h) (Or.inr ⟨by rfl, rfl⟩) (by assumption) ?_
         (try simp only [Act.put, List.setIfInBounds_toArray, List.set_cons_zero, List.set_cons_succ]))
      first
      | (refine wpAnyH_take (i := 17) (v := ?_) held_at17 (by kernel_rfl) (by kernel_rfl) (by kernel_rfl) (fun _ _ _ h => h) (Or.inl ⟨by rfl, ?_⟩) (by assumption) ?_
         rotate_left
         · (intro w_ hSw; (try dsimp only at hSw); go_simp; (try with_reducible rfl))
         (try simp only [Act.put, List.setIfInBounds_toArray, List.set_cons_zero, List.set_cons_succ]))
      | (refine wpAnyH_take (i := 17) (v := undef) held_at17 (by kernel_rfl) (by kernel_rfl) (by kernel_rfl) (fun _ _ _ h => h) (Or.inr ⟨by rfl, rfl⟩) (by assumption) ?_
         (try simp only [Act.put, List.setIfInBounds_toArray, List.set_cons_zero, List.set_cons_succ]))
      first
      | (refine wpAnyH_take (i := 18) (v := ?_) held_at18 (by kernel_rfl) (by kernel_rfl) (by kernel_rfl) (fun _ _ _ h => h) (Or.inl ⟨by rfl, ?_⟩) (by assumption) ?_
         rotate_left
         · (intro w_ hSw; (try dsimp only at hSw); go_simp; (try with_reducible rfl))
         (try simp only [Act.put, List.setIfInBounds_toArray, List.set_cons_zero, List.set_cons_succ]))
      | (refine wpAnyH_take (i := 18) (v := undef) held_at18 (by kernel_rfl) (by kernel_rfl) (by kernel_rfl) (fun _ _ _ h => h) (Or.inr ⟨by rfl, rfl⟩) (by assumption) ?_
         (try simp only [Act.put, List.setIfInBounds_toArray, List.set_cons_zero, List.set_cons_succ]))
      first
      | (refine wpAnyH_take (i := 20) (v := ?_) held_at20 (by kernel_rfl) (by kernel_rfl) (by kernel_rfl) (fun _ _ _ h => h) (Or.inl ⟨by rfl, ?_⟩) (by assumption) ?_
         rotate_left
         · (intro w_ hSw; (try dsimp only at hSw); go_simp; (try with_reducible rfl))
         (try simp only [Act.put, List.setIfInBounds_toArray, List.set_cons_zero, List.set_cons_succ]))
      | (refine wpAnyH_take (i := 20) (v := undef) held_at20 (by kernel_rfl) (by kernel_rfl) (by kernel_rfl) (fun _ _ _ h => h) (Or.inr ⟨by rfl, rfl⟩) (by assumption) ?_
         (try simp only [Act.put, List.setIfInBounds_toArray, List.set_cons_zero, List.set_cons_succ]))
      first
      | (refine wpAnyH_take (i := 21) (v := ?_) held_at21 (by kernel_rfl) (by kernel_rfl) (by kernel_rfl) (fun _ _ _ h => h) (Or.inl ⟨by rfl, ?_⟩) (by assumption) ?_
         rotate_left
         · (intro w_ hSw; (try dsimp only at hSw); go_simp; (try with_reducible rfl))
         (try simp only [Act.put, List.setIfInBounds_toArray, List.set_cons_zero, List.set_cons_succ]))
      | (refine wpAnyH_take (i := 21) (v := undef) held_at21 (by kernel_rfl) (by kernel_rfl) (by kernel_rfl) (fun _ _ _ h => h) (Or.inr ⟨by rfl, rfl⟩) (by assumption) ?_
         (try simp only [Act.put, List.setIfInBounds_toArray, List.set_cons_zero, List.set_cons_succ]))
      first
      | (refine wpAnyH_take (i := 22) (v := ?_) held_at22 (by kernel_rfl) (by kernel_rfl) (by kernel_rfl) (fun _ _ _ h => h) (Or.inl ⟨by rfl, ?_⟩) (by assumption) ?_
         rotate_left
         · (intro w_ hSw; (try dsimp only at hSw); go_simp; (try with_reducible rfl))
         (try simp only [Act.put, List.setIfInBounds_toArray, List.set_cons_zero, List.set_cons_succ]))
      | (refine wpAnyH_take (i := 22) (v := undef) held_at22 (by kernel_rfl) (by kernel_rfl) (by kernel_rfl) (fun _ _ _ h => h) (Or.inr ⟨by rfl, rfl⟩) (by assumption) ?_
         (try simp only [Act.put, List.setIfInBounds_toArray, List.set_cons_zero, List.set_cons_succ]))
      refine wpAnyH_ready (rs := [19]) (by kernel_rfl) (by simp) ?_
      refine AllReadyH.cons held_at19 (fun K hK => ?_) AllReadyH.nil
      (try simp only [List.setIfInBounds_toArray, List.set_cons_zero, List.set_cons_succ])
      go_simp
      go_at_call 10
      refine (Hfi.out _).mono ?_
      rintro e wn ⟨rfl, hb⟩
      (first | replace P3 := Lib.hid (P3.out.below hb) | replace P3 := Lib.hid (P3.out.below ((below_drewN (Below.refl _ _) _).trans hb))); clear hb d0 d1 d2 d3 d4 d5; have d0 := P3.out.a.cell 0; have d1 := P3.out.a.cell 1; have d2 := P3.out.a.cell 2; have d3 := P3.out.a.cell 3; have d4 := P3.out.a.cell 4; have d5 := P3.out.a.cell 5; simp only [List.getElem?_cons_zero, List.getElem?_cons_succ] at d0 d1 d2 d3 d4 d5
      refine hK.out _ _ (⟨d0, d1, d2, d3, d4, d5⟩) (fun hHeld => ?_)
      clear hK K
      (try simp only [Act.put, List.setIfInBounds_toArray, List.set_cons_zero, List.set_cons_succ])
      refine wpAnyH_ready (rs := [23]) (by kernel_rfl) (by simp) ?_
      refine AllReadyH.cons held_at23 (fun K hK => ?_) AllReadyH.nil
      (try simp only [List.setIfInBounds_toArray, List.set_cons_zero, List.set_cons_succ])
      go_simp
      go_at_call 15
      refine (Hfr.out _).mono ?_
      rintro e wn ⟨rfl, hb⟩
      (first | replace P3 := Lib.hid (P3.out.below hb) | replace P3 := Lib.hid (P3.out.below ((below_drewN (Below.refl _ _) _).trans hb))); clear hb d0 d1 d2 d3 d4 d5; have d0 := P3.out.a.cell 0; have d1 := P3.out.a.cell 1; have d2 := P3.out.a.cell 2; have d3 := P3.out.a.cell 3; have d4 := P3.out.a.cell 4; have d5 := P3.out.a.cell 5; simp only [List.getElem?_cons_zero, List.getElem?_cons_succ] at d0 d1 d2 d3 d4 d5
      refine hK.out _ _ (⟨d0, d1, d2, d3, d4, d5⟩) (fun hHeld => ?_)
      clear hK K
      (try simp only [Act.put, List.setIfInBounds_toArray, List.set_cons_zero, List.set_cons_succ])
      first
      | (refine wpAnyH_take (i := 24) (v := ?_) held_at24 (by kernel_rfl) (by kernel_rfl) (by kernel_rfl) (fun _ _ _ h => h) (Or.inl ⟨by rfl, ?_⟩) (by assumption) ?_
         rotate_left
         · (intro w_ hSw; (try dsimp only at hSw); go_simp; (try with_reducible rfl))
         (try simp only [Act.put, List.setIfInBounds_toArray, List.set_cons_zero, List.set_cons_succ]))
      | (refine wpAnyH_take (i := 24) (v := undef) held_at24 (by kernel_rfl) (by kernel_rfl) (by kernel_rfl) (fun _ _ _ h => h) (Or.inr ⟨by rfl, rfl⟩) (by assumption) ?_
         (try simp only [Act.put, List.setIfInBounds_toArray, List.set_cons_zero, List.set_cons_succ]))
      first
      | (refine wpAnyH_take (i := 25) (v := ?_) held_at25 (by kernel_rfl) (by kernel_rfl) (by kernel_rfl) (fun _ _ _ h => h) (Or.inl ⟨by rfl, ?_⟩) (by assumption) ?_
         rotate_left
         · (intro w_ hSw; (try dsimp only at hSw); go_simp; (try with_reducible rfl))
         (try simp only [Act.put, List.setIfInBounds_toArray, List.set_cons_zero, List.set_cons_succ]))
      | (refine wpAnyH_take (i := 25) (v := undef) held_at25 (by kernel_rfl) (by kernel_rfl) (by kernel_rfl) (fun _ _ _ h => h) (Or.inr ⟨by rfl, rfl⟩) (by assumption) ?_
         (try simp only [Act.put, List.setIfInBounds_toArray, List.set_cons_zero, List.set_cons_succ]))
      first
      | (refine wpAnyH_take (i := 26) (v := ?_) held_at26 (by kernel_rfl) (by kernel_rfl) (by kernel_rfl) (fun _ _ _ h => h) (Or.inl ⟨by rfl, ?_⟩) (by assumption) ?_
         rotate_left
         · (intro w_ hSw; (try dsimp only at hSw); go_simp; (try with_reducible rfl))
         (try simp only [Act.put, List.setIfInBounds_toArray, List.set_cons_zero, List.set_cons_succ]))
      | (refine wpAnyH_take (i := 26) (v := undef) held_at26 (by kernel_rfl) (by kernel_rfl) (by kernel_rfl) (fun _ _ _ h => h) (Or.inr ⟨by rfl, rfl⟩) (by assumption) ?_
         (try simp only [Act.put, List.setIfInBounds_toArray, List.set_cons_zero, List.set_cons_succ]))
      first
      | (refine wpAnyH_take (i := 27) (v := ?_) held_at27 (by kernel_rfl) (by kernel_rfl) (by kernel_rfl) (fun _ _ _ h => h) (Or.inl ⟨by rfl, ?_⟩) (by assumption) ?_
         rotate_left
         · (intro w_ hSw; (try dsimp only at hSw); go_simp; (try with_reducible rfl))
         (try simp only [Act.put, List.setIfInBounds_toArray, List.set_cons_zero, List.set_cons_succ]))
      | (refine wpAnyH_take (i := 27) (v := undef) held_at27 (by kernel_rfl) (by kernel_rfl) (by kernel_rfl) (fun _ _ _ h => h) (Or.inr ⟨by rfl, rfl⟩) (by assumption) ?_
         (try simp only [Act.put, List.setIfInBounds_toArray, List.set_cons_zero, List.set_cons_succ]))
      first
      | (refine wpAnyH_take (i := 28) (v := ?_) held_at28 (by kernel_rfl) (by kernel_rfl) (by kernel_rfl) (fun _ _ _ h => h) (Or.inl ⟨by rfl, ?_⟩) (by assumption) ?_
         rotate_left
         · (intro w_ hSw; (try dsimp only at hSw); go_simp; (try with_reducible rfl))
         (try simp only [Act.put, List.setIfInBounds_toArray, List.set_cons_zero, List.set_cons_succ]))
      | (refine wpAnyH_take (i := 28) (v := undef) held_at28 (by kernel_rfl) (by kernel_rfl) (by kernel_rfl) (fun _ _ _ h => h) (Or.inr ⟨by rfl, rfl⟩) (by assumption) ?_
         (try simp only [Act.put, List.setIfInBounds_toArray, List.set_cons_zero, List.set_cons_succ]))
      first
      | (refine wpAnyH_take (i := 29) (v := ?_) held_at29 (by kernel_rfl) (by kernel_rfl) (by kernel_rfl) (fun _ _ _ h => h) (Or.inl ⟨by rfl, ?_⟩) (by assumption) ?_
         rotate_left
         · (intro w_ hSw; (try dsimp only at hSw); go_simp; (try with_reducible rfl))
         (try simp only [Act.put, List.setIfInBounds_toArray, List.set_cons_zero, List.set_cons_succ]))
      | (refine wpAnyH_take (i := 29) (v := undef) held_at29 (by kernel_rfl) (by kernel_rfl) (by kernel_rfl) (fun _ _ _ h => h) (Or.inr ⟨by rfl, rfl⟩) (by assumption) ?_
         (try simp only [Act.put, List.setIfInBounds_toArray, List.set_cons_zero, List.set_cons_succ]))
      first
      | (refine wpAnyH_take (i := 30) (v := ?_) held_at30 (by kernel_rfl) (by kernel_rfl) (by kernel_rfl) (fun _ _ _ h => h) (Or.inl ⟨by rfl, ?_⟩) (by assumption) ?_
         rotate_left
         · (intro w_ hSw; (try dsimp only at hSw); go_simp; (try with_reducible rfl))
         (try simp only [Act.put, List.setIfInBounds_toArray, List.set_cons_zero, List.set_cons_succ]))
      | (refine wpAnyH_take (i := 30) (v := undef) held_at30 (by kernel_rfl) (by kernel_rfl) (by kernel_rfl) (fun _ _ _ h => h) (Or.inr ⟨by rfl, rfl⟩) (by assumption) ?_
         (try simp only [Act.put, List.setIfInBounds_toArray, List.set_cons_zero, List.set_cons_succ]))
      first
      | (refine wpAnyH_take (i := 31) (v := ?_) held_at31 (by kernel_rfl) (by kernel_rfl) (by kernel_rfl) (fun _ _ _ h => h) (Or.inl ⟨by rfl, ?_⟩) (by assumption) ?_
         rotate_left
         · (intro w_ hSw; (try dsimp only at hSw); go_simp; (try with_reducible rfl))
         (try simp only [Act.put, List.setIfInBounds_toArray, List.set_cons_zero, List.set_cons_succ]))
      | (refine wpAnyH_take (i := 31) (v := undef) held_at31 (by kernel_rfl) (by kernel_rfl) (by kernel_rfl) (fun _ _ _ h => h) (Or.inr ⟨by rfl, rfl⟩) (by assumption) ?_
         (try simp only [Act.put, List.setIfInBounds_toArray, List.set_cons_zero, List.set_cons_succ]))
      first
      | (refine wpAnyH_take (i := 32) (v := ?_) held_at32 (by kernel_rfl) (by kernel_rfl) (by kernel_rfl) (fun _ _ _ h => h) (Or.inl ⟨by rfl, ?_⟩) (by assumption) ?_
         rotate_left
         · (intro w_ hSw; (try dsimp only at hSw); go_simp; (try with_reducible rfl))
         (try simp only [Act.put, List.setIfInBounds_toArray, List.set_cons_zero, List.set_cons_succ]))
      | (refine wpAnyH_take (i := 32) (v := undef) held_at32 (by kernel_rfl) (by kernel_rfl) (by kernel_rfl) (fun _ _ _ h => h) (Or.inr ⟨by rfl, rfl⟩) (by assumption) ?_
         (try simp only [Act.put, List.setIfInBounds_toArray, List.set_cons_zero, List.set_cons_succ]))
      first
      | (refine wpAnyH_take (i := 33) (v := ?_) held_at33 (by kernel_rfl) (by kernel_rfl) (by kernel_rfl) (fun _ _ _ h => h) (Or.inl ⟨by rfl, ?_⟩) (by assumption) ?_
         rotate_left
         · (intro w_ hSw; (try dsimp only at hSw); go_simp; (try with_reducible rfl))
         (try simp only [Act.put, List.setIfInBounds_toArray, List.set_cons_zero, List.set_cons_succ]))
      | (refine wpAnyH_take (i := 33) (v := undef) held_at33 (by kernel_rfl) (by kernel_rfl) (by kernel_rfl) (fun _ _ _ h => h) (Or.inr ⟨by rfl, rfl⟩) (by assumption) ?_
         (try simp only [Act.put, List.setIfInBounds_toArray, List.set_cons_zero, List.set_cons_succ]))
      first
      | (refine wpAnyH_take (i := 34) (v := ?_) held_at34 (by kernel_rfl) (by kernel_rfl) (by kernel_rfl) (fun _ _ _ h => h) (Or.inl ⟨by rfl, ?_⟩) (by assumption) ?_
         rotate_left
         · (intro w_ hSw; (try dsimp only at hSw); go_simp; (try with_reducible rfl))
         (try simp only [Act.put, List.setIfInBounds_toArray, List.set_cons_zero, List.set_cons_succ]))
      | (refine wpAnyH_take (i := 34) (v := undef) held_at34 (by kernel_rfl) (by kernel_rfl) (by kernel_rfl) (fun _ _ _ h => h) (Or.inr ⟨by rfl, rfl⟩) (by assumption) ?_
         (try simp only [Act.put, List.setIfInBounds_toArray, List.set_cons_zero, List.set_cons_succ]))
      first
      | (refine wpAnyH_take (i := 35) (v := ?_) held_at35 (by kernel_rfl) (by kernel_rfl) (by kernel_rfl) (fun _ _ _ h => h) (Or.inl ⟨by rfl, ?_⟩) (by assumption) ?_
         rotate_left
         · (intro w_ hSw; (try dsimp only at hSw); go_simp; (try with_reducible rfl))
         (try simp only [Act.put, List.setIfInBounds_toArray, List.set_cons_zero, List.set_cons_succ]))
      | (refine wpAnyH_take (i := 35) (v := undef) held_at35 (by kernel_rfl) (by kernel_rfl) (by kernel_rfl) (fun _ _ _ h => h) (Or.inr ⟨by rfl, rfl⟩) (by assumption) ?_
         (try simp only [Act.put, List.setIfInBounds_toArray, List.set_cons_zero, List.set_cons_succ]))
      first
      | (refine wpAnyH_take (i := 36) (v := ?_) held_at36 (by kernel_rfl) (by kernel_rfl) (by kernel_rfl) (fun _ _ _ h => h) (Or.inl ⟨by rfl, ?_⟩) (by assumption) ?_
         rotate_left
         · (intro w_ hSw; (try dsimp only at hSw); go_simp; (try with_reducible rfl))
         (try simp only [Act.put, List.setIfInBounds_toArray, List.set_cons_zero, List.set_cons_succ]))
      | (refine wpAnyH_take (i := 36) (v := undef) held_at36 (by kernel_rfl) (by kernel_rfl) (by kernel_rfl) (fun _ _ _ h => h) (Or.inr ⟨by rfl, rfl⟩) (by assumption) ?_
         (try simp only [Act.put, List.setIfInBounds_toArray, List.set_cons_zero, List.set_cons_succ]))
      first
      | (refine wpAnyH_take (i := 37) (v := ?_) held_at37 (by kernel_rfl) (by kernel_rfl) (by kernel_rfl) (fun _ _ _ h => h) (Or.inl ⟨by rfl, ?_⟩) (by assumption) ?_
         rotate_left
         · (intro w_ hSw; (try dsimp only at hSw); go_simp; (try with_reducible rfl))
         (try simp only [Act.put, List.setIfInBounds_toArray, List.set_cons_zero, List.set_cons_succ]))
      | (refine wpAnyH_take (i := 37) (v := undef) held_at37 (by kernel_rfl) (by kernel_rfl) (by kernel_rfl) (fun _ _ _ h => h) (Or.inr ⟨by rfl, rfl⟩) (by assumption) ?_
         (try simp only [Act.put, List.setIfInBounds_toArray, List.set_cons_zero, List.set_cons_succ]))
      first
      | (refine wpAnyH_take (i := 38) (v := ?_) held_at38 (by kernel_rfl) (by kernel_rfl) (by kernel_rfl) (fun _ _ _ h => h) (Or.inl ⟨by rfl, ?_⟩) (by assumption) ?_
         rotate_left
         · (intro w_ hSw; (try dsimp only at hSw); go_simp; (try with_reducible rfl))
         (try simp only [Act.put, List.setIfInBounds_toArray, List.set_cons_zero, List.set_cons_succ]))
      | (refine wpAnyH_take (i := 38) (v := undef) held_at38 (by kernel_rfl) (by kernel_rfl) (by kernel_rfl) (fun _ _ _ h => h) (Or.inr ⟨by rfl, rfl⟩) (by assumption) ?_
         (try simp only [Act.put, List.setIfInBounds_toArray, List.set_cons_zero, List.set_cons_succ]))
      first
      | (refine wpAnyH_take (i := 39) (v := ?_) held_at39 (by kernel_rfl) (by kernel_rfl) (by kernel_rfl) (fun _ _ _ h => h) (Or.inl ⟨by rfl, ?_⟩) (by assumption) ?_
         rotate_left
         · (intro w_ hSw; (try dsimp only at hSw); go_simp; (try with_reducible rfl))
         (try simp only [Act.put, List.setIfInBounds_toArray, List.set_cons_zero, List.set_cons_succ]))
      | (refine wpAnyH_take (i := 39) (v := undef) held_at39 (by kernel_rfl) (by kernel_rfl) (by kernel_rfl) (fun _ _ _ h => h) (Or.inr ⟨by rfl, rfl⟩) (by assumption) ?_
         (try simp only [Act.put, List.setIfInBounds_toArray, List.set_cons_zero, List.set_cons_succ]))
      first
      | (refine wpAnyH_take (i := 40) (v := ?_) held_at40 (by kernel_rfl) (by kernel_rfl) (by kernel_rfl) (fun _ _ _ h => h) (Or.inl ⟨by rfl, ?_⟩) (by assumption) ?_
         rotate_left
         · (intro w_ hSw; (try dsimp only at hSw); go_simp; (try with_reducible rfl))
         (try simp only [Act.put, List.setIfInBounds_toArray, List.set_cons_zero, List.set_cons_succ]))
      | (refine wpAnyH_take (i := 40) (v := undef) held_at40 (by kernel_rfl) (by kernel_rfl) (by kernel_rfl) (fun _ _ _ h => h) (Or.inr ⟨by rfl, rfl⟩) (by assumption) ?_
         (try simp only [Act.put, List.setIfInBounds_toArray, List.set_cons_zero, List.set_cons_succ]))
      first
      | (refine wpAnyH_take (i := 41) (v := ?_) held_at41 (by kernel_rfl) (by kernel_rfl) (by kernel_rfl) (fun _ _ _ h => h) (Or.inl ⟨by rfl, ?_⟩) (by assumption) ?_
         rotate_left
         · (intro w_ hSw; (try dsimp only at hSw); go_simp; (try with_reducible rfl))
         (try simp only [Act.put, List.setIfInBounds_toArray, List.set_cons_zero, List.set_cons_succ]))
      | (refine wpAnyH_take (i := 41) (v := undef) held_at41 (by kernel_rfl) (by kernel_rfl) (by kernel_rfl) (fun _ _ _ h => h) (Or.inr ⟨by rfl, rfl⟩) (by assumption) ?_
         (try simp only [Act.put, List.setIfInBounds_toArray, List.set_cons_zero, List.set_cons_succ]))
      first
      | (refine wpAnyH_take (i := 42) (v := ?_) held_at42 (by kernel_rfl) (by kernel_rfl) (by kernel_rfl) (fun _ _ _ h => h) (Or.inl ⟨by rfl, ?_⟩) (by assumption) ?_
         rotate_left
         · (intro w_ hSw; (try dsimp only at hSw); go_simp; (try with_reducible rfl))
         (try simp only [Act.put, List.setIfInBounds_toArray, List.set_cons_zero, List.set_cons_succ]))
      | (refine wpAnyH_take (i := 42) (v := undef) held_at42 (by kernel_rfl) (by kernel_rfl) (by kernel_rfl) (fun _ _ _ h => h) (Or.inr ⟨by rfl, rfl⟩) (by assumption) ?_
         (try simp only [Act.put, List.setIfInBounds_toArray, List.set_cons_zero, List.set_cons_succ]))
      first
      | (refine wpAnyH_take (i := 43) (v := ?_) held_at43 (by kernel_rfl) (by kernel_rfl) (by kernel_rfl) (fun _ _ _ h => h) (Or.inl ⟨by rfl, ?_⟩) (by assumption) ?_
         rotate_left
         · (intro w_ hSw; (try dsimp only at hSw); go_simp; (try with_reducible rfl))
         (try simp only [Act.put, List.setIfInBounds_toArray, List.set_cons_zero, List.set_cons_succ]))
      | (refine wpAnyH_take (i := 43) (v := undef) held_at43 (by kernel_rfl) (by kernel_rfl) (by kernel_rfl) (fun _ _ _ h => h) (Or.inr ⟨by rfl, rfl⟩) (by assumption) ?_
         (try simp only [Act.put, List.setIfInBounds_toArray, List.set_cons_zero, List.set_cons_succ]))
      first
      | (refine wpAnyH_take (i := 44) (v := ?_) held_at44 (by kernel_rfl) (by kernel_rfl) (by kernel_rfl) (fun _ _ _ h => h) (Or.inl ⟨by rfl, ?_⟩) (by assumption) ?_
         rotate_left
         · (intro w_ hSw; (try dsimp only at hSw); go_simp; (try with_reducible rfl))
         (try simp only [Act.put, List.setIfInBounds_toArray, List.set_cons_zero, List.set_cons_succ]))
      | (refine wpAnyH_take (i := 44) (v := undef) held_at44 (by kernel_rfl) (by kernel_rfl) (by kernel_rfl) (fun _ _ _ h => h) (Or.inr ⟨by rfl, rfl⟩) (by assumption) ?_
         (try simp only [Act.put, List.setIfInBounds_toArray, List.set_cons_zero, List.set_cons_succ]))
      first
      | (refine wpAnyH_take (i := 45) (v := ?_) held_at45 (by kernel_rfl) (by kernel_rfl) (by kernel_rfl) (fun _ _ _ h => h) (Or.inl ⟨by rfl, ?_⟩) (by assumption) ?_
         rotate_left
         · (intro w_ hSw; (try dsimp only at hSw); go_simp; (try with_reducible rfl))
         (try simp only [Act.put, List.setIfInBounds_toArray, List.set_cons_zero, List.set_cons_succ]))
      | (refine wpAnyH_take (i := 45) (v := undef) held_at45 (by kernel_rfl) (by kernel_rfl) (by kernel_rfl) (fun _ _ _ h => h) (Or.inr ⟨by rfl, rfl⟩) (by assumption) ?_
         (try simp only [Act.put, List.setIfInBounds_toArray, List.set_cons_zero, List.set_cons_succ]))
      first
      | (refine wpAnyH_take (i := 46) (v := ?_) held_at46 (by kernel_rfl) (by kernel_rfl) (by kernel_rfl) (fun _ _ _ h => h) (Or.inl ⟨by rfl, ?_⟩) (by assumption) ?_
         rotate_left
         · (intro w_ hSw; (try dsimp only at hSw); go_simp; (try with_reducible rfl))
         (try simp only [Act.put, List.setIfInBounds_toArray, List.set_cons_zero, List.set_cons_succ]))
      | (refine wpAnyH_take (i := 46) (v := undef) held_at46 (by kernel_rfl) (by kernel_rfl) (by kernel_rfl) (fun _ _ _ h => h) (Or.inr ⟨by rfl, rfl⟩) (by assumption) ?_
         (try simp only [Act.put, List.setIfInBounds_toArray, List.set_cons_zero, List.set_cons_succ]))
      first
      | (refine wpAnyH_take (i := 47) (v := ?_) held_at47 (by kernel_rfl) (by kernel_rfl) (by kernel_rfl) (fun _ _ _ h => h) (Or.inl ⟨by rfl, ?_⟩) (by assumption) ?_
         rotate_left
         · (intro w_ hSw; (try dsimp only at hSw); go_simp; (try with_reducible rfl))
         (try simp only [Act.put, List.setIfInBounds_toArray, List.set_cons_zero, List.set_cons_succ]))
      | (refine wpAnyH_take (i := 47) (v := undef) held_at47 (by kernel_rfl) (by kernel_rfl) (by kernel_rfl) (fun _ _ _ h => h) (Or.inr ⟨by rfl, rfl⟩) (by assumption) ?_
         (try simp only [Act.put, List.setIfInBounds_toArray, List.set_cons_zero, List.set_cons_succ]))
      first
      | (refine wpAnyH_take (i := 48) (v := ?_) held_at48 (by kernel_rfl) (by kernel_rfl) (by kernel_rfl) (fun _ _ _ h => h) (Or.inl ⟨by rfl, ?_⟩) (by assumption) ?_
         rotate_left
         · (intro w_ hSw; (try dsimp only at hSw); go_simp; (try with_reducible rfl))
         (try simp only [Act.put, List.setIfInBounds_toArray, List.set_cons_zero, List.set_cons_succ]))
      | (refine wpAnyH_take (i := 48) (v := undef) held_at48 (by kernel_rfl) (by kernel_rfl) (by kernel_rfl) (fun _ _ _ h => h) (Or.inr ⟨by rfl, rfl⟩) (by assumption) ?_
         (try simp only [Act.put, List.setIfInBounds_toArray, List.set_cons_zero, List.set_cons_succ]))
      refine wpAnyH_done (by kernel_rfl) ?_ _
      (go_wp2; go_meet; (case rel => exact ⟨rfl, P3.out⟩))
  case rest =>
    obtain ⟨rfl, P4⟩ := hcut
    replace P4 := Lib.hid P4
    clear P3 d0 d1 d2 d3 d4 d5 Hp1 Hpa Hck Hrc Hfi Hfr Htx Hna Hnr
    have f0 := P4.out.r.cell 0; have f1 := P4.out.r.cell 1; have f2 := P4.out.r.cell 2; have f3 := P4.out.r.cell 3; have f4 := P4.out.r.cell 4; have f5 := P4.out.r.cell 5
    simp only [List.getElem?_cons_zero, List.getElem?_cons_succ] at f0 f1 f2 f3 f4 f5
    by_cases hl : 20000 < t.data.toList.length
    · have hg := HG.out
      rw [if_pos hl] at hg
      simp only [At.zero, Prod.mk.injEq, At.mk.injEq] at hg
      obtain ⟨⟨rfl, rfl, rfl, rfl, rfl, rfl⟩, rfl⟩ := hg
      have hl' : (20000 : Int) < (t.size : Int) := by have := HSZ.out; omega
      clear HG
      go_wp2
      go_ret
      exact ⟨rfl, P4.out.b⟩
    · have hg := HG.out
      rw [if_neg hl] at hg
      have hl' : decide ((20000 : Int) < (t.size : Int)) = false := by have := HSZ.out; simp; omega
      subst hg
      have hre := fun wx => Hre.out (by rw [HSZ.out]; omega) wx
      clear Hre
      have Hre := Lib.hid hre; clear hre HG
      simp only [] at Hre
      go_wp2_with (first | (go_at_call 17; refine (Hre.out _ (HLV.out.below P4.out.b) (HMV.out.below P4.out.b)).mono ?_; rintro e w5 ⟨rfl, hb5⟩; refine Hid.out ?_))
      refine Lib.hid ?_
      have P5 := Lib.hid (P4.out.below hb5)
      have P6 := Lib.hid (P5.out.below ((Below.refl _ w5).alloc (Nat.le_refl _) (.cells #[.string ⟨gn.toArray⟩, .int .i64 go, .int .i64 gv, .int .i64 gs, .string ⟨gf.toArray⟩, .bool gb] 23)))
      clear f0 f1 f2 f3 f4 f5 P4 hb5
      have f0 := P5.out.r.cell 0; have f1 := P5.out.r.cell 1; have f2 := P5.out.r.cell 2; have f3 := P5.out.r.cell 3; have f4 := P5.out.r.cell 4; have f5 := P5.out.r.cell 5
      simp only [List.getElem?_cons_zero, List.getElem?_cons_succ] at f0 f1 f2 f3 f4 f5
      have hlt := P5.out.r.lt
      go_wp2
      go_ret
      exact ⟨rfl, P6.out.b⟩
end Go.Proofs.YtheccogihldjgaaDoor
