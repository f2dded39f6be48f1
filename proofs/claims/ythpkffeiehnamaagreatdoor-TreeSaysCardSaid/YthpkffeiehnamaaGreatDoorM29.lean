/- Parts of the proof: walks and plain laws, side by side. -/
import Derived.Test.YthpkffeiehnamaaGreatDoorM14
import Derived.Test.YthpkffeiehnamaaGreatDoorM17
import Derived.Test.YthpkffeiehnamaaGreatDoorM26
import Derived.Test.YthpkffeiehnamaaGreatDoorM28
import Derived.Test.YthpkffeiehnamaaGreatDoorM22
import Derived.Test.YthpkffeiehnamaaGreatDoorM15
set_option linter.unusedVariables false
set_option linter.unusedSimpArgs false
set_option linter.unusedSectionVars false
/- quartermasterref.ReadTree, walked. -/
namespace Go.Proofs.YthpkffeiehnamaaGreatDoor
open Go.RowKit Qm

theorem cut32_some {l a d : Qm.W} {x : UInt8} (h : cutAt (· == 32) l = some (a, x, d)) (w : World) (hs : l.length < 4294967281) (hM : MaxW w) :
    Calls Tryz.prog 43 #[.string ⟨l.toArray⟩, .string ⟨#[32]⟩] w fun e w' => e = .returned (.tuple #[.string ⟨a.toArray⟩, .string ⟨d.toArray⟩, .bool true]) ∧ Below w.heap.size w w' := by
  obtain ⟨m, hm⟩ := hM
  have hc := cut_one 32 l
  rw [h] at hc
  refine (Tryz.strings_Cut ⟨l.toArray⟩ ⟨#[32]⟩ m w (by rw [bsz]; exact hs) hm).mono ?_
  rintro e w' ⟨he, n, rfl⟩
  have hc' : Lib.cut (⟨l.toArray⟩ : ByteArray).data.toList (⟨#[32]⟩ : ByteArray).data.toList = (a, d, true) := hc
  rw [hc'] at he
  exact ⟨he, below_drewN (Below.refl _ _) n⟩
theorem cut32_none {l : Qm.W} (h : cutAt (· == 32) l = none) (w : World) (hs : l.length < 4294967281) (hM : MaxW w) :
    Calls Tryz.prog 43 #[.string ⟨l.toArray⟩, .string ⟨#[32]⟩] w fun e w' => e = .returned (.tuple #[.string ⟨l.toArray⟩, .string ⟨#[]⟩, .bool false]) ∧ Below w.heap.size w w' := by
  obtain ⟨m, hm⟩ := hM
  have hc := cut_one 32 l
  rw [h] at hc
  refine (Tryz.strings_Cut ⟨l.toArray⟩ ⟨#[32]⟩ m w (by rw [bsz]; exact hs) hm).mono ?_
  rintro e w' ⟨he, n, rfl⟩
  have hc' : Lib.cut (⟨l.toArray⟩ : ByteArray).data.toList (⟨#[32]⟩ : ByteArray).data.toList = (l, [], false) := hc
  rw [hc'] at he
  exact ⟨he, below_drewN (Below.refl _ _) n⟩
/-- The box of four words: those that are cut, the rest empty. -/
def pad4 (cs : List Qm.W) : List Value := strs cs ++ List.replicate (4 - cs.length) (.string ⟨#[]⟩)
theorem pad4_set {cs : List Qm.W} {a : Qm.W} (h : cs.length < 4) : (pad4 cs).set cs.length (.string ⟨a.toArray⟩) = pad4 (cs ++ [a]) := by
  unfold pad4
  have hl : (strs cs).length = cs.length := strs_len cs
  obtain ⟨k, hk⟩ : ∃ k, 4 - cs.length = k + 1 := ⟨3 - cs.length, by omega⟩
  have hk2 : 4 - (cs ++ [a]).length = k := by simp; omega
  rw [hk2, hk, List.set_append_right _ _ (by omega), hl, Nat.sub_self, List.replicate_succ]
  simp [strs]
theorem pad4_at {cs : List Qm.W} (h : cs.length < 4) : (pad4 cs)[cs.length]? = some (.string ⟨#[]⟩) := by
  unfold pad4
  have hl : (strs cs).length = cs.length := strs_len cs
  rw [List.getElem?_append_right (by omega), hl, Nat.sub_self]
  obtain ⟨k, hk⟩ : ∃ k, 4 - cs.length = k + 1 := ⟨3 - cs.length, by omega⟩
  rw [hk]; rfl
/-- What stands while lines are read: the tree's box and packages, the words. -/
structure Tr (wa : World) (ls : List Qm.W) (A : Option Addr) (c : Nat) (cs : List (List Value)) (ps : List Pk) (wx : World) : Prop where
  d : Td wa A c cs ps wx
  words : Whole wx (wa.heap.size + 1) 9 (strs ls)
theorem Tr.move {wa wx wy : World} {ls : List Qm.W} {A : Option Addr} {c : Nat} {cs : List (List Value)} {ps : List Pk} (h : Tr wa ls A c cs ps wx) (hb : Below wx.heap.size wx wy) : Tr wa ls A c cs ps wy := ⟨h.d.move hb, h.words.below hb h.words.lt⟩

/-- Behind the cut into words: four words in their box, the rest. -/
def CutT (a : Qm.W) (wo : World) (rv : Value) (wx : World) : Prop := ∃ (x1 x2 x3 x4 r : Qm.W), rv = .string ⟨r.toArray⟩ ∧ cut4 a = some (x1, x2, x3, x4, r) ∧ Whole wx wo.heap.size 107 (strs [x1, x2, x3, x4]) ∧ Below wo.heap.size wo wx
theorem cut4_of {a r : Qm.W} {ws : List Qm.W} (h : cutK 4 [] a = some (ws, r)) : ∃ x1 x2 x3 x4, ws = [x1, x2, x3, x4] ∧ cut4 a = some (x1, x2, x3, x4, r) := by
  rw [cutK4] at h
  split at h
  · cases h
  · rename_i x1 x2 x3 x4 r' hc
    simp only [Option.some.injEq, Prod.mk.injEq] at h
    exact ⟨x1, x2, x3, x4, h.1.symm, by rw [hc, h.2]⟩
theorem cut4_no {a : Qm.W} (h : cutK 4 [] a = none) : cut4 a = none := by
  rw [cutK4] at h
  split at h
  · assumption
  · cases h
theorem rwhole_l (l : Qm.W) (w : World) (hs : l.length ≤ 140737488355328) (hL : LaidV w) :
    Calls Tryz.prog 63 #[.string ⟨l.toArray⟩] w fun e w' => ∃ n, e = .returned (.tuple #[.int .i64 n, .bool (number l).isSome]) ∧ (∀ v, number l = some v → n = v) ∧ Below w.heap.size w w' :=
  whole_any ⟨l.toArray⟩ w (by rw [bsz]; exact hs) hL
theorem rreadNeed_l (l : Qm.W) (w : World) (hs : l.length ≤ 20000) (hL : LaidV w) (hM : MaxW w) (hX : MaxV w) :
    Calls Tryz.prog 64 #[.string ⟨l.toArray⟩] w (NParsePost w l) := rreadNeed_any ⟨l.toArray⟩ w (by rw [bsz]; exact hs) hL hM hX
set_option maxRecDepth 100000 in
set_option maxHeartbeats 6400000 in
theorem rreadTree_any (l : Qm.W) (w : World) (hs : l.length ≤ 20000) (hL : LaidV w) (hM : MaxW w) (hX : MaxV w) :
    Calls Tryz.prog 29 #[.string ⟨l.toArray⟩] w (TParsePost w l) := by
  have HLV := Lib.hid hL; have HMV := Lib.hid hM; have HMX := Lib.hid hX; clear hL hM hX
  have HT : toldT (preT [] (readT 0 (splitB 10 l))) = parseTree l := toldT_parse hs
  have hsp := fun wx hM => split_any ⟨l.toArray⟩ 10 wx (by rw [bsz]; omega) hM
  rw [show (⟨l.toArray⟩ : ByteArray).data.toList = l from by simp] at hsp
  obtain ⟨hw1, hw2⟩ := splitB_le (c := 10) (l := l)
  have hne : splitB 10 l ≠ [] := by unfold splitB; exact splitGo_ne
  generalize splitB 10 l = ls at hsp hw1 hw2 HT hne
  generalize hQ : preT [] (readT 0 ls) = Q at HT
  have HPE : Hid (∀ i e, Q = .error (i, e) → parseTree l = ([], i, e)) := Lib.hid fun i e h => by rw [← HT, h]; rfl
  have HPO : Hid (∀ ps, Q = .ok ps → parseTree l = if ckTree ps = 0 then (ps, 0, 0) else ([], 0, ckTree ps)) := Lib.hid fun ps h => by rw [← HT, h]; rfl
  obtain ⟨n, hn⟩ : ∃ n, ls.length = n := ⟨_, rfl⟩
  rw [hn] at hsp hw2
  have hn1 : 0 < n := by rw [← hn]; exact List.length_pos_iff.2 hne
  have HQ0 : Hid (Q = preT [] (readT 0 (ls.drop 0))) := Lib.hid hQ.symm
  have Hw1 := Lib.hid hw1; have HN := Lib.hid hn; have Hsp := Lib.hid hsp
  clear hw1 hn hQ HT hne hsp
  have HBa := Lib.hid (bel1 w (.cells #[.slice none 0 0] 24))
  have RB := Lib.hid (Whole.new w w.heap.size 24 [.slice none 0 0] rfl)
  go_enter Tryz.func29, Tryz.ntmps29
  go_upto_region 1 with fail
  generalize w.alloc _ = wa at HBa RB ⊢
  have T0 := Lib.hid (Td.new wa)
  have hba := bel1 wa (.cells #[.slice none 0 0] 24)
  have HBb := Lib.hid hba
  have T1 : Hid (Tr wa ls none 0 [] [] ((wa.alloc (.cells #[.slice none 0 0] 24)).alloc (.cells (strs ls).toArray 9))) := Lib.hid ⟨T0.out.move (bel1 _ _), Whole.new _ _ _ _ (by simp)⟩
  clear hba T0
  go_wp2_with (first | (go_at_call 47; refine (Hsp.out _ (HMV.out.below (HBa.out.trans (HBb.out.mono HBa.out.size)))).mono ?_; rintro e w1 ⟨rfl, rfl⟩; refine Hid.out ?_))
  refine Lib.hid ?_
  go_wp2_with fail
  generalize (wa.alloc _).alloc _ = w1 at T1 ⊢
  clear HBb Hsp
  go_loopg [25] n (fun g iv wr => ∃ (j : Nat) (A : Option Addr) (c : Nat) (cs : List (List Value)) (ps : List Pk), Hid (j + g = n ∧ 0 < g) ∧ iv = .int .i64 j ∧ Hid (ps.length = j) ∧ Hid (Q = preT ps (readT j (ls.drop j))) ∧ Hid (Tr wa ls A c cs ps wr))
  case atStart => exact ⟨0, none, 0, [], [], Lib.hid ⟨Nat.zero_add _, hn1⟩, rfl, Lib.hid rfl, HQ0, T1⟩
  case round =>
    obtain ⟨j, A, c, cs, ps, Hj, rfl, Hps, HQ, T⟩ := hrel
    clear T1 HQ0
    have hj : j < n := by have := Hj.out; omega
    obtain ⟨a, ha⟩ : ∃ a, ls[j]? = some a := ⟨_, List.getElem?_eq_getElem (by have := HN.out; omega)⟩
    have hq : ls.drop j = a :: ls.drop (j + 1) := by
      rw [List.drop_eq_getElem_cons (by have := HN.out; omega)]
      congr 1
      rw [List.getElem?_eq_getElem (by have := HN.out; omega)] at ha
      injection ha
    rw [hq] at HQ
    have hla : a.length ≤ 20000 := by have := Hw1.out a (List.mem_of_getElem? ha); omega
    have hcell := T.out.words.cell j
    rw [show (strs ls)[j]? = some (.string ⟨a.toArray⟩) by simp [strs, ha]] at hcell
    have hwlt := T.out.words.lt
    clear hq ha
    by_cases hlast : j + 1 = n
    · have hjn : ((j : Int) == (n : Int) - 1) = true := by simp; omega
      have hd : ls.drop (j + 1) = [] := List.drop_eq_nil_of_le (by have := HN.out; omega)
      rw [hd, preT_last] at HQ
      clear hd
      by_cases ha0 : a = []
      · subst ha0
        have HP0 := Lib.hid (HPO.out ps (by rw [HQ.out, if_pos rfl]))
        have hck := rcheckTree_any ps _ A ps.length c wr T.out.d.tree T.out.d.cap.1 T.out.d.cap.2 (fun k hk => hk.2)
        generalize hz : ckTree ps = z at hck HP0
        have Hck := Lib.hid hck; clear hck hz
        have t0 := T.out.d.t.cell 0
        simp only [List.getElem?_cons_zero] at t0
        have tlt := T.out.d.t.lt
        by_cases z0 : z = 0
        · subst z0
          have HP : Hid (parseTree l = (ps, 0, 0)) := Lib.hid (by rw [HP0.out, if_pos rfl])
          go_wp2_with (first | (go_at_call 19; refine Hck.out.mono ?_; rintro e w2 ⟨rfl, hb2⟩; refine Hid.out ?_))
          refine Lib.hid ?_
          have T2 := Lib.hid (T.out.move hb2)
          clear hb2 t0 tlt
          have t0 := T2.out.d.t.cell 0
          simp only [List.getElem?_cons_zero] at t0
          have tlt := T2.out.d.t.lt
          have r0 := (RB.out.below T2.out.d.below RB.out.lt).cell 0
          have rf := (RB.out.below T2.out.d.below RB.out.lt).free 0
          simp only [List.getElem?_cons_zero] at r0
          have rlt := (RB.out.below T2.out.d.below RB.out.lt).lt
          go_wp2
          have hW := (RB.out.below T2.out.d.below RB.out.lt).set_ 0 (.slice A ps.length c)
          have hB := (HBa.out.trans (T2.out.d.below.mono HBa.out.size)).setCell (p := ⟨w.heap.size, 0, none⟩) (Nat.le_refl _) (.slice A ps.length c)
          have hRB := RB.out.lt
          have hT : RTree (w2.setCell ⟨w.heap.size, 0, none⟩ (.slice A ps.length c)) (fun i => w.heap.size ≤ i ∧ i < (w2.setCell ⟨w.heap.size, 0, none⟩ (.slice A ps.length c)).heap.size) A ps.length ps :=
            (T2.out.d.tree.keep fun q hq => (Far.set_ (D := fun i => i = w.heap.size) rfl 0 (.slice A ps.length c)).cell hq.2 (by have := hq.1; omega)).more fun i hi => ⟨by omega, by rw [set_len]; omega⟩
          simp only [List.set_cons_zero] at hW
          generalize World.setCell _ _ _ = wf at hW hB hT ⊢
          have e0 := hW.cell 0
          simp only [List.getElem?_cons_zero] at e0
          refine bodyPost_ret (v := .tuple #[.agg #[_], .int .i64 _, .int .i64 _]) (by simp [results, Tryz.results29, go_sem, e0]; exact ⟨rfl, rfl, rfl⟩) rfl ?_
          exact ⟨A, ps.length, c, by rw [HP.out]; rfl, by rw [HP.out]; exact hT, T2.out.d.cap.1, T2.out.d.cap.2, hB⟩
        · have HP : Hid (parseTree l = ([], ((0 : Nat)), z)) := Lib.hid (by rw [HP0.out, if_neg z0])
          have z1 : (z != 0) = true := by simpa using z0
          go_wp2_with (first | (go_at_call 19; refine Hck.out.mono ?_; rintro e w2 ⟨rfl, hb2⟩; refine Hid.out ?_))
          refine Lib.hid ?_
          have T2 := Lib.hid (T.out.move hb2)
          clear hb2 t0 tlt
          have r0 := (RB.out.below T2.out.d.below RB.out.lt).cell 0
          have rf := (RB.out.below T2.out.d.below RB.out.lt).free 0
          simp only [List.getElem?_cons_zero] at r0
          have rlt := (RB.out.below T2.out.d.below RB.out.lt).lt
          go_wp2
          have hW := (RB.out.below T2.out.d.below RB.out.lt).set_ 0 (.slice none 0 0)
          have hB := (HBa.out.trans (T2.out.d.below.mono HBa.out.size)).setCell (p := ⟨w.heap.size, 0, none⟩) (Nat.le_refl _) (.slice none 0 0)
          simp only [List.set_cons_zero] at hW
          generalize World.setCell _ _ _ = wf at hW hB ⊢
          have e0 := hW.cell 0
          simp only [List.getElem?_cons_zero] at e0
          refine bodyPost_ret (v := .tuple #[.agg #[_], .int .i64 _, .int .i64 _]) (by simp [results, Tryz.results29, go_sem, e0]; exact ⟨rfl, rfl, rfl⟩) rfl ?_
          exact TParsePost.none_ HP.out hB
      · have HP := Lib.hid (HPE.out j 1 (by rw [HQ.out, if_neg ha0]))
        have ha1 : (a != []) = true := by simpa using ha0
        have ha2 : a.isEmpty = false := by simpa using ha0
        have ha3 : (!a.isEmpty) = true := by simpa using ha0
        have r0 := (RB.out.below T.out.d.below RB.out.lt).cell 0
        have rf := (RB.out.below T.out.d.below RB.out.lt).free 0
        simp only [List.getElem?_cons_zero] at r0
        have rlt := (RB.out.below T.out.d.below RB.out.lt).lt
        go_wp2
        have hW := (RB.out.below T.out.d.below RB.out.lt).set_ 0 (.slice none 0 0)
        have hB := (HBa.out.trans (T.out.d.below.mono HBa.out.size)).setCell (p := ⟨w.heap.size, 0, none⟩) (Nat.le_refl _) (.slice none 0 0)
        simp only [List.set_cons_zero] at hW
        generalize World.setCell _ _ _ = wf at hW hB ⊢
        have e0 := hW.cell 0
        simp only [List.getElem?_cons_zero] at e0
        refine bodyPost_ret (v := .tuple #[.agg #[_], .int .i64 _, .int .i64 _]) (by simp [results, Tryz.results29, go_sem, e0]; exact ⟨rfl, rfl, rfl⟩) rfl ?_
        exact TParsePost.none_ HP.out hB
    · have hjn : ((j : Int) == (n : Int) - 1) = false := by simp; omega
      have hd : ls.drop (j + 1) ≠ [] := fun h => by have := List.drop_eq_nil_iff.1 h; have := HN.out; omega
      have HBAD := Lib.hid (fun e (h : parseLine a = .error e) => HPE.out j e (by rw [HQ.out, preT_bad hd h]))
      have HGOOD := Lib.hid (fun p (h : parseLine a = .ok p) => HQ.out.trans (preT_step hd h))
      clear hd HQ
      go_upto_block 2 with fail
      have W0 := Lib.hid (Whole.new wr wr.heap.size 107 (pad4 []) rfl)
      have HB0 := Lib.hid (bel1 wr (.cells (pad4 []).toArray 107))
      clear hcell hwlt
      obtain ⟨wo, rfl⟩ : ∃ x, x = wr := ⟨_, rfl⟩
      obtain ⟨gko, rfl⟩ : ∃ x, x = gk := ⟨_, rfl⟩
      go_cut [10] (fun rv wx => CutT a wo rv wx)
      case first =>
        go_wp2
        change Code.wp _ _ _ _ (wo.alloc (.cells (pad4 []).toArray 107))
        generalize wo.alloc _ = w0 at W0 HB0 ⊢
        clear hjn
        go_loopg [10, 40] 4 (fun g rv iv wx => ∃ (k : Nat) (ws : List Qm.W) (r : Qm.W), Hid (k + g = 4) ∧ iv = .int .i64 k ∧ rv = .string ⟨r.toArray⟩ ∧ Hid (ws.length = k) ∧ r.length ≤ 20000 ∧ Hid (cutK 4 [] a = cutK g ws r) ∧ Hid (Below wo.heap.size wo wx) ∧ Hid (Whole wx wo.heap.size 107 (pad4 ws)))
        case atStart => exact ⟨0, [], a, Lib.hid rfl, rfl, rfl, Lib.hid rfl, hla, Lib.hid rfl, HB0, W0⟩
        case round =>
          obtain ⟨k, ws, r, Hk, rfl, rfl, Hws, hrl, HK, HB, HW⟩ := hrel
          clear HB0 W0
          by_cases hk : k < 4
          · obtain ⟨g', rfl⟩ : ∃ g', gk = g' + 1 := ⟨gk - 1, by have := Hk.out; omega⟩
            have hc4 : ws.length < 4 := by have := Hws.out; omega
            have hpa := pad4_at hc4
            rw [Hws.out] at hpa
            have hps := fun x : Qm.W => pad4_set (a := x) hc4
            rw [Hws.out] at hps
            have HPA := Lib.hid hpa; have HPS := Lib.hid hps
            clear hpa hps hc4
            have T2 := Lib.hid (T.out.move HB.out)
            have hr2 : r.length < 4294967281 := by omega
            cases hc : cutAt (· == 32) r with
            | none =>
              have HP := Lib.hid (HBAD.out 1 (line_cut (cut4_no (by rw [HK.out, cutK_none hc]))))
              have Hcut := Lib.hid (cut32_none hc wr hr2 (HMV.out.below (HBa.out.trans (T2.out.d.below.mono HBa.out.size))))
              clear hc
              go_wp2_with (first | (go_at_call 43; refine Hcut.out.mono ?_; rintro e w2 ⟨rfl, hb2⟩; refine Hid.out ?_))
              refine Lib.hid ?_
              have HW2 := Lib.hid (HW.out.below hb2 HW.out.lt)
              have HB2 := Lib.hid (HB.out.trans (hb2.mono HB.out.size))
              clear hb2
              have c0 := HW2.out.cell k
              have f0 := HW2.out.free k
              rw [HPA.out] at c0
              have wlt2 := HW2.out.lt
              go_upto_region 15 with fail
              clear c0 f0 wlt2
              have HB3 := Lib.hid (HB2.out.setCell (p := ⟨wo.heap.size, k, none⟩) (Nat.le_refl _) (.string ⟨r.toArray⟩))
              have hw3 := HW2.out.set_ k (.string ⟨r.toArray⟩)
              rw [HPS.out] at hw3
              have HW3 := Lib.hid hw3
              clear hw3 HW2 HB2
              generalize w2.setCell _ _ = w3 at HB3 HW3 ⊢
              have T3 := Lib.hid (T.out.move HB3.out)
              have r0 := (RB.out.below T3.out.d.below RB.out.lt).cell 0
              have rf := (RB.out.below T3.out.d.below RB.out.lt).free 0
              simp only [List.getElem?_cons_zero] at r0
              have rlt := (RB.out.below T3.out.d.below RB.out.lt).lt
              go_wp2
              have hW := (RB.out.below T3.out.d.below RB.out.lt).set_ 0 (.slice none 0 0)
              have hB := (HBa.out.trans (T3.out.d.below.mono HBa.out.size)).setCell (p := ⟨w.heap.size, 0, none⟩) (Nat.le_refl _) (.slice none 0 0)
              simp only [List.set_cons_zero] at hW
              generalize World.setCell _ _ _ = wf at hW hB ⊢
              have e0 := hW.cell 0
              simp only [List.getElem?_cons_zero] at e0
              refine bodyPost_ret (v := .tuple #[.agg #[_], .int .i64 _, .int .i64 _]) (by simp [results, Tryz.results29, go_sem, e0]; exact ⟨rfl, rfl, rfl⟩) rfl ?_
              exact TParsePost.none_ HP.out hB
            | some t =>
              obtain ⟨x1, x, r'⟩ := t
              have HK2 : Hid (cutK 4 [] a = cutK g' (ws ++ [x1]) r') := Lib.hid (by rw [HK.out, cutK_some hc])
              have hrl2 : r'.length ≤ 20000 := by have := (of_cutAt_some hc).1; rw [this] at hrl; simp at hrl; omega
              have Hcut := Lib.hid (cut32_some hc wr hr2 (HMV.out.below (HBa.out.trans (T2.out.d.below.mono HBa.out.size))))
              clear hc
              go_wp2_with (first | (go_at_call 43; refine Hcut.out.mono ?_; rintro e w2 ⟨rfl, hb2⟩; refine Hid.out ?_))
              refine Lib.hid ?_
              have HW2 := Lib.hid (HW.out.below hb2 HW.out.lt)
              have HB2 := Lib.hid (HB.out.trans (hb2.mono HB.out.size))
              clear hb2
              have c0 := HW2.out.cell k
              have f0 := HW2.out.free k
              rw [HPA.out] at c0
              have wlt2 := HW2.out.lt
              go_upto_region 15 with fail
              clear c0 f0 wlt2
              have HB3 := Lib.hid (HB2.out.setCell (p := ⟨wo.heap.size, k, none⟩) (Nat.le_refl _) (.string ⟨x1.toArray⟩))
              have hw3 := HW2.out.set_ k (.string ⟨x1.toArray⟩)
              rw [HPS.out] at hw3
              have HW3 := Lib.hid hw3
              clear hw3 HW2 HB2
              generalize w2.setCell _ _ = w3 at HB3 HW3 ⊢
              have T3 := Lib.hid (T.out.move HB3.out)
              go_wp2
              go_roundg g'
              case measure => omega
              case rel => exact ⟨k + 1, ws ++ [x1], r', Lib.hid (by have := Hk.out; omega), by go_num, rfl, Lib.hid (by simp [Hws.out]), hrl2, HK2, HB3, HW3⟩
          · obtain rfl : k = 4 := by have := Hk.out; omega
            obtain rfl : gk = 0 := by have := Hk.out; omega
            obtain ⟨x1, x2, x3, x4, e1, e2⟩ := cut4_of (a := a) (r := r) (ws := ws) (by rw [HK.out]; rfl)
            subst e1
            have HC := Lib.hid e2
            clear e2
            go_wp2
            go_meet
            case rel => exact ⟨x1, x2, x3, x4, r, rfl, HC.out, HW.out, HB.out⟩
      case rest =>
        obtain ⟨a1, b1, c1, d1, y, rfl, h4, hw, hb⟩ := hcut
        have T2 := Lib.hid (T.out.move hb)
        have W2 := Lib.hid hw
        have HB2 := Lib.hid hb
        have HLN : Hid (a1.length + b1.length + c1.length + d1.length + y.length ≤ a.length) := Lib.hid (by rw [cut4_back h4]; simp; omega)
        have hln := HLN.out
        have Hn1 := Lib.hid (fun wx h => rwhole_l b1 wx (by omega) h)
        have Hn2 := Lib.hid (fun wx h => rwhole_l c1 wx (by omega) h)
        have Hnp := Lib.hid (fun wx h1 h2 h3 => rreadNeed_l y wx (by omega) h1 h2 h3)
        have HBN := Lib.hid (fun h => HBAD.out 1 (line_num h4 h))
        have HBP := Lib.hid (fun v k hv hk hn => HBAD.out (parseNd y).2 (line_need h4 (v := v) (k := k) hv hk hn))
        have HGD := Lib.hid (fun v k hv hk hn => HGOOD.out _ (line_good h4 (v := v) (k := k) hv hk hn))
        clear h4 HBAD HGOOD hw hb HB0 W0 hjn
        generalize number b1 = nb at Hn1 HBN HBP HGD
        generalize number c1 = nc at Hn2 HBN HBP HGD
        unfold NParsePost at Hnp
        generalize parseNd y = g at Hnp HBP HGD
        obtain ⟨gn, ge⟩ := g
        dsimp only at Hnp HBP HGD
        have s0 := W2.out.cell 0; have s1 := W2.out.cell 1; have s2 := W2.out.cell 2; have s3 := W2.out.cell 3
        simp only [strs, List.map_cons, List.map_nil, List.getElem?_cons_zero, List.getElem?_cons_succ] at s0 s1 s2 s3
        have slt := W2.out.lt
        go_wp2_with (first | (go_at_call 63; refine (Hn1.out _ (HLV.out.below (HBa.out.trans (T2.out.d.below.mono HBa.out.size)))).mono ?_; rintro e w3 ⟨v, rfl, hv, hb3⟩; refine Hid.out ?_))
        refine Lib.hid ?_
        have T3 := Lib.hid (T2.out.move hb3)
        have W3 := Lib.hid (W2.out.below hb3 W2.out.lt)
        have HV := Lib.hid hv
        clear hb3 hv s0 s1 s2 s3 slt
        have s0 := W3.out.cell 0; have s1 := W3.out.cell 1; have s2 := W3.out.cell 2; have s3 := W3.out.cell 3
        simp only [strs, List.map_cons, List.map_nil, List.getElem?_cons_zero, List.getElem?_cons_succ] at s0 s1 s2 s3
        have slt := W3.out.lt
        go_wp2_with (first | (go_at_call 63; refine (Hn2.out _ (HLV.out.below (HBa.out.trans (T3.out.d.below.mono HBa.out.size)))).mono ?_; rintro e w4 ⟨u, rfl, hu, hb4⟩; refine Hid.out ?_))
        refine Lib.hid ?_
        have T4 := Lib.hid (T3.out.move hb4)
        have W4 := Lib.hid (W3.out.below hb4 W3.out.lt)
        have HU := Lib.hid hu
        clear hb4 hu s0 s1 s2 s3 slt
        go_wp2_with (first | (go_at_call 64; refine (Hnp.out _ (HLV.out.below (HBa.out.trans (T4.out.d.below.mono HBa.out.size))) (HMV.out.below (HBa.out.trans (T4.out.d.below.mono HBa.out.size))) (HMX.out.below (HBa.out.trans (T4.out.d.below.mono HBa.out.size)))).mono ?_; rintro e w5 ⟨k, na, nf, no, D, q, dd, rfl, hrn, hb5⟩; refine Hid.out ?_))
        refine Lib.hid ?_
        have T5 := Lib.hid (T4.out.move hb5)
        have W5 := Lib.hid (W4.out.below hb5 W4.out.lt)
        obtain ⟨an, ao, av, as_, af, ab⟩ := na
        unfold ndRow at hrn ⊢
        dsimp only at hrn ⊢
        have HRN := Lib.hid hrn
        clear hrn hb5
        have hbx : Below w5.heap.size w5 (w5.alloc (.cells #[.int .i64 k, .string ⟨an.toArray⟩, .int .i64 ao, .int .i64 av, .int .i64 as_, .string ⟨af.toArray⟩, .bool ab, .string ⟨nf.toArray⟩, .bool no, .slice D q dd] 57)) := bel1 w5 _
        have T6 := Lib.hid (T5.out.move hbx)
        have W6 := Lib.hid (W5.out.below hbx W5.out.lt)
        have N6 := Lib.hid (Whole.new w5 w5.heap.size 57 [.int .i64 k, .string ⟨an.toArray⟩, .int .i64 ao, .int .i64 av, .int .i64 as_, .string ⟨af.toArray⟩, .bool ab, .string ⟨nf.toArray⟩, .bool no, .slice D q dd] rfl)
        have HRN6 := Lib.hid (HRN.out.under hbx fun i hi => hi.2)
        clear hbx
        rcases nb with _ | v'
        · have HP := Lib.hid (HBN.out (.inl rfl))
          simp only [Option.isSome_none]
          have r0 := (RB.out.below T6.out.d.below RB.out.lt).cell 0
          have rf := (RB.out.below T6.out.d.below RB.out.lt).free 0
          simp only [List.getElem?_cons_zero] at r0
          have rlt := (RB.out.below T6.out.d.below RB.out.lt).lt
          go_wp2
          have hW := (RB.out.below T6.out.d.below RB.out.lt).set_ 0 (.slice none 0 0)
          have hB := (HBa.out.trans (T6.out.d.below.mono HBa.out.size)).setCell (p := ⟨w.heap.size, 0, none⟩) (Nat.le_refl _) (.slice none 0 0)
          simp only [List.set_cons_zero] at hW
          generalize World.setCell _ _ _ = wf at hW hB ⊢
          have e0 := hW.cell 0
          simp only [List.getElem?_cons_zero] at e0
          refine bodyPost_ret (v := .tuple #[.agg #[_], .int .i64 _, .int .i64 _]) (by simp [results, Tryz.results29, go_sem, e0]; exact ⟨rfl, rfl, rfl⟩) rfl ?_
          exact TParsePost.none_ HP.out hB
        rcases nc with _ | u'
        · have HP := Lib.hid (HBN.out (.inr rfl))
          simp only [Option.isSome_none, Option.isSome_some]
          have r0 := (RB.out.below T6.out.d.below RB.out.lt).cell 0
          have rf := (RB.out.below T6.out.d.below RB.out.lt).free 0
          simp only [List.getElem?_cons_zero] at r0
          have rlt := (RB.out.below T6.out.d.below RB.out.lt).lt
          go_wp2
          have hW := (RB.out.below T6.out.d.below RB.out.lt).set_ 0 (.slice none 0 0)
          have hB := (HBa.out.trans (T6.out.d.below.mono HBa.out.size)).setCell (p := ⟨w.heap.size, 0, none⟩) (Nat.le_refl _) (.slice none 0 0)
          simp only [List.set_cons_zero] at hW
          generalize World.setCell _ _ _ = wf at hW hB ⊢
          have e0 := hW.cell 0
          simp only [List.getElem?_cons_zero] at e0
          refine bodyPost_ret (v := .tuple #[.agg #[_], .int .i64 _, .int .i64 _]) (by simp [results, Tryz.results29, go_sem, e0]; exact ⟨rfl, rfl, rfl⟩) rfl ?_
          exact TParsePost.none_ HP.out hB
        simp only [Option.isSome_some]
        by_cases g0 : ge ≠ 0
        · have HP := Lib.hid (HBP.out _ _ rfl rfl g0)
          have g0' : (ge != 0) = true := by simpa using g0
          have r0 := (RB.out.below T6.out.d.below RB.out.lt).cell 0
          have rf := (RB.out.below T6.out.d.below RB.out.lt).free 0
          simp only [List.getElem?_cons_zero] at r0
          have rlt := (RB.out.below T6.out.d.below RB.out.lt).lt
          go_wp2
          have hW := (RB.out.below T6.out.d.below RB.out.lt).set_ 0 (.slice none 0 0)
          have hB := (HBa.out.trans (T6.out.d.below.mono HBa.out.size)).setCell (p := ⟨w.heap.size, 0, none⟩) (Nat.le_refl _) (.slice none 0 0)
          simp only [List.set_cons_zero] at hW
          generalize World.setCell _ _ _ = wf at hW hB ⊢
          have e0 := hW.cell 0
          simp only [List.getElem?_cons_zero] at e0
          refine bodyPost_ret (v := .tuple #[.agg #[_], .int .i64 _, .int .i64 _]) (by simp [results, Tryz.results29, go_sem, e0]; exact ⟨rfl, rfl, rfl⟩) rfl ?_
          exact TParsePost.none_ HP.out hB
        obtain rfl : ge = 0 := Decidable.not_not.1 g0
        have HG := Lib.hid (HGD.out v' u' rfl rfl rfl)
        obtain rfl := HV.out v' rfl
        obtain rfl := HU.out u' rfl
        clear HBN HBP HGD g0 HV HU
        have s0 := W6.out.cell 0; have s1 := W6.out.cell 1; have s2 := W6.out.cell 2; have s3 := W6.out.cell 3
        simp only [strs, List.map_cons, List.map_nil, List.getElem?_cons_zero, List.getElem?_cons_succ] at s0 s1 s2 s3
        have slt := W6.out.lt
        have n0 := N6.out.cell 0; have n1 := N6.out.cell 1; have n2 := N6.out.cell 2; have n3 := N6.out.cell 3; have n4 := N6.out.cell 4; have n5 := N6.out.cell 5; have n6 := N6.out.cell 6; have n7 := N6.out.cell 7; have n8 := N6.out.cell 8; have n9 := N6.out.cell 9
        simp only [List.getElem?_cons_zero, List.getElem?_cons_succ] at n0 n1 n2 n3 n4 n5 n6 n7 n8 n9
        have nlt := N6.out.lt
        go_upto_region 25 with fail
        generalize w5.alloc _ = w6 at *
        go_upto_region 26 with fail
        have hb7 : Below w6.heap.size w6 (w6.alloc (.cells #[.string ⟨a1.toArray⟩, .int .i64 v, .int .i64 u, .slice none 0 0, .int .i64 k, .string ⟨an.toArray⟩, .int .i64 ao, .int .i64 av, .int .i64 as_, .string ⟨af.toArray⟩, .bool ab, .string ⟨nf.toArray⟩, .bool no, .slice D q dd] 59)) := bel1 w6 _
        have HB7 := Lib.hid hb7
        have T7 := Lib.hid (T6.out.move hb7)
        have W7 := Lib.hid (W6.out.below hb7 W6.out.lt)
        have P7 := Lib.hid (Whole.new w6 w6.heap.size 59 [.string ⟨a1.toArray⟩, .int .i64 v, .int .i64 u, .slice none 0 0, .int .i64 k, .string ⟨an.toArray⟩, .int .i64 ao, .int .i64 av, .int .i64 as_, .string ⟨af.toArray⟩, .bool ab, .string ⟨nf.toArray⟩, .bool no, .slice D q dd] rfl)
        have HRNX := Lib.hid (fun (wx : World) (hb : Below w6.heap.size w6 wx) => (HRN6.out.under hb fun i hi => by have := N6.out.lt; omega).more (S' := fun i => wa.heap.size + 1 ≤ i ∧ i < wx.heap.size ∧ (Value.slice A ps.length c).ownBlock ≠ some i) fun i hi => ⟨by have := T5.out.d.size; have := T4.out.d.size; omega, by have := N6.out.lt; have := hb.size; omega, fun e => by have := (T4.out.d.own.lt i e).2; omega⟩)
        have HOW6 := Lib.hid (fun i e => (T6.out.d.own.lt i e).2)
        have HAL : Hid (a1.length ≤ maxLen ∧ d1.length ≤ 140737488355328) := Lib.hid ⟨by unfold maxLen; omega, by omega⟩
        have hsz6 : wa.heap.size + 1 ≤ w6.heap.size := T6.out.d.size
        clear hb7 s0 s1 s2 s3 slt n0 n1 n2 n3 n4 n5 n6 n7 n8 n9 nlt W6 N6 HRN6 T5 W5 HRN T3 T4 W3 W4 T2 W2 T HB2
        have hlt7 := P7.out.lt
        generalize w6.alloc _ = w7 at *
        obtain ⟨i0, hi, hz0, hz1, hz2⟩ := info_parts package_info
        have Hi := Lib.hid hi; have Hz0 := Lib.hid hz0; have Hz1 := Lib.hid hz1; have Hz2 := Lib.hid hz2
        clear hi hz0 hz1 hz2
        have s0 := W7.out.cell 0; have s1 := W7.out.cell 1; have s2 := W7.out.cell 2; have s3 := W7.out.cell 3
        simp only [strs, List.map_cons, List.map_nil, List.getElem?_cons_zero, List.getElem?_cons_succ] at s0 s1 s2 s3
        have slt := W7.out.lt
        by_cases hd : d1 = []
        · subst hd
          have HPK : Hid (RPk w7 (fun i => wa.heap.size + 1 ≤ i ∧ i < w7.heap.size ∧ (Value.slice A ps.length c).ownBlock ≠ some i) [.string ⟨a1.toArray⟩, .int .i64 v, .int .i64 u, .slice none 0 0, .int .i64 k, .string ⟨an.toArray⟩, .int .i64 ao, .int .i64 av, .int .i64 as_, .string ⟨af.toArray⟩, .bool ab, .string ⟨nf.toArray⟩, .bool no, .slice D q dd] ⟨a1, v, u, fsOf [], gn⟩) := Lib.hid ⟨none, 0, 0, _, rfl, Nat.le_refl _, Nat.zero_le _, HAL.out.1, RWords.nil_, HRNX.out w7 HB7.out⟩
          have t0 := T7.out.d.t.cell 0
          have tf := T7.out.d.t.free 0
          simp only [List.getElem?_cons_zero] at t0
          have tlt := T7.out.d.t.lt
          have p0 := P7.out.cell 0; have p1 := P7.out.cell 1; have p2 := P7.out.cell 2; have p3 := P7.out.cell 3; have p4 := P7.out.cell 4; have p5 := P7.out.cell 5; have p6 := P7.out.cell 6; have p7 := P7.out.cell 7; have p8 := P7.out.cell 8; have p9 := P7.out.cell 9; have p10 := P7.out.cell 10; have p11 := P7.out.cell 11; have p12 := P7.out.cell 12; have p13 := P7.out.cell 13
          simp only [List.getElem?_cons_zero, List.getElem?_cons_succ] at p0 p1 p2 p3 p4 p5 p6 p7 p8 p9 p10 p11 p12 p13
          have plt := P7.out.lt
          have hb9 : Below w7.heap.size w7 (w7.alloc (.cells #[.string ⟨a1.toArray⟩, .int .i64 v, .int .i64 u, .slice none 0 0, .int .i64 k, .string ⟨an.toArray⟩, .int .i64 ao, .int .i64 av, .int .i64 as_, .string ⟨af.toArray⟩, .bool ab, .string ⟨nf.toArray⟩, .bool no, .slice D q dd] 59)) := (Below.refl _ w7).alloc (Nat.le_refl _) _
          have T9 := Lib.hid (T7.out.move hb9)
          have HPK9 := Lib.hid ((HPK.out.under hb9 (fun i hi => hi.2.1)).more (S' := fun i => wa.heap.size + 1 ≤ i ∧ i < (w7.alloc (.cells #[.string ⟨a1.toArray⟩, .int .i64 v, .int .i64 u, .slice none 0 0, .int .i64 k, .string ⟨an.toArray⟩, .int .i64 ao, .int .i64 av, .int .i64 as_, .string ⟨af.toArray⟩, .bool ab, .string ⟨nf.toArray⟩, .bool no, .slice D q dd] 59)).heap.size ∧ (Value.slice A ps.length c).ownBlock ≠ some i) fun i hi => ⟨hi.1, Nat.lt_of_lt_of_le hi.2.1 hb9.size, hi.2.2⟩)
          have HNC := Lib.hid (new_cells w7 w7.heap.size [.string ⟨a1.toArray⟩, .int .i64 v, .int .i64 u, .slice none 0 0, .int .i64 k, .string ⟨an.toArray⟩, .int .i64 ao, .int .i64 av, .int .i64 as_, .string ⟨af.toArray⟩, .bool ab, .string ⟨nf.toArray⟩, .bool no, .slice D q dd] 59 rfl)
          clear hb9
          have hpsl : ps.length ≤ 20001 := by have := Hps.out; omega
          go_wp2_with (at_builtin; refine wpList_append_own_at _ rfl _ _ 22 rfl (wa.heap.size + 1) 59 i0 (.agg #[.string ⟨#[]⟩, .int .i64 0, .int .i64 0, .slice none 0 0, .int .i64 0, .string ⟨#[]⟩, .int .i64 0, .int .i64 0, .int .i64 0, .string ⟨#[]⟩, .bool false, .string ⟨#[]⟩, .bool false, .slice none 0 0]) 14 176 Tryz.underlying22 Hi.out Hz0.out Hz1.out Hz2.out rfl (by decide) _ _ _ rfl T9.out.d.own ⟨w7.heap.size, 0, none⟩ 1 1 [.string ⟨a1.toArray⟩, .int .i64 v, .int .i64 u, .slice none 0 0, .int .i64 k, .string ⟨an.toArray⟩, .int .i64 ao, .int .i64 av, .int .i64 as_, .string ⟨af.toArray⟩, .bool ab, .string ⟨nf.toArray⟩, .bool no, .slice D q dd] rfl rfl HNC.out (by simp [Value.oneCell']) (by unfold maxLen; omega) (by omega) (by have := T9.out.d.size; omega) ?_)
          intro vv w9 hown9 hg9 _ hv9
          obtain ⟨A9, c9, hv', _, _, _⟩ := own_formK hown9
          subst hv'
          have K9 := T9.out.d.push HPK9.out hown9 hg9 (hv9.imp id fun e => by first | exact e | (rw [e]; simp))
          have hN := T9.out.d.t.grown hg9 (by intro e; have := (T9.out.d.own.lt _ e.symm).1; omega)
          have HK9 := Lib.hid (Tr.mk (ls := ls) K9 ((T9.out.words.grown hg9 (own_ne T9.out.d.own T9.out.words (by decide)).symm).far (by show wa.heap.size + 1 ≠ wa.heap.size; omega) _))
          clear t0 tf tlt p0 p1 p2 p3 p4 p5 p6 p7 p8 p9 p10 p11 p12 p13 plt K9 hown9 hg9 hv9
          have t0 := hN.cell 0
          have tf := hN.free 0
          simp only [List.getElem?_cons_zero] at t0
          have tlt := hN.lt
          clear hN
          go_wp2_with fail
          go_roundg (gko - 1)
          case measure => have := Hj.out; omega
          case rel => exact ⟨j + 1, A9, c9, _, _, Lib.hid (by have := Hj.out; omega), by go_num, Lib.hid (by simp [Hps.out]), Lib.hid HG.out, HK9⟩
        · have hd1 : (d1 != []) = true := by simpa using hd
          have hd2 : d1.isEmpty = false := by simpa using hd
          have hd3 : (!d1.isEmpty) = true := by simpa using hd
          have HF := Lib.hid (show fsOf d1 = splitB 44 d1 by unfold fsOf; rw [if_neg hd])
          have Hspl := Lib.hid (fun wx h => split_any ⟨d1.toArray⟩ 44 wx (by rw [bsz]; omega) h)
          rw [show (⟨d1.toArray⟩ : ByteArray).data.toList = d1 from rfl] at Hspl
          have hfs := splitB_le (c := 44) (l := d1)
          generalize splitB 44 d1 = fs at Hspl HF hfs
          have HFS := Lib.hid hfs; clear hfs hd
          have hlt6 : w6.heap.size < w7.heap.size := hlt7
          have hb8 : Below w6.heap.size w6 ((w7.setCell ⟨w6.heap.size, 3, none⟩ (.slice (some ⟨w7.heap.size, 0, none⟩) fs.length fs.length)).alloc (.cells (strs fs).toArray 9)) := (HB7.out.setCell (Nat.le_refl _) _).alloc (by rw [set_len]; exact HB7.out.size) _
          have HB8 := Lib.hid hb8
          have T8 := Lib.hid (T6.out.move hb8)
          have P8 := Lib.hid ((P7.out.set_ 3 (.slice (some ⟨w7.heap.size, 0, none⟩) fs.length fs.length)).alloc (.cells (strs fs).toArray 9))
          simp only [List.set_cons_zero, List.set_cons_succ] at P8
          have N8 := Lib.hid (Whole.new (w7.setCell ⟨w6.heap.size, 3, none⟩ (.slice (some ⟨w7.heap.size, 0, none⟩) fs.length fs.length)) w7.heap.size 9 (strs fs) (by rw [set_len]))
          have HN8 := Lib.hid (HRNX.out _ hb8)
          have q3 := P7.out.cell 3
          have q0 := P7.out.free 3
          simp only [List.getElem?_cons_zero, List.getElem?_cons_succ] at q3
          clear hb8
          go_upto_region 28 with (first | (go_at_call 47; refine (Hspl.out _ (HMV.out.below (HBa.out.trans (T7.out.d.below.mono HBa.out.size)))).mono ?_; rintro e w8 ⟨rfl, rfl⟩; refine Hid.out ?_))
          refine Lib.hid ?_
          go_upto_region 28 with fail
          generalize World.alloc _ _ = w8 at HB8 T8 P8 N8 HN8 ⊢
          have hfb : w6.heap.size < w7.heap.size := hlt7
          clear q3 q0 s0 s1 s2 s3 slt hlt6 hlt7 W7 T7 P7 HRNX
          generalize w7.heap.size = fb at P8 N8 hfb ⊢
          have HPK : Hid (RPk w8 (fun i => wa.heap.size + 1 ≤ i ∧ i < w8.heap.size ∧ (Value.slice A ps.length c).ownBlock ≠ some i) [.string ⟨a1.toArray⟩, .int .i64 v, .int .i64 u, .slice (some ⟨fb, 0, none⟩) fs.length fs.length, .int .i64 k, .string ⟨an.toArray⟩, .int .i64 ao, .int .i64 av, .int .i64 as_, .string ⟨af.toArray⟩, .bool ab, .string ⟨nf.toArray⟩, .bool no, .slice D q dd] ⟨a1, v, u, fsOf d1, gn⟩) := Lib.hid (by
            rw [HF.out]
            exact ⟨some ⟨fb, 0, none⟩, fs.length, fs.length, _, rfl, Nat.le_refl _, by have := HFS.out.2; unfold maxLen; omega, HAL.out.1, ⟨Whole.row N8.out ⟨by omega, N8.out.lt, fun e => by have := HOW6.out _ e; omega⟩ (strs_len fs), fun f hf => by have := HFS.out.1 f hf; unfold maxLen; omega⟩, HN8.out⟩)
          have t0 := T8.out.d.t.cell 0
          have tf := T8.out.d.t.free 0
          simp only [List.getElem?_cons_zero] at t0
          have tlt := T8.out.d.t.lt
          have p0 := P8.out.cell 0; have p1 := P8.out.cell 1; have p2 := P8.out.cell 2; have p3 := P8.out.cell 3; have p4 := P8.out.cell 4; have p5 := P8.out.cell 5; have p6 := P8.out.cell 6; have p7 := P8.out.cell 7; have p8 := P8.out.cell 8; have p9 := P8.out.cell 9; have p10 := P8.out.cell 10; have p11 := P8.out.cell 11; have p12 := P8.out.cell 12; have p13 := P8.out.cell 13
          simp only [List.getElem?_cons_zero, List.getElem?_cons_succ] at p0 p1 p2 p3 p4 p5 p6 p7 p8 p9 p10 p11 p12 p13
          have plt := P8.out.lt
          have hb9 : Below w8.heap.size w8 (w8.alloc (.cells #[.string ⟨a1.toArray⟩, .int .i64 v, .int .i64 u, .slice (some ⟨fb, 0, none⟩) fs.length fs.length, .int .i64 k, .string ⟨an.toArray⟩, .int .i64 ao, .int .i64 av, .int .i64 as_, .string ⟨af.toArray⟩, .bool ab, .string ⟨nf.toArray⟩, .bool no, .slice D q dd] 59)) := (Below.refl _ w8).alloc (Nat.le_refl _) _
          have T9 := Lib.hid (T8.out.move hb9)
          have HPK9 := Lib.hid ((HPK.out.under hb9 (fun i hi => hi.2.1)).more (S' := fun i => wa.heap.size + 1 ≤ i ∧ i < (w8.alloc (.cells #[.string ⟨a1.toArray⟩, .int .i64 v, .int .i64 u, .slice (some ⟨fb, 0, none⟩) fs.length fs.length, .int .i64 k, .string ⟨an.toArray⟩, .int .i64 ao, .int .i64 av, .int .i64 as_, .string ⟨af.toArray⟩, .bool ab, .string ⟨nf.toArray⟩, .bool no, .slice D q dd] 59)).heap.size ∧ (Value.slice A ps.length c).ownBlock ≠ some i) fun i hi => ⟨hi.1, Nat.lt_of_lt_of_le hi.2.1 hb9.size, hi.2.2⟩)
          have HNC := Lib.hid (new_cells w8 w8.heap.size [.string ⟨a1.toArray⟩, .int .i64 v, .int .i64 u, .slice (some ⟨fb, 0, none⟩) fs.length fs.length, .int .i64 k, .string ⟨an.toArray⟩, .int .i64 ao, .int .i64 av, .int .i64 as_, .string ⟨af.toArray⟩, .bool ab, .string ⟨nf.toArray⟩, .bool no, .slice D q dd] 59 rfl)
          clear hb9
          have hpsl : ps.length ≤ 20001 := by have := Hps.out; omega
          go_wp2_with (at_builtin; refine wpList_append_own_at _ rfl _ _ 22 rfl (wa.heap.size + 1) 59 i0 (.agg #[.string ⟨#[]⟩, .int .i64 0, .int .i64 0, .slice none 0 0, .int .i64 0, .string ⟨#[]⟩, .int .i64 0, .int .i64 0, .int .i64 0, .string ⟨#[]⟩, .bool false, .string ⟨#[]⟩, .bool false, .slice none 0 0]) 14 176 Tryz.underlying22 Hi.out Hz0.out Hz1.out Hz2.out rfl (by decide) _ _ _ rfl T9.out.d.own ⟨w8.heap.size, 0, none⟩ 1 1 [.string ⟨a1.toArray⟩, .int .i64 v, .int .i64 u, .slice (some ⟨fb, 0, none⟩) fs.length fs.length, .int .i64 k, .string ⟨an.toArray⟩, .int .i64 ao, .int .i64 av, .int .i64 as_, .string ⟨af.toArray⟩, .bool ab, .string ⟨nf.toArray⟩, .bool no, .slice D q dd] rfl rfl HNC.out (by simp [Value.oneCell']) (by unfold maxLen; omega) (by omega) (by have := T9.out.d.size; omega) ?_)
          intro vv w9 hown9 hg9 _ hv9
          obtain ⟨A9, c9, hv', _, _, _⟩ := own_formK hown9
          subst hv'
          have K9 := T9.out.d.push HPK9.out hown9 hg9 (hv9.imp id fun e => by first | exact e | (rw [e]; simp))
          have hN := T9.out.d.t.grown hg9 (by intro e; have := (T9.out.d.own.lt _ e.symm).1; omega)
          have HK9 := Lib.hid (Tr.mk (ls := ls) K9 ((T9.out.words.grown hg9 (own_ne T9.out.d.own T9.out.words (by decide)).symm).far (by show wa.heap.size + 1 ≠ wa.heap.size; omega) _))
          clear t0 tf tlt p0 p1 p2 p3 p4 p5 p6 p7 p8 p9 p10 p11 p12 p13 plt K9 hown9 hg9 hv9
          have t0 := hN.cell 0
          have tf := hN.free 0
          simp only [List.getElem?_cons_zero] at t0
          have tlt := hN.lt
          clear hN
          go_wp2_with fail
          go_roundg (gko - 1)
          case measure => have := Hj.out; omega
          case rel => exact ⟨j + 1, A9, c9, _, _, Lib.hid (by have := Hj.out; omega), by go_num, Lib.hid (by simp [Hps.out]), Lib.hid HG.out, HK9⟩
end Go.Proofs.YthpkffeiehnamaaGreatDoor

/- Sets of members, and what may be: in plain words (no program in sight). -/
namespace Go.Proofs.YthpkffeiehnamaaGreatDoor
open Go.RowKit Qm

structure Mem where
  pl : Int
  on : List Bool
deriving DecidableEq

/-- The package at a place. -/
def pkOf (ps : List Pk) (i : Int) : Pk := ps.getD i.toNat ⟨[], 0, 0, [], Nd.zero⟩
def badPl : Option Int → Int → Bool
  | none, _ => false
  | some q, p => decide (p ≤ q)
def ckMs (ps : List Pk) : Option Int → List Mem → Int
  | _, [] => 0
  | prev, m :: r => if m.pl < 0 ∨ (ps.length : Int) ≤ m.pl then 5 else if badPl prev m.pl = true then 6 else if m.on.length ≠ (pkOf ps m.pl).fs.length then 4 else ckMs ps (some m.pl) r
def ckSet (ps : List Pk) (l : List Mem) : Int := if ckTree ps ≠ 0 then ckTree ps else ckMs ps none l

theorem ckMs_step {ps : List Pk} {l : List Mem} {j : Nat} {m : Mem} (h : l[j]? = some m) :
    ckMs ps (prevOf (l.map Mem.pl) j) (l.drop j) = if m.pl < 0 ∨ (ps.length : Int) ≤ m.pl then 5 else if badPl (prevOf (l.map Mem.pl) j) m.pl = true then 6 else if m.on.length ≠ (pkOf ps m.pl).fs.length then 4 else ckMs ps (prevOf (l.map Mem.pl) (j + 1)) (l.drop (j + 1)) := by
  rw [prevOf_succ (l := l.map Mem.pl) (x := m.pl) (by rw [List.getElem?_map, h]; rfl)]
  obtain ⟨hj, rfl⟩ := List.getElem?_eq_some_iff.1 h
  rw [List.drop_eq_getElem_cons hj]
  rfl
theorem ckMs_done {ps : List Pk} {l : List Mem} {j : Nat} (h : l.length ≤ j) {p : Option Int} : ckMs ps p (l.drop j) = 0 := by
  rw [List.drop_eq_nil_of_le h]; rfl
/-! ### what an atom asks of a member -/
/-! ### whether a need holds -/
/-! ### wishes -/
structure Ws where
  ts : List At
  ins : List Mem
  ms : List Int
  on : List (Int × Int)
/-! ### less is asked -/
end Go.Proofs.YthpkffeiehnamaaGreatDoor
