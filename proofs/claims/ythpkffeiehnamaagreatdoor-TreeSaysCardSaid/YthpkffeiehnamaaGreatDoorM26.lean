/- Parts of the proof: walks and plain laws, side by side. -/
import Derived.Test.YthpkffeiehnamaaGreatDoorM25
import Derived.Test.YthpkffeiehnamaaGreatDoorM24
set_option linter.unusedVariables false
set_option linter.unusedSimpArgs false
set_option linter.unusedSectionVars false
/- quartermasterref.CheckTree, walked. -/
namespace Go.Proofs.YthpkffeiehnamaaGreatDoor
open Go.RowKit Qm

set_option maxRecDepth 100000 in
set_option maxHeartbeats 3200000 in
theorem rcheckTree_any (ps : List Pk) (S : Nat → Prop) (A : Option Addr) (n c : Nat) (w : World) (hT : RTree w S A n ps) (hnc : n ≤ c) (hc : c ≤ maxLen) (hS : ∀ k, S k → k < w.heap.size) :
    Calls Tryz.prog 19 #[.agg #[.slice A n c]] w fun e w' => e = .returned (.int .i64 (ckTree ps)) ∧ Below w.heap.size w w' := by
  have hl := hT.len
  have HK : Hid (ckTree ps = if 8 < ps.length then 2 else ckT none ps.length ps) := Lib.hid rfl
  generalize ckTree ps = R at HK ⊢
  have HT := Lib.hid hT; have HS := Lib.hid hS; clear hT hS
  have X0 := Lib.hid (Tx.new w A n c)
  unfold maxLen at hc
  by_cases n8 : (8 : Int) < n
  · go_enter Tryz.func19, Tryz.ntmps19
    go_wp2
    go_ret
    exact ⟨ret_int (by rw [HK.out, if_pos (by omega)]), X0.out.below⟩
  have n8' : decide ((8 : Int) < n) = false := decide_eq_false n8
  have HK1 : Hid (R = ckT none n ps) := Lib.hid (by rw [HK.out, if_neg (by omega), hl])
  clear HK
  go_enter Tryz.func19, Tryz.ntmps19
  go_wp2
  go_loopg [3, 19] n (fun g fv iv wr => ∃ (j m : Nat), Hid (j + g = n) ∧ iv = .int .i64 j ∧ fv = .int .i64 m ∧ n + m ≤ 14 ∧ Hid (ckT none n ps = ckT (prevOf ps j) (n + m) (ps.drop j)) ∧ Hid (Tx w A n c wr))
  case atStart => exact ⟨0, 0, Lib.hid (Nat.zero_add _), rfl, rfl, by omega, Lib.hid rfl, X0⟩
  case round =>
    obtain ⟨j, m, Hj, rfl, rfl, hm, Hcl, XR⟩ := hrel
    have hJ2 : ctJ w A n c ps _ := ‹∀ (k : Nat) (a' : Act) (w' : World), _ → _›
    by_cases hj : j < n
    · exact rct_round ps S A n c w HT hnc hc HS R HK1 gk wr _ _ _ _ _ _ _ _ _ _ _ _ _ _ _ _ _ _ _ _ _ _ _ _ _ _ _ _ _ _ _ _ _ _ _ _ _ _ _ _ _ _ _ _ _ _ _ _ _ _ _ _ _ _ _ _ _ _ _ _ _ _ _ _ _ _ _ _ _ _ _ _ _ _ _ _ _ _ _ _ _ _ _ _ _ _ _ _ _ _ _ _ _ _ _ _ _ _ _ _ _ _ _ _ _ _ _ _ _ _ _ _ _ _ _ _ _ _ _ _ _ _ _ _ _ _ _ _ _ _ _ hJ2 (by assumption) j m Hj hm Hcl XR hj
    · obtain rfl : n = j := by have := Hj.out; omega
      clear hJ2
      go_wp2
      go_ret
      exact ⟨ret_int (by rw [HK1.out, Hcl.out, ckT_done (by omega)]), XR.out.below⟩
end Go.Proofs.YthpkffeiehnamaaGreatDoor

/- quartermasterref.ReadNeed, a round of its loop: a closing bracket. -/
namespace Go.Proofs.YthpkffeiehnamaaGreatDoor
open Go.RowKit Qm

set_option maxRecDepth 100000 in
set_option maxHeartbeats 12800000 in
theorem rn_shut (s : ByteArray) (w : World) (hs0 : s.size ≤ 20000) (HSZ : Hid (s.size = s.data.toList.length)) (HLV : Hid (LaidV w)) (HMV : Hid (MaxV w)) (R : Nd × Int) (ws : List Qm.W) (Hw1 : Hid (∀ (x : Qm.W), x ∈ ws → List.length x ≤ s.size)) (Q : Option Nd) (HT : Hid (stkTold Q = R)) (n : Nat) (hw2 : n ≤ s.size + 1) (HN : Hid (ws.length = n)) (gk : Nat) (wr : World) (u3 u10 u11 u12 u13 u14 u19 u20 u21 u22 u23 u24 u25 u26 u27 u28 u29 u30 u31 u32 u33 u34 u35 u36 u37 u38 u39 u40 u41 u42 u43 u44 u45 u46 u47 u48 u49 u50 u51 u52 u53 u54 u55 u56 u57 u58 u59 u60 u61 u62 u63 u64 u65 u66 u67 u68 u69 u70 u71 u72 u73 u74 u75 u76 u77 u78 u79 u80 u81 u82 u83 u84 u85 u86 u87 u88 u89 u90 u91 u92 u93 u94 u95 u96 u97 u98 u99 u100 u101 u102 u103 u104 u105 u106 u107 u108 u109 u110 u111 u112 u113 u114 u115 u116 u117 u118 u119 u120 u121 u122 u123 u124 u125 u126 u127 u128 u129 u130 u131 u132 u133 u134 u135 u136 u137 u138 u139 u140 u141 u142 u143 u144 u145 u146 u147 u148 u149 u150 u151 u152 u153 u154 u155 u156 u157 u158 u159 u160 u161 : Value) (J : Nat → Act → World → Prop) (K K1 : Act → World → Prop) (hJ : rnJ s w ws Q n J) (hK : ∀ (a' : Act) (w' : World), Handed J gk a' w' → K a' w') (j : Nat) (Hj : Hid (j + gk = n)) (fs : List Fr) (hs : List Hd) (A : Option Addr) (c : Nat) (HA : Hid (Ra w ws j Q fs hs A c wr)) (hj : j < n)
    (hsel : ∀ a, ws[j]? = some a → a = [41]) :
    Code.wp Tryz.prog (roundOf Tryz.f64) (Exit.then K (Exit.inBlock 0 (Exit.then K1 (bodyPost Tryz.prog Tryz.f64 (fun e w' => RNPost w R e w'))))) (rnFrame s w n u3 (.int .i64 j) u10 u11 u12 u13 u14 u19 u20 u21 u22 u23 u24 u25 u26 u27 u28 u29 u30 u31 u32 u33 u34 u35 u36 u37 u38 u39 u40 u41 u42 u43 u44 u45 u46 u47 u48 u49 u50 u51 u52 u53 u54 u55 u56 u57 u58 u59 u60 u61 u62 u63 u64 u65 u66 u67 u68 u69 u70 u71 u72 u73 u74 u75 u76 u77 u78 u79 u80 u81 u82 u83 u84 u85 u86 u87 u88 u89 u90 u91 u92 u93 u94 u95 u96 u97 u98 u99 u100 u101 u102 u103 u104 u105 u106 u107 u108 u109 u110 u111 u112 u113 u114 u115 u116 u117 u118 u119 u120 u121 u122 u123 u124 u125 u126 u127 u128 u129 u130 u131 u132 u133 u134 u135 u136 u137 u138 u139 u140 u141 u142 u143 u144 u145 u146 u147 u148 u149 u150 u151 u152 u153 u154 u155 u156 u157 u158 u159 u160 u161) wr := by
  have hb0 := HA.out.bo.h.cell 0
  have hb1 := HA.out.bo.o.cell 0
  simp only [List.getElem?_cons_zero] at hb0 hb1
  have hblt := HA.out.bo.h.lt
  obtain ⟨a, ha⟩ : ∃ a, ws[j]? = some a := ⟨_, List.getElem?_eq_getElem (by have := HN.out; omega)⟩
  have hq : Q = STK fs (a :: ws.drop (j + 1)) := by
    rw [HA.out.q, List.drop_eq_getElem_cons (by have := HN.out; omega)]
    congr 2
    rw [List.getElem?_eq_getElem (by have := HN.out; omega)] at ha
    injection ha
  have hla : a.length ≤ 20000 := by have := Hw1.out a (List.mem_of_getElem? ha); omega
  have hcell := HA.out.rw_.words.cell j
  rw [show (strs ws)[j]? = some (.string ⟨a.toArray⟩) by simp [strs, ha]] at hcell
  have hwlt := HA.out.rw_.words.lt
  have HQ := Lib.hid hq
  have hsl := hsel a ha
  clear hq ha hsel
  obtain ⟨i0, hi, hz0, hz1, hz2⟩ : ∃ i0, Tryz.prog.info? 57 = some i0 ∧ i0.zero = some (.agg #[.int .i64 0, .string ⟨#[]⟩, .int .i64 0, .int .i64 0, .int .i64 0, .string ⟨#[]⟩, .bool false, .string ⟨#[]⟩, .bool false, .slice none 0 0]) ∧ i0.size = 10 ∧ i0.bytes = 120 := by
    have h := need_info2
    cases hh : Tryz.prog.info? 57 with
    | none => rw [hh] at h; simp at h
    | some i => rw [hh] at h; simp at h; exact ⟨i, rfl, h.1, h.2.1, h.2.2⟩
  have Hi := Lib.hid hi; have Hz0 := Lib.hid hz0; have Hz1 := Lib.hid hz1; have Hz2 := Lib.hid hz2
  clear hi hz0 hz1 hz2
  unfold rnJ rnFrame at hJ
  unfold rnFrame
  show Code.wp Tryz.prog (Code.seq _ _) _ _ _
  subst hsl
  rw [STK_cons, if_pos rfl] at HQ
  cases fs with
  | nil =>
    have HQ0 : Hid (Q = none) := Lib.hid (by rw [HQ.out]; rfl)
    simp only [List.length_nil] at hb1
    go_wp2_with (first | (go_at_call 96; refine (rnbad_any _).mono ?_; rintro e wb ⟨rfl, hbb⟩; refine Hid.out ?_))
    refine Lib.hid ?_
    have HRW := Lib.hid (Rw.below (HA.out.rw_) hbb)
    clear hbb
    have z0 := HRW.out.res.cell 0; have z1 := HRW.out.res.cell 1; have z2 := HRW.out.res.cell 2; have z3 := HRW.out.res.cell 3; have z4 := HRW.out.res.cell 4; have z5 := HRW.out.res.cell 5; have z6 := HRW.out.res.cell 6; have z7 := HRW.out.res.cell 7; have z8 := HRW.out.res.cell 8; have z9 := HRW.out.res.cell 9
    have y0 := HRW.out.res.free 0; have y1 := HRW.out.res.free 1; have y2 := HRW.out.res.free 2; have y3 := HRW.out.res.free 3; have y4 := HRW.out.res.free 4; have y5 := HRW.out.res.free 5; have y6 := HRW.out.res.free 6; have y7 := HRW.out.res.free 7; have y8 := HRW.out.res.free 8; have y9 := HRW.out.res.free 9
    simp only [List.getElem?_cons_zero, List.getElem?_cons_succ] at z0 z1 z2 z3 z4 z5 z6 z7 z8 z9
    have hz9 := HRW.out.res.lt
    go_wp2_with fail
    obtain ⟨wz, hwz, hW, hF, hsz⟩ := store10 HRW.out.res rfl (.int .i64 0) (.string ⟨#[]⟩) (.int .i64 0) (.int .i64 0) (.int .i64 0) (.string ⟨#[]⟩) (.bool false) (.string ⟨#[]⟩) (.bool false) (.slice none 0 0)
    rw [hwz]
    clear hwz
    have HBEL := far_ownB HRW.out.bel hF (Nat.le_refl _)
    have e0 := hW.cell 0; have e1 := hW.cell 1; have e2 := hW.cell 2; have e3 := hW.cell 3; have e4 := hW.cell 4; have e5 := hW.cell 5; have e6 := hW.cell 6; have e7 := hW.cell 7; have e8 := hW.cell 8; have e9 := hW.cell 9
    simp only [List.getElem?_cons_zero, List.getElem?_cons_succ] at e0 e1 e2 e3 e4 e5 e6 e7 e8 e9
    refine bodyPost_ret (v := .tuple #[.agg #[_, _, _, _, _, _, _, _, _, _], .int .i64 _]) (by simp [results, Tryz.results64, go_sem, e0, e1, e2, e3, e4, e5, e6, e7, e8, e9]; exact ⟨⟨rfl, rfl, rfl, rfl, rfl, rfl, rfl, rfl, rfl, rfl⟩, rfl⟩) rfl ?_
    unfold RNPost
    exact ⟨0, At.zero, [], false, none, 0, 0, by rw [← HT.out, HQ0.out]; rfl, by rw [← HT.out, HQ0.out]; exact RNd.zero _ _, HBEL⟩
  | cons g gs =>
    obtain ⟨hd, hs', rfl⟩ : ∃ hd hs', hs = hd :: hs' := by
      cases hs with
      | nil => exact absurd HA.out.bo.op.kids (by simp [KidsOk])
      | cons hd hs' => exact ⟨hd, hs', rfl⟩
    obtain ⟨b, rfl⟩ := own_block HA.out.bo.op.own (by simp)
    have HSW := Lib.hid (fun o => HA.out.shutw o)
    have htop := fun i hi => own_top (i := i) HA.out.bo.op.own (frows_len HA.out.bo.op.kids.2.len) hi
    have hblt2 := (HA.out.bo.op.own.lt b rfl).2
    obtain ⟨hmc, hcm⟩ : (gs.length + 1 ≤ c) ∧ c ≤ 9223372036854775807 := by
      obtain ⟨A', c', he, k1, k2, _⟩ := own_formK HA.out.bo.op.own
      injection he with _ _ e2
      subst e2
      unfold maxLen at k2
      exact ⟨k1, k2⟩
    have hbne : b ≠ w.heap.size + 1 := by have := (HA.out.bo.op.own.lt b rfl).1; omega
    have hbo4 := HA.out.bo.o.lt
    have hbof := HA.out.bo.o.free 0
    have hgs : gs.length ≤ 4 := by have := HA.out.few; simp at this; omega
    have hys := HA.out.ys
    have HQP : Hid (Q = putS STK g.shut gs (ws.drop (j + 1))) := HQ
    have hgl := HA.out.bo.op.kids.1
    obtain ⟨gk1, gf1, gn1, gy1⟩ := g
    obtain ⟨A2, c2⟩ := hd
    simp only [frow, ndRow, At.zero] at htop
    unfold frow ndRow At.zero at HSW
    simp only [List.length_cons] at hb1
    obtain ⟨m, hm⟩ : ∃ m, gs.length = m := ⟨_, rfl⟩
    rw [hm] at htop hb1 hgs hmc
    have hmc2 : (m : Int) ≤ (c : Int) := by omega
    have hmc3 : m ≤ c := by omega
    have hmc4 : ¬ c = 0 := by omega
    have z0 := (htop 0 (by decide)).1; have z1 := (htop 1 (by decide)).1; have z2 := (htop 2 (by decide)).1; have z3 := (htop 3 (by decide)).1; have z4 := (htop 4 (by decide)).1; have z5 := (htop 5 (by decide)).1; have z6 := (htop 6 (by decide)).1; have z7 := (htop 7 (by decide)).1; have z8 := (htop 8 (by decide)).1; have z9 := (htop 9 (by decide)).1
    simp only [List.getElem?_cons_zero, List.getElem?_cons_succ, Nat.add_zero] at z0 z1 z2 z3 z4 z5 z6 z7 z8 z9
    have henter : ∀ (args : Array Value) (W : World), (callFunc 97 args).run Tryz.prog W = .ok (.enter 97 args) W := fun args W => by kernel_rfl
    clear htop
    have HM := Lib.hid hm; clear hm
    have hsw := HSW.out (.cells #[.int .i64 gk1, .string ⟨#[]⟩, .int .i64 0, .int .i64 0, .int .i64 0, .string ⟨#[]⟩, .bool false, .string ⟨gf1.toArray⟩, .bool gn1, .slice A2 gy1.length c2] 57)
    rw [HM.out] at hsw
    have Hput := Lib.hid (rput_any _ _ hsw.1 hsw.2.1 hsw.2.2 HQP.out (by rw [HM.out]; omega) (fun f hf => hys f (List.mem_cons_of_mem _ hf)) (by omega))
    clear hsw hys HSW hgl
    go_wp2_with (first | (go_at_call 97; refine Hput.out.mono ?_; rintro e wp ⟨rfl, hst⟩; refine Hid.out ?_))
    refine Lib.hid ?_
    have HST := Lib.hid hst
    clear hst
    go_wp2_with fail
    go_roundg (gk - 1)
    case measure => have := Hj.out; omega
    case rel => exact ⟨j + 1, Lib.hid (by have := Hj.out; omega), by go_num, HST⟩
end Go.Proofs.YthpkffeiehnamaaGreatDoor

/- quartermasterref.ReadNeed, a round of its loop: too much is open; an opening bracket. -/
namespace Go.Proofs.YthpkffeiehnamaaGreatDoor
open Go.RowKit Qm

set_option maxRecDepth 100000 in
set_option maxHeartbeats 12800000 in
theorem rn_few (s : ByteArray) (w : World) (hs0 : s.size ≤ 20000) (HSZ : Hid (s.size = s.data.toList.length)) (HLV : Hid (LaidV w)) (HMV : Hid (MaxV w)) (R : Nd × Int) (ws : List Qm.W) (Hw1 : Hid (∀ (x : Qm.W), x ∈ ws → List.length x ≤ s.size)) (Q : Option Nd) (HT : Hid (stkTold Q = R)) (n : Nat) (hw2 : n ≤ s.size + 1) (HN : Hid (ws.length = n)) (gk : Nat) (wr : World) (u3 u10 u11 u12 u13 u14 u19 u20 u21 u22 u23 u24 u25 u26 u27 u28 u29 u30 u31 u32 u33 u34 u35 u36 u37 u38 u39 u40 u41 u42 u43 u44 u45 u46 u47 u48 u49 u50 u51 u52 u53 u54 u55 u56 u57 u58 u59 u60 u61 u62 u63 u64 u65 u66 u67 u68 u69 u70 u71 u72 u73 u74 u75 u76 u77 u78 u79 u80 u81 u82 u83 u84 u85 u86 u87 u88 u89 u90 u91 u92 u93 u94 u95 u96 u97 u98 u99 u100 u101 u102 u103 u104 u105 u106 u107 u108 u109 u110 u111 u112 u113 u114 u115 u116 u117 u118 u119 u120 u121 u122 u123 u124 u125 u126 u127 u128 u129 u130 u131 u132 u133 u134 u135 u136 u137 u138 u139 u140 u141 u142 u143 u144 u145 u146 u147 u148 u149 u150 u151 u152 u153 u154 u155 u156 u157 u158 u159 u160 u161 : Value) (J : Nat → Act → World → Prop) (K K1 : Act → World → Prop) (hJ : rnJ s w ws Q n J) (hK : ∀ (a' : Act) (w' : World), Handed J gk a' w' → K a' w') (j : Nat) (Hj : Hid (j + gk = n)) (fs : List Fr) (hs : List Hd) (A : Option Addr) (c : Nat) (HA : Hid (Ra w ws j Q fs hs A c wr)) (hj : j < n)
    (hsel : ∀ a, ws[j]? = some a → a ≠ [41] ∧ fs.length = 4) :
    Code.wp Tryz.prog (roundOf Tryz.f64) (Exit.then K (Exit.inBlock 0 (Exit.then K1 (bodyPost Tryz.prog Tryz.f64 (fun e w' => RNPost w R e w'))))) (rnFrame s w n u3 (.int .i64 j) u10 u11 u12 u13 u14 u19 u20 u21 u22 u23 u24 u25 u26 u27 u28 u29 u30 u31 u32 u33 u34 u35 u36 u37 u38 u39 u40 u41 u42 u43 u44 u45 u46 u47 u48 u49 u50 u51 u52 u53 u54 u55 u56 u57 u58 u59 u60 u61 u62 u63 u64 u65 u66 u67 u68 u69 u70 u71 u72 u73 u74 u75 u76 u77 u78 u79 u80 u81 u82 u83 u84 u85 u86 u87 u88 u89 u90 u91 u92 u93 u94 u95 u96 u97 u98 u99 u100 u101 u102 u103 u104 u105 u106 u107 u108 u109 u110 u111 u112 u113 u114 u115 u116 u117 u118 u119 u120 u121 u122 u123 u124 u125 u126 u127 u128 u129 u130 u131 u132 u133 u134 u135 u136 u137 u138 u139 u140 u141 u142 u143 u144 u145 u146 u147 u148 u149 u150 u151 u152 u153 u154 u155 u156 u157 u158 u159 u160 u161) wr := by
  have hb0 := HA.out.bo.h.cell 0
  have hb1 := HA.out.bo.o.cell 0
  simp only [List.getElem?_cons_zero] at hb0 hb1
  have hblt := HA.out.bo.h.lt
  obtain ⟨a, ha⟩ : ∃ a, ws[j]? = some a := ⟨_, List.getElem?_eq_getElem (by have := HN.out; omega)⟩
  have hq : Q = STK fs (a :: ws.drop (j + 1)) := by
    rw [HA.out.q, List.drop_eq_getElem_cons (by have := HN.out; omega)]
    congr 2
    rw [List.getElem?_eq_getElem (by have := HN.out; omega)] at ha
    injection ha
  have hla : a.length ≤ 20000 := by have := Hw1.out a (List.mem_of_getElem? ha); omega
  have hcell := HA.out.rw_.words.cell j
  rw [show (strs ws)[j]? = some (.string ⟨a.toArray⟩) by simp [strs, ha]] at hcell
  have hwlt := HA.out.rw_.words.lt
  have HQ := Lib.hid hq
  have hsl := hsel a ha
  clear hq ha hsel
  obtain ⟨i0, hi, hz0, hz1, hz2⟩ : ∃ i0, Tryz.prog.info? 57 = some i0 ∧ i0.zero = some (.agg #[.int .i64 0, .string ⟨#[]⟩, .int .i64 0, .int .i64 0, .int .i64 0, .string ⟨#[]⟩, .bool false, .string ⟨#[]⟩, .bool false, .slice none 0 0]) ∧ i0.size = 10 ∧ i0.bytes = 120 := by
    have h := need_info2
    cases hh : Tryz.prog.info? 57 with
    | none => rw [hh] at h; simp at h
    | some i => rw [hh] at h; simp at h; exact ⟨i, rfl, h.1, h.2.1, h.2.2⟩
  have Hi := Lib.hid hi; have Hz0 := Lib.hid hz0; have Hz1 := Lib.hid hz1; have Hz2 := Lib.hid hz2
  clear hi hz0 hz1 hz2
  unfold rnJ rnFrame at hJ
  unfold rnFrame
  show Code.wp Tryz.prog (Code.seq _ _) _ _ _
  obtain ⟨h41, hsl⟩ := hsl
  rw [STK_cons, if_neg h41] at HQ
  have h41' : (a == [41]) = false := by simpa using h41
  rw [if_pos hsl] at HQ
  have HQ0 : Hid (Q = none) := HQ
  rw [hsl] at hb1
  go_wp2_with (first | (go_at_call 96; refine (rnbad_any _).mono ?_; rintro e wb ⟨rfl, hbb⟩; refine Hid.out ?_))
  refine Lib.hid ?_
  have HRW := Lib.hid (Rw.below (HA.out.rw_) hbb)
  clear hbb
  have z0 := HRW.out.res.cell 0; have z1 := HRW.out.res.cell 1; have z2 := HRW.out.res.cell 2; have z3 := HRW.out.res.cell 3; have z4 := HRW.out.res.cell 4; have z5 := HRW.out.res.cell 5; have z6 := HRW.out.res.cell 6; have z7 := HRW.out.res.cell 7; have z8 := HRW.out.res.cell 8; have z9 := HRW.out.res.cell 9
  have y0 := HRW.out.res.free 0; have y1 := HRW.out.res.free 1; have y2 := HRW.out.res.free 2; have y3 := HRW.out.res.free 3; have y4 := HRW.out.res.free 4; have y5 := HRW.out.res.free 5; have y6 := HRW.out.res.free 6; have y7 := HRW.out.res.free 7; have y8 := HRW.out.res.free 8; have y9 := HRW.out.res.free 9
  simp only [List.getElem?_cons_zero, List.getElem?_cons_succ] at z0 z1 z2 z3 z4 z5 z6 z7 z8 z9
  have hz9 := HRW.out.res.lt
  go_wp2_with fail
  obtain ⟨wz, hwz, hW, hF, hsz⟩ := store10 HRW.out.res rfl (.int .i64 0) (.string ⟨#[]⟩) (.int .i64 0) (.int .i64 0) (.int .i64 0) (.string ⟨#[]⟩) (.bool false) (.string ⟨#[]⟩) (.bool false) (.slice none 0 0)
  rw [hwz]
  clear hwz
  have HBEL := far_ownB HRW.out.bel hF (Nat.le_refl _)
  have e0 := hW.cell 0; have e1 := hW.cell 1; have e2 := hW.cell 2; have e3 := hW.cell 3; have e4 := hW.cell 4; have e5 := hW.cell 5; have e6 := hW.cell 6; have e7 := hW.cell 7; have e8 := hW.cell 8; have e9 := hW.cell 9
  simp only [List.getElem?_cons_zero, List.getElem?_cons_succ] at e0 e1 e2 e3 e4 e5 e6 e7 e8 e9
  refine bodyPost_ret (v := .tuple #[.agg #[_, _, _, _, _, _, _, _, _, _], .int .i64 _]) (by simp [results, Tryz.results64, go_sem, e0, e1, e2, e3, e4, e5, e6, e7, e8, e9]; exact ⟨⟨rfl, rfl, rfl, rfl, rfl, rfl, rfl, rfl, rfl, rfl⟩, rfl⟩) rfl ?_
  unfold RNPost
  exact ⟨0, At.zero, [], false, none, 0, 0, by rw [← HT.out, HQ0.out]; rfl, by rw [← HT.out, HQ0.out]; exact RNd.zero _ _, HBEL⟩
set_option maxRecDepth 100000 in
set_option maxHeartbeats 12800000 in
theorem rn_open (s : ByteArray) (w : World) (hs0 : s.size ≤ 20000) (HSZ : Hid (s.size = s.data.toList.length)) (HLV : Hid (LaidV w)) (HMV : Hid (MaxV w)) (R : Nd × Int) (ws : List Qm.W) (Hw1 : Hid (∀ (x : Qm.W), x ∈ ws → List.length x ≤ s.size)) (Q : Option Nd) (HT : Hid (stkTold Q = R)) (n : Nat) (hw2 : n ≤ s.size + 1) (HN : Hid (ws.length = n)) (gk : Nat) (wr : World) (u3 u10 u11 u12 u13 u14 u19 u20 u21 u22 u23 u24 u25 u26 u27 u28 u29 u30 u31 u32 u33 u34 u35 u36 u37 u38 u39 u40 u41 u42 u43 u44 u45 u46 u47 u48 u49 u50 u51 u52 u53 u54 u55 u56 u57 u58 u59 u60 u61 u62 u63 u64 u65 u66 u67 u68 u69 u70 u71 u72 u73 u74 u75 u76 u77 u78 u79 u80 u81 u82 u83 u84 u85 u86 u87 u88 u89 u90 u91 u92 u93 u94 u95 u96 u97 u98 u99 u100 u101 u102 u103 u104 u105 u106 u107 u108 u109 u110 u111 u112 u113 u114 u115 u116 u117 u118 u119 u120 u121 u122 u123 u124 u125 u126 u127 u128 u129 u130 u131 u132 u133 u134 u135 u136 u137 u138 u139 u140 u141 u142 u143 u144 u145 u146 u147 u148 u149 u150 u151 u152 u153 u154 u155 u156 u157 u158 u159 u160 u161 : Value) (J : Nat → Act → World → Prop) (K K1 : Act → World → Prop) (hJ : rnJ s w ws Q n J) (hK : ∀ (a' : Act) (w' : World), Handed J gk a' w' → K a' w') (j : Nat) (Hj : Hid (j + gk = n)) (fs : List Fr) (hs : List Hd) (A : Option Addr) (c : Nat) (HA : Hid (Ra w ws j Q fs hs A c wr)) (hj : j < n)
    (hsel : ∀ a, ws[j]? = some a → a ≠ [41] ∧ (fs.length ≠ 4 ∧ a = [40])) :
    Code.wp Tryz.prog (roundOf Tryz.f64) (Exit.then K (Exit.inBlock 0 (Exit.then K1 (bodyPost Tryz.prog Tryz.f64 (fun e w' => RNPost w R e w'))))) (rnFrame s w n u3 (.int .i64 j) u10 u11 u12 u13 u14 u19 u20 u21 u22 u23 u24 u25 u26 u27 u28 u29 u30 u31 u32 u33 u34 u35 u36 u37 u38 u39 u40 u41 u42 u43 u44 u45 u46 u47 u48 u49 u50 u51 u52 u53 u54 u55 u56 u57 u58 u59 u60 u61 u62 u63 u64 u65 u66 u67 u68 u69 u70 u71 u72 u73 u74 u75 u76 u77 u78 u79 u80 u81 u82 u83 u84 u85 u86 u87 u88 u89 u90 u91 u92 u93 u94 u95 u96 u97 u98 u99 u100 u101 u102 u103 u104 u105 u106 u107 u108 u109 u110 u111 u112 u113 u114 u115 u116 u117 u118 u119 u120 u121 u122 u123 u124 u125 u126 u127 u128 u129 u130 u131 u132 u133 u134 u135 u136 u137 u138 u139 u140 u141 u142 u143 u144 u145 u146 u147 u148 u149 u150 u151 u152 u153 u154 u155 u156 u157 u158 u159 u160 u161) wr := by
  have hb0 := HA.out.bo.h.cell 0
  have hb1 := HA.out.bo.o.cell 0
  simp only [List.getElem?_cons_zero] at hb0 hb1
  have hblt := HA.out.bo.h.lt
  obtain ⟨a, ha⟩ : ∃ a, ws[j]? = some a := ⟨_, List.getElem?_eq_getElem (by have := HN.out; omega)⟩
  have hq : Q = STK fs (a :: ws.drop (j + 1)) := by
    rw [HA.out.q, List.drop_eq_getElem_cons (by have := HN.out; omega)]
    congr 2
    rw [List.getElem?_eq_getElem (by have := HN.out; omega)] at ha
    injection ha
  have hla : a.length ≤ 20000 := by have := Hw1.out a (List.mem_of_getElem? ha); omega
  have hcell := HA.out.rw_.words.cell j
  rw [show (strs ws)[j]? = some (.string ⟨a.toArray⟩) by simp [strs, ha]] at hcell
  have hwlt := HA.out.rw_.words.lt
  have HQ := Lib.hid hq
  have hsl := hsel a ha
  clear hq ha hsel
  obtain ⟨i0, hi, hz0, hz1, hz2⟩ : ∃ i0, Tryz.prog.info? 57 = some i0 ∧ i0.zero = some (.agg #[.int .i64 0, .string ⟨#[]⟩, .int .i64 0, .int .i64 0, .int .i64 0, .string ⟨#[]⟩, .bool false, .string ⟨#[]⟩, .bool false, .slice none 0 0]) ∧ i0.size = 10 ∧ i0.bytes = 120 := by
    have h := need_info2
    cases hh : Tryz.prog.info? 57 with
    | none => rw [hh] at h; simp at h
    | some i => rw [hh] at h; simp at h; exact ⟨i, rfl, h.1, h.2.1, h.2.2⟩
  have Hi := Lib.hid hi; have Hz0 := Lib.hid hz0; have Hz1 := Lib.hid hz1; have Hz2 := Lib.hid hz2
  clear hi hz0 hz1 hz2
  unfold rnJ rnFrame at hJ
  unfold rnFrame
  show Code.wp Tryz.prog (Code.seq _ _) _ _ _
  obtain ⟨h41, hsl⟩ := hsl
  rw [STK_cons, if_neg h41] at HQ
  have h41' : (a == [41]) = false := by simpa using h41
  obtain ⟨h4, h40⟩ := hsl
  rw [if_neg h4] at HQ
  obtain ⟨m, hm⟩ : ∃ m, fs.length = m := ⟨_, rfl⟩
  rw [hm] at hb1 h4
  have hm4 : m < 4 := by have := HA.out.few; omega
  have hm4' : ((m : Int) == 4) = false := by simp; omega
  have HM := Lib.hid hm; clear hm
  unfold itemS at HQ
  go_upto_block 2 with fail
  subst h40
  rw [if_pos rfl] at HQ
  go_upto_region 30 with fail
  have HAb := Lib.hid (HA.out.below (bel1 wr (.cells #[.int .i64 3, .string ⟨#[]⟩, .int .i64 0, .int .i64 0, .int .i64 0, .string ⟨#[]⟩, .bool false, .string ⟨#[]⟩, .bool false, .slice none 0 0] 57)))
  have HNb := Lib.hid (Whole.new wr wr.heap.size 57 (ndRow 3 At.zero [] false none 0 0) rfl)
  have HNE : Hid (∀ i, (Value.slice A m c).ownBlock = some i → i ≠ wr.heap.size) := Lib.hid fun i e => by have := HA.out.bo.op.own; rw [HM.out] at this; have := (this.lt i e).2; omega
  unfold ndRow At.zero at HNb
  clear hb0 hb1 hblt hcell hwlt
  generalize wr.alloc _ = wb at HAb HNb ⊢
  have HO : Hid (wb.ownsRow (w.heap.size + 1 + 1 + 1 + 1) 57 10 (.slice A m c) m (frows fs hs)) := Lib.hid (by have := HAb.out.bo.op.own; rw [HM.out] at this; exact this)
  have hsz := HAb.out.rw_.sz
  have hbo := HAb.out.bo.o.lt
  have hb1 := HAb.out.bo.o.cell 0
  rw [HM.out] at hb1
  have hnl := HNb.out.lt
  have g0 := HNb.out.cell 0; have g1 := HNb.out.cell 1; have g2 := HNb.out.cell 2; have g3 := HNb.out.cell 3; have g4 := HNb.out.cell 4; have g5 := HNb.out.cell 5; have g6 := HNb.out.cell 6; have g7 := HNb.out.cell 7; have g8 := HNb.out.cell 8; have g9 := HNb.out.cell 9
  simp only [ndRow, At.zero, List.getElem?_cons_zero, List.getElem?_cons_succ] at hb1 g0 g1 g2 g3 g4 g5 g6 g7 g8 g9
  have hb1' : ∀ o1 : Obj, (wb.alloc o1).cell? ⟨w.heap.size + 1, 0, none⟩ = some (.slice A m c) := fun o1 => ((bel1 wb o1).cell (p := ⟨w.heap.size + 1, 0, none⟩) hbo).trans hb1
  have hm0 : (0 : Int) ≤ (m : Int) := by omega
  have hm1 : (m : Int) < (m : Int) + 1 := by omega
  have hm2 : m < m + 1 := by omega
  go_region_law (refine step_append_own rfl (.tmp 97) (.tmp 100) 55 rfl (w.heap.size + 1 + 1 + 1 + 1) 57 i0 (.agg #[.int .i64 0, .string ⟨#[]⟩, .int .i64 0, .int .i64 0, .int .i64 0, .string ⟨#[]⟩, .bool false, .string ⟨#[]⟩, .bool false, .slice none 0 0]) 10 120 Tryz.underlying55 Hi.out Hz0.out Hz1.out Hz2.out rfl (by decide) (.slice A m c) m (frows fs hs) (by simp [Act.eval, Act.put]) (own_bel HO.out (bel1d _ _)) ⟨wb.heap.size, 0, none⟩ 1 1 [.int .i64 0, .string ⟨#[]⟩, .int .i64 0, .int .i64 0, .int .i64 0, .string ⟨#[]⟩, .bool false, .string ⟨#[]⟩, .bool false, .slice none 0 0] (by simp [Act.eval, Act.put]) rfl (ncells1d _ _ _) (by simp [Value.oneCell']) (by unfold maxLen; omega) (by omega) (by simp; omega) ?_; intro v' w8 hown8 hg8 _ hv8; obtain ⟨A8, c8, rfl, _⟩ := own_formK hown8; obtain ⟨b8, rfl⟩ := own_block hown8 (by omega); have HG8 := Lib.hid (grown_undrew hg8); have HO8 := Lib.hid hown8; have HV8 := Lib.hid hv8; have HAF := Lib.hid (HAb.out.bo.aft (bel1 wb _) HM.out hown8 HG8.out (HNb.out.alloc _) HNE.out); clear hown8 hg8 hv8; obtain ⟨z0, y0⟩ := HAF.out.cell 0 (by decide); obtain ⟨z1, y1⟩ := HAF.out.cell 1 (by decide); obtain ⟨z2, y2⟩ := HAF.out.cell 2 (by decide); obtain ⟨z3, y3⟩ := HAF.out.cell 3 (by decide); obtain ⟨z4, y4⟩ := HAF.out.cell 4 (by decide); obtain ⟨z5, y5⟩ := HAF.out.cell 5 (by decide); obtain ⟨z6, y6⟩ := HAF.out.cell 6 (by decide); obtain ⟨z7, y7⟩ := HAF.out.cell 7 (by decide); obtain ⟨z8, y8⟩ := HAF.out.cell 8 (by decide); obtain ⟨z9, y9⟩ := HAF.out.cell 9 (by decide); simp only [List.getElem?_cons_zero, List.getElem?_cons_succ, Nat.add_zero] at z0 z1 z2 z3 z4 z5 z6 z7 z8 z9 y0 y1 y2 y3 y4 y5 y6 y7 y8 y9; have q1 := HAF.out.lt; have q2 := HAF.out.ne; have q3 := HAF.out.o.cell 0; have q4 := HAF.out.o.free 0; have q5 := HAF.out.o.lt; have n0 := HAF.out.n.cell 0; have n1 := HAF.out.n.cell 1; have n2 := HAF.out.n.cell 2; have n3 := HAF.out.n.cell 3; have n4 := HAF.out.n.cell 4; have n5 := HAF.out.n.cell 5; have n6 := HAF.out.n.cell 6; have n7 := HAF.out.n.cell 7; have n8 := HAF.out.n.cell 8; have n9 := HAF.out.n.cell 9; simp only [ndRow, At.zero, List.getElem?_cons_zero, List.getElem?_cons_succ] at q3 n0 n1 n2 n3 n4 n5 n6 n7 n8 n9)
  all_goals (
    clear z0 z1 z2 z3 z4 z5 z6 z7 z8 z9 y0 y1 y2 y3 y4 y5 y6 y7 y8 y9 n0 n1 n2 n3 n4 n5 n6 n7 n8 n9 q1 q2 q3 q4 q5
    generalize hz : World.setCell _ _ _ = wz
    have HZ := Lib.hid (HAb.out.opened (wz := wz) (k := 3) (f := []) (no := false) HM.out hm4 HQ.out (by omega) (by first | exact Nat.zero_le _ | (unfold maxLen; omega)) (bel1 wb _) HO8.out HG8.out HV8.out (by first | with_reducible exact .inl hz | with_reducible exact .inr hz))
    clear hz HO8 HG8 HV8 HAF
    go_wp2_with fail
    go_roundg (gk - 1)
    case measure => have := Hj.out; omega
    case rel => exact ⟨j + 1, Lib.hid (by have := Hj.out; omega), by go_num, Lib.hid (.inl ⟨_, _, _, _, HZ.out⟩)⟩)
end Go.Proofs.YthpkffeiehnamaaGreatDoor
