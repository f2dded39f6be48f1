/- Parts of the proof: walks and plain laws, side by side. -/
import Derived.Test.YthpkffeiehnamaaGreatDoorM24
set_option linter.unusedVariables false
set_option linter.unusedSimpArgs false
set_option linter.unusedSectionVars false
/- quartermasterref.ReadNeed, a round of its loop: a leaf. -/
namespace Go.Proofs.YthpkffeiehnamaaGreatDoor
open Go.RowKit Qm

set_option maxRecDepth 100000 in
set_option maxHeartbeats 12800000 in
theorem rn_leaf (s : ByteArray) (w : World) (hs0 : s.size ≤ 20000) (HSZ : Hid (s.size = s.data.toList.length)) (HLV : Hid (LaidV w)) (HMV : Hid (MaxV w)) (R : Nd × Int) (ws : List Qm.W) (Hw1 : Hid (∀ (x : Qm.W), x ∈ ws → List.length x ≤ s.size)) (Q : Option Nd) (HT : Hid (stkTold Q = R)) (n : Nat) (hw2 : n ≤ s.size + 1) (HN : Hid (ws.length = n)) (gk : Nat) (wr : World) (u3 u10 u11 u12 u13 u14 u19 u20 u21 u22 u23 u24 u25 u26 u27 u28 u29 u30 u31 u32 u33 u34 u35 u36 u37 u38 u39 u40 u41 u42 u43 u44 u45 u46 u47 u48 u49 u50 u51 u52 u53 u54 u55 u56 u57 u58 u59 u60 u61 u62 u63 u64 u65 u66 u67 u68 u69 u70 u71 u72 u73 u74 u75 u76 u77 u78 u79 u80 u81 u82 u83 u84 u85 u86 u87 u88 u89 u90 u91 u92 u93 u94 u95 u96 u97 u98 u99 u100 u101 u102 u103 u104 u105 u106 u107 u108 u109 u110 u111 u112 u113 u114 u115 u116 u117 u118 u119 u120 u121 u122 u123 u124 u125 u126 u127 u128 u129 u130 u131 u132 u133 u134 u135 u136 u137 u138 u139 u140 u141 u142 u143 u144 u145 u146 u147 u148 u149 u150 u151 u152 u153 u154 u155 u156 u157 u158 u159 u160 u161 : Value) (J : Nat → Act → World → Prop) (K K1 : Act → World → Prop) (hJ : rnJ s w ws Q n J) (hK : ∀ (a' : Act) (w' : World), Handed J gk a' w' → K a' w') (j : Nat) (Hj : Hid (j + gk = n)) (fs : List Fr) (hs : List Hd) (A : Option Addr) (c : Nat) (HA : Hid (Ra w ws j Q fs hs A c wr)) (hj : j < n)
    (hsel : ∀ a, ws[j]? = some a → a ≠ [41] ∧ (fs.length ≠ 4 ∧ (a ≠ [40] ∧ (a ≠ [124, 124] ∧ a.getLast? ≠ some 63)))) :
    Code.wp Tryz.prog (roundOf Tryz.f64) (Exit.then K (Exit.inBlock 0 (Exit.then K1 (bodyPost Tryz.prog Tryz.f64 (fun e w' => RNPost w R e w'))))) (rnFrame s w n u3 (.int .i64 j) u10 u11 u12 u13 u14 u19 u20 u21 u22 u23 u24 u25 u26 u27 u28 u29 u30 u31 u32 u33 u34 u35 u36 u37 u38 u39 u40 u41 u42 u43 u44 u45 u46 u47 u48 u49 u50 u51 u52 u53 u54 u55 u56 u57 u58 u59 u60 u61 u62 u63 u64 u65 u66 u67 u68 u69 u70 u71 u72 u73 u74 u75 u76 u77 u78 u79 u80 u81 u82 u83 u84 u85 u86 u87 u88 u89 u90 u91 u92 u93 u94 u95 u96 u97 u98 u99 u100 u101 u102 u103 u104 u105 u106 u107 u108 u109 u110 u111 u112 u113 u114 u115 u116 u117 u118 u119 u120 u121 u122 u123 u124 u125 u126 u127 u128 u129 u130 u131 u132 u133 u134 u135 u136 u137 u138 u139 u140 u141 u142 u143 u144 u145 u146 u147 u148 u149 u150 u151 u152 u153 u154 u155 u156 u157 u158 u159 u160 u161) wr := by
  have hb0 := HA.out.bo.h.cell 0
  have hb1 := HA.out.bo.o.cell 0
  simp only [List.getElem?_cons_zero] at hb0 hb1
  have hblt := HA.out.bo.h.lt
  obtain ⟨a, ha⟩ : ∃ a, ws[j]? = some a := ⟨_, List.getElem?_eq_getElem (by have := HN.out; omega)⟩
  have hq : Q = STK fs (a :: ws.drop (j + 1)) := by
    rw [HA.out.q, List.drop_eq_getElem_cons (by have := HN.out; omega)]
    congr 2
    rw [List.getElem?_eq_getElem (by have := HN.out; omega)] at ha
    injection ha
  have hla : a.length ≤ 20000 := by have := Hw1.out a (List.mem_of_getElem? ha); omega
  have hcell := HA.out.rw_.words.cell j
  rw [show (strs ws)[j]? = some (.string ⟨a.toArray⟩) by simp [strs, ha]] at hcell
  have hwlt := HA.out.rw_.words.lt
  have HQ := Lib.hid hq
  have hsl := hsel a ha
  clear hq ha hsel
  obtain ⟨i0, hi, hz0, hz1, hz2⟩ : ∃ i0, Tryz.prog.info? 57 = some i0 ∧ i0.zero = some (.agg #[.int .i64 0, .string ⟨#[]⟩, .int .i64 0, .int .i64 0, .int .i64 0, .string ⟨#[]⟩, .bool false, .string ⟨#[]⟩, .bool false, .slice none 0 0]) ∧ i0.size = 10 ∧ i0.bytes = 120 := by
    have h := need_info2
    cases hh : Tryz.prog.info? 57 with
    | none => rw [hh] at h; simp at h
    | some i => rw [hh] at h; simp at h; exact ⟨i, rfl, h.1, h.2.1, h.2.2⟩
  have Hi := Lib.hid hi; have Hz0 := Lib.hid hz0; have Hz1 := Lib.hid hz1; have Hz2 := Lib.hid hz2
  clear hi hz0 hz1 hz2
  unfold rnJ rnFrame at hJ
  unfold rnFrame
  show Code.wp Tryz.prog (Code.seq _ _) _ _ _
  obtain ⟨h41, hsl⟩ := hsl
  rw [STK_cons, if_neg h41] at HQ
  have h41' : (a == [41]) = false := by simpa using h41
  obtain ⟨h4, h40, h124, h63⟩ := hsl
  rw [if_neg h4] at HQ
  obtain ⟨m, hm⟩ : ∃ m, fs.length = m := ⟨_, rfl⟩
  rw [hm] at hb1 h4
  have hm4 : m < 4 := by have := HA.out.few; omega
  have hm4' : ((m : Int) == 4) = false := by simp; omega
  have HM := Lib.hid hm; clear hm
  unfold itemS at HQ
  go_upto_block 2 with fail
  have h40' : (a == [40]) = false := by simpa using h40
  rw [if_neg h40] at HQ
  have h124' : (a == [124, 124]) = false := by simpa using h124
  rw [if_neg h124] at HQ
  have hsuf := fun wx => Tryz.strings_HasSuffix ⟨a.toArray⟩ ⟨#[63]⟩ wx (by rw [bsz]; omega)
  rw [show (⟨a.toArray⟩ : ByteArray).data.toList = a from by simp, show (⟨#[63]⟩ : ByteArray).data.toList = [63] from rfl] at hsuf
  rw [if_neg h63] at HQ
  rw [show Lib.hasSuffix a [63] = false from by cases h : Lib.hasSuffix a [63]; rfl; exact absurd (suffix_last.1 h) h63] at hsuf
  have Hsuf := Lib.hid hsuf; clear hsuf
  have hpf := fun wx => Tryz.strings_HasPrefix ⟨a.toArray⟩ ⟨#[33]⟩ wx
  rw [show (⟨a.toArray⟩ : ByteArray).data.toList = a from by simp, show (⟨#[33]⟩ : ByteArray).data.toList = [33] from rfl, cut33b] at hpf
  unfold leafN_ at HQ
  by_cases hbang : (cutBang a).2 = true
  · obtain ⟨t, rfl⟩ : ∃ t, a = 33 :: t := by
      cases a with
      | nil => simp [cutBang] at hbang
      | cons c r =>
        by_cases h : c = 33
        · exact ⟨r, by rw [h]⟩
        · simp [cutBang, h] at hbang
    rw [hbang] at hpf
    have hcb : cutBang (33 :: t) = (t, true) := rfl
    rw [hcb] at HQ
    simp only [if_true] at HQ
    have Hpf := Lib.hid hpf; clear hpf
    have hext : (⟨(33 :: t).toArray⟩ : ByteArray).extract 1 (t.length + 1) = ⟨t.toArray⟩ := by
      apply ByteArray.ext; simp [ByteArray.extract, ByteArray.copySlice]
    have hbz : (⟨(33 :: t).toArray⟩ : ByteArray).size = t.length + 1 := by rw [bsz]; rfl
    have htl : t.length ≤ 20000 := by simp only [List.length_cons] at hla; omega
    go_wp2_with (first
      | (go_at_call 98; refine (Hsuf.out _).mono ?_; rintro e w2 ⟨rfl, rfl⟩)
      | (go_at_call 100; refine (Hpf.out _).mono ?_; rintro e w2 ⟨rfl, rfl⟩))
    go_region
    have hBW : Below wr.heap.size wr ((wr.alloc (.cells #[.int .i64 2, .string ⟨#[]⟩, .int .i64 0, .int .i64 0, .int .i64 0, .string ⟨#[]⟩, .bool false, .string ⟨#[]⟩, .bool false, .slice none 0 0] 57)).drew) := (bel1d wr _)
    have hpa := read_any ⟨t.toArray⟩ ((wr.alloc (.cells #[.int .i64 2, .string ⟨#[]⟩, .int .i64 0, .int .i64 0, .int .i64 0, .string ⟨#[]⟩, .bool false, .string ⟨#[]⟩, .bool false, .slice none 0 0] 57)).drew) (by rw [bsz]; omega) (HLV.out.below (HA.out.rw_.bel.trans (hBW.mono HA.out.rw_.bel.size))) (HMV.out.below (HA.out.rw_.bel.trans (hBW.mono HA.out.rw_.bel.size)))
    rw [show (⟨t.toArray⟩ : ByteArray).data.toList = t from by simp, show parseFew t = parseAt t from by unfold parseAt; rw [if_neg (by omega)]] at hpa
    have HPK := Lib.hid (fun h => leaf_of_parse (t := t) (x := (parseAt t).1) h rfl)
    have HBW := Lib.hid hBW
    have HWN : Hid (Whole ((wr.alloc (.cells #[.int .i64 2, .string ⟨#[]⟩, .int .i64 0, .int .i64 0, .int .i64 0, .string ⟨#[]⟩, .bool false, .string ⟨#[]⟩, .bool false, .slice none 0 0] 57)).drew) wr.heap.size 57 (ndRow 2 At.zero [] false none 0 0)) := Lib.hid (Whole.new wr _ _ (ndRow 2 At.zero [] false none 0 0) rfl)
    generalize parseAt t = g at hpa HQ HPK
    obtain ⟨⟨xn, xo, xv, xs, xf, xb⟩, q⟩ := g
    simp only [AtEnd] at hpa HQ HPK
    have Hpa := Lib.hid hpa; clear hpa hBW
    by_cases hq0 : q = 0
    · subst hq0
      rw [if_pos rfl] at HQ
      have henter : ∀ (args : Array Value) (W : World), (callFunc 97 args).run Tryz.prog W = .ok (.enter 97 args) W := fun args W => by kernel_rfl
      go_upto_region 25 with (first
        | (go_at_call 98; refine (Hsuf.out _).mono ?_; rintro e w2 ⟨rfl, rfl⟩)
        | (go_at_call 100; refine (Hpf.out _).mono ?_; rintro e w2 ⟨rfl, rfl⟩)
        | (go_at_call 101; refine Hpa.out.mono ?_; rintro e w4 ⟨rfl, hb4⟩; refine Hid.out ?_))
      refine Lib.hid ?_
      have HN4 := Lib.hid (HWN.out.below hb4 HWN.out.lt)
      have HB4 := Lib.hid (HBW.out.trans (hb4.mono HBW.out.size))
      clear hb4 HBW HWN
      unfold ndRow At.zero at HN4
      have z0 := HN4.out.cell 0; have z1 := HN4.out.cell 1; have z2 := HN4.out.cell 2; have z3 := HN4.out.cell 3; have z4 := HN4.out.cell 4; have z5 := HN4.out.cell 5; have z6 := HN4.out.cell 6; have z7 := HN4.out.cell 7; have z8 := HN4.out.cell 8; have z9 := HN4.out.cell 9
      have y0 := HN4.out.free 0; have y1 := HN4.out.free 1; have y2 := HN4.out.free 2; have y3 := HN4.out.free 3; have y4 := HN4.out.free 4; have y5 := HN4.out.free 5; have y6 := HN4.out.free 6; have y7 := HN4.out.free 7; have y8 := HN4.out.free 8; have y9 := HN4.out.free 9
      simp only [List.getElem?_cons_zero, List.getElem?_cons_succ] at z0 z1 z2 z3 z4 z5 z6 z7 z8 z9
      have hlt4 := HN4.out.lt
      go_upto_region 28 with fail
      obtain ⟨wz, hwz, hW, hF⟩ := store6 HN4.out (.string ⟨xn.toArray⟩) (.int .i64 xo) (.int .i64 xv) (.int .i64 xs) (.string ⟨xf.toArray⟩) (.bool xb)
      rw [hwz]
      clear hwz z0 z1 z2 z3 z4 z5 z6 z7 z8 z9 y0 y1 y2 y3 y4 y5 y6 y7 y8 y9
      have hBZ := (HB4.out.trans (hF.below HB4.out.size (fun i e => by omega))).alloc (Nat.le_trans HB4.out.size hF.size) (.cells #[.string ⟨xn.toArray⟩, .int .i64 xo, .int .i64 xv, .int .i64 xs, .string ⟨xf.toArray⟩, .bool xb] 26)
      have hWZ := hW.alloc (.cells #[.string ⟨xn.toArray⟩, .int .i64 xo, .int .i64 xv, .int .i64 xs, .string ⟨xf.toArray⟩, .bool xb] 26)
      clear hF hW hlt4 hb0 hb1 hblt hcell hwlt
      generalize wz.alloc _ = W5 at hBZ hWZ ⊢
      have Hput := Lib.hid (rput_any (ndRow 2 ⟨xn, xo, xv, xs, xf, xb⟩ [] false none 0 0) (.mk 2 ⟨xn, xo, xv, xs, xf, xb⟩ [] false []) (HA.out.rw_.below hBZ) (HA.out.bo.below hBZ) (leaf_nd (HPK.out trivial).1) HQ.out (by rw [HM.out]; omega) HA.out.ys (by omega))
      unfold ndRow at Hput
      have g0 := hWZ.cell 0; have g1 := hWZ.cell 1; have g2 := hWZ.cell 2; have g3 := hWZ.cell 3; have g4 := hWZ.cell 4; have g5 := hWZ.cell 5; have g6 := hWZ.cell 6; have g7 := hWZ.cell 7; have g8 := hWZ.cell 8; have g9 := hWZ.cell 9
      simp only [List.getElem?_cons_zero, List.getElem?_cons_succ] at g0 g1 g2 g3 g4 g5 g6 g7 g8 g9
      have hltz := hWZ.lt
      clear hWZ hBZ HN4 HB4
      go_wp2_with (first | (go_at_call 97; refine Hput.out.mono ?_; rintro e wp ⟨rfl, hst⟩; refine Hid.out ?_))
      refine Lib.hid ?_
      have HST := Lib.hid hst
      clear hst
      go_wp2_with fail
      go_roundg (gk - 1)
      case measure => have := Hj.out; omega
      case rel => exact ⟨j + 1, Lib.hid (by have := Hj.out; omega), by go_num, HST⟩
    · have HQ0 : Hid (Q = none) := Lib.hid (by rw [HQ.out, if_neg hq0])
      have h1 : (q != 0) = true := by simpa using hq0
      clear hq0
      go_wp2_with (first
        | (go_at_call 98; refine (Hsuf.out _).mono ?_; rintro e w2 ⟨rfl, rfl⟩)
        | (go_at_call 100; refine (Hpf.out _).mono ?_; rintro e w2 ⟨rfl, rfl⟩)
        | (go_at_call 101; refine Hpa.out.mono ?_; rintro e w4 ⟨rfl, hb4⟩; refine Hid.out ?_))
      refine Lib.hid ?_
      have HB4 := Lib.hid (HA.out.rw_.below (HBW.out.trans (hb4.mono HBW.out.size))); clear hb4
      go_wp2_with (first | (go_at_call 96; refine (rnbad_any _).mono ?_; rintro e wb ⟨rfl, hbb⟩; refine Hid.out ?_))
      refine Lib.hid ?_
      have HRW := Lib.hid (Rw.below ((HB4.out.below (bel1 _ _))) hbb)
      clear hbb
      have z0 := HRW.out.res.cell 0; have z1 := HRW.out.res.cell 1; have z2 := HRW.out.res.cell 2; have z3 := HRW.out.res.cell 3; have z4 := HRW.out.res.cell 4; have z5 := HRW.out.res.cell 5; have z6 := HRW.out.res.cell 6; have z7 := HRW.out.res.cell 7; have z8 := HRW.out.res.cell 8; have z9 := HRW.out.res.cell 9
      have y0 := HRW.out.res.free 0; have y1 := HRW.out.res.free 1; have y2 := HRW.out.res.free 2; have y3 := HRW.out.res.free 3; have y4 := HRW.out.res.free 4; have y5 := HRW.out.res.free 5; have y6 := HRW.out.res.free 6; have y7 := HRW.out.res.free 7; have y8 := HRW.out.res.free 8; have y9 := HRW.out.res.free 9
      simp only [List.getElem?_cons_zero, List.getElem?_cons_succ] at z0 z1 z2 z3 z4 z5 z6 z7 z8 z9
      have hz9 := HRW.out.res.lt
      go_wp2_with fail
      obtain ⟨wz, hwz, hW, hF, hsz⟩ := store10 HRW.out.res rfl (.int .i64 0) (.string ⟨#[]⟩) (.int .i64 0) (.int .i64 0) (.int .i64 0) (.string ⟨#[]⟩) (.bool false) (.string ⟨#[]⟩) (.bool false) (.slice none 0 0)
      rw [hwz]
      clear hwz
      have HBEL := far_ownB HRW.out.bel hF (Nat.le_refl _)
      have e0 := hW.cell 0; have e1 := hW.cell 1; have e2 := hW.cell 2; have e3 := hW.cell 3; have e4 := hW.cell 4; have e5 := hW.cell 5; have e6 := hW.cell 6; have e7 := hW.cell 7; have e8 := hW.cell 8; have e9 := hW.cell 9
      simp only [List.getElem?_cons_zero, List.getElem?_cons_succ] at e0 e1 e2 e3 e4 e5 e6 e7 e8 e9
      refine bodyPost_ret (v := .tuple #[.agg #[_, _, _, _, _, _, _, _, _, _], .int .i64 _]) (by simp [results, Tryz.results64, go_sem, e0, e1, e2, e3, e4, e5, e6, e7, e8, e9]; exact ⟨⟨rfl, rfl, rfl, rfl, rfl, rfl, rfl, rfl, rfl, rfl⟩, rfl⟩) rfl ?_
      unfold RNPost
      exact ⟨0, At.zero, [], false, none, 0, 0, by rw [← HT.out, HQ0.out]; rfl, by rw [← HT.out, HQ0.out]; exact RNd.zero _ _, HBEL⟩
  · have hb : (cutBang a).2 = false := by simpa using hbang
    have hcb : cutBang a = (a, false) := by
      cases a with
      | nil => rfl
      | cons c r =>
        by_cases h : c = 33
        · subst h; simp [cutBang] at hb
        · simp [cutBang, h]
    rw [hb] at hpf
    rw [hcb] at HQ
    simp only [Bool.false_eq_true, if_false] at HQ
    have Hpf := Lib.hid hpf; clear hpf hbang hb hcb
    have htl := hla
    have hBW : Below wr.heap.size wr ((wr.alloc (.cells #[.int .i64 1, .string ⟨#[]⟩, .int .i64 0, .int .i64 0, .int .i64 0, .string ⟨#[]⟩, .bool false, .string ⟨#[]⟩, .bool false, .slice none 0 0] 57)) ) := (bel1 wr _)
    have hpa := read_any ⟨a.toArray⟩ ((wr.alloc (.cells #[.int .i64 1, .string ⟨#[]⟩, .int .i64 0, .int .i64 0, .int .i64 0, .string ⟨#[]⟩, .bool false, .string ⟨#[]⟩, .bool false, .slice none 0 0] 57)) ) (by rw [bsz]; omega) (HLV.out.below (HA.out.rw_.bel.trans (hBW.mono HA.out.rw_.bel.size))) (HMV.out.below (HA.out.rw_.bel.trans (hBW.mono HA.out.rw_.bel.size)))
    rw [show (⟨a.toArray⟩ : ByteArray).data.toList = a from by simp, show parseFew a = parseAt a from by unfold parseAt; rw [if_neg (by omega)]] at hpa
    have HPK := Lib.hid (fun h => leaf_of_parse (t := a) (x := (parseAt a).1) h rfl)
    have HBW := Lib.hid hBW
    have HWN : Hid (Whole ((wr.alloc (.cells #[.int .i64 1, .string ⟨#[]⟩, .int .i64 0, .int .i64 0, .int .i64 0, .string ⟨#[]⟩, .bool false, .string ⟨#[]⟩, .bool false, .slice none 0 0] 57)) ) wr.heap.size 57 (ndRow 1 At.zero [] false none 0 0)) := Lib.hid (Whole.new wr _ _ (ndRow 1 At.zero [] false none 0 0) rfl)
    generalize parseAt a = g at hpa HQ HPK
    obtain ⟨⟨xn, xo, xv, xs, xf, xb⟩, q⟩ := g
    simp only [AtEnd] at hpa HQ HPK
    have Hpa := Lib.hid hpa; clear hpa hBW
    by_cases hq0 : q = 0
    · subst hq0
      rw [if_pos rfl] at HQ
      have henter : ∀ (args : Array Value) (W : World), (callFunc 97 args).run Tryz.prog W = .ok (.enter 97 args) W := fun args W => by kernel_rfl
      go_upto_region 25 with (first
        | (go_at_call 98; refine (Hsuf.out _).mono ?_; rintro e w2 ⟨rfl, rfl⟩)
        | (go_at_call 100; refine (Hpf.out _).mono ?_; rintro e w2 ⟨rfl, rfl⟩)
        | (go_at_call 101; refine Hpa.out.mono ?_; rintro e w4 ⟨rfl, hb4⟩; refine Hid.out ?_))
      refine Lib.hid ?_
      have HN4 := Lib.hid (HWN.out.below hb4 HWN.out.lt)
      have HB4 := Lib.hid (HBW.out.trans (hb4.mono HBW.out.size))
      clear hb4 HBW HWN
      unfold ndRow At.zero at HN4
      have z0 := HN4.out.cell 0; have z1 := HN4.out.cell 1; have z2 := HN4.out.cell 2; have z3 := HN4.out.cell 3; have z4 := HN4.out.cell 4; have z5 := HN4.out.cell 5; have z6 := HN4.out.cell 6; have z7 := HN4.out.cell 7; have z8 := HN4.out.cell 8; have z9 := HN4.out.cell 9
      have y0 := HN4.out.free 0; have y1 := HN4.out.free 1; have y2 := HN4.out.free 2; have y3 := HN4.out.free 3; have y4 := HN4.out.free 4; have y5 := HN4.out.free 5; have y6 := HN4.out.free 6; have y7 := HN4.out.free 7; have y8 := HN4.out.free 8; have y9 := HN4.out.free 9
      simp only [List.getElem?_cons_zero, List.getElem?_cons_succ] at z0 z1 z2 z3 z4 z5 z6 z7 z8 z9
      have hlt4 := HN4.out.lt
      go_upto_region 28 with fail
      obtain ⟨wz, hwz, hW, hF⟩ := store6 HN4.out (.string ⟨xn.toArray⟩) (.int .i64 xo) (.int .i64 xv) (.int .i64 xs) (.string ⟨xf.toArray⟩) (.bool xb)
      rw [hwz]
      clear hwz z0 z1 z2 z3 z4 z5 z6 z7 z8 z9 y0 y1 y2 y3 y4 y5 y6 y7 y8 y9
      have hBZ := (HB4.out.trans (hF.below HB4.out.size (fun i e => by omega))).alloc (Nat.le_trans HB4.out.size hF.size) (.cells #[.string ⟨xn.toArray⟩, .int .i64 xo, .int .i64 xv, .int .i64 xs, .string ⟨xf.toArray⟩, .bool xb] 26)
      have hWZ := hW.alloc (.cells #[.string ⟨xn.toArray⟩, .int .i64 xo, .int .i64 xv, .int .i64 xs, .string ⟨xf.toArray⟩, .bool xb] 26)
      clear hF hW hlt4 hb0 hb1 hblt hcell hwlt
      generalize wz.alloc _ = W5 at hBZ hWZ ⊢
      have Hput := Lib.hid (rput_any (ndRow 1 ⟨xn, xo, xv, xs, xf, xb⟩ [] false none 0 0) (.mk 1 ⟨xn, xo, xv, xs, xf, xb⟩ [] false []) (HA.out.rw_.below hBZ) (HA.out.bo.below hBZ) (leaf_nd (HPK.out trivial).1) HQ.out (by rw [HM.out]; omega) HA.out.ys (by omega))
      unfold ndRow at Hput
      have g0 := hWZ.cell 0; have g1 := hWZ.cell 1; have g2 := hWZ.cell 2; have g3 := hWZ.cell 3; have g4 := hWZ.cell 4; have g5 := hWZ.cell 5; have g6 := hWZ.cell 6; have g7 := hWZ.cell 7; have g8 := hWZ.cell 8; have g9 := hWZ.cell 9
      simp only [List.getElem?_cons_zero, List.getElem?_cons_succ] at g0 g1 g2 g3 g4 g5 g6 g7 g8 g9
      have hltz := hWZ.lt
      clear hWZ hBZ HN4 HB4
      go_wp2_with (first | (go_at_call 97; refine Hput.out.mono ?_; rintro e wp ⟨rfl, hst⟩; refine Hid.out ?_))
      refine Lib.hid ?_
      have HST := Lib.hid hst
      clear hst
      go_wp2_with fail
      go_roundg (gk - 1)
      case measure => have := Hj.out; omega
      case rel => exact ⟨j + 1, Lib.hid (by have := Hj.out; omega), by go_num, HST⟩
    · have HQ0 : Hid (Q = none) := Lib.hid (by rw [HQ.out, if_neg hq0])
      have h1 : (q != 0) = true := by simpa using hq0
      clear hq0
      go_wp2_with (first
        | (go_at_call 98; refine (Hsuf.out _).mono ?_; rintro e w2 ⟨rfl, rfl⟩)
        | (go_at_call 100; refine (Hpf.out _).mono ?_; rintro e w2 ⟨rfl, rfl⟩)
        | (go_at_call 101; refine Hpa.out.mono ?_; rintro e w4 ⟨rfl, hb4⟩; refine Hid.out ?_))
      refine Lib.hid ?_
      have HB4 := Lib.hid (HA.out.rw_.below (HBW.out.trans (hb4.mono HBW.out.size))); clear hb4
      go_wp2_with (first | (go_at_call 96; refine (rnbad_any _).mono ?_; rintro e wb ⟨rfl, hbb⟩; refine Hid.out ?_))
      refine Lib.hid ?_
      have HRW := Lib.hid (Rw.below ((HB4.out.below (bel1 _ _))) hbb)
      clear hbb
      have z0 := HRW.out.res.cell 0; have z1 := HRW.out.res.cell 1; have z2 := HRW.out.res.cell 2; have z3 := HRW.out.res.cell 3; have z4 := HRW.out.res.cell 4; have z5 := HRW.out.res.cell 5; have z6 := HRW.out.res.cell 6; have z7 := HRW.out.res.cell 7; have z8 := HRW.out.res.cell 8; have z9 := HRW.out.res.cell 9
      have y0 := HRW.out.res.free 0; have y1 := HRW.out.res.free 1; have y2 := HRW.out.res.free 2; have y3 := HRW.out.res.free 3; have y4 := HRW.out.res.free 4; have y5 := HRW.out.res.free 5; have y6 := HRW.out.res.free 6; have y7 := HRW.out.res.free 7; have y8 := HRW.out.res.free 8; have y9 := HRW.out.res.free 9
      simp only [List.getElem?_cons_zero, List.getElem?_cons_succ] at z0 z1 z2 z3 z4 z5 z6 z7 z8 z9
      have hz9 := HRW.out.res.lt
      go_wp2_with fail
      obtain ⟨wz, hwz, hW, hF, hsz⟩ := store10 HRW.out.res rfl (.int .i64 0) (.string ⟨#[]⟩) (.int .i64 0) (.int .i64 0) (.int .i64 0) (.string ⟨#[]⟩) (.bool false) (.string ⟨#[]⟩) (.bool false) (.slice none 0 0)
      rw [hwz]
      clear hwz
      have HBEL := far_ownB HRW.out.bel hF (Nat.le_refl _)
      have e0 := hW.cell 0; have e1 := hW.cell 1; have e2 := hW.cell 2; have e3 := hW.cell 3; have e4 := hW.cell 4; have e5 := hW.cell 5; have e6 := hW.cell 6; have e7 := hW.cell 7; have e8 := hW.cell 8; have e9 := hW.cell 9
      simp only [List.getElem?_cons_zero, List.getElem?_cons_succ] at e0 e1 e2 e3 e4 e5 e6 e7 e8 e9
      refine bodyPost_ret (v := .tuple #[.agg #[_, _, _, _, _, _, _, _, _, _], .int .i64 _]) (by simp [results, Tryz.results64, go_sem, e0, e1, e2, e3, e4, e5, e6, e7, e8, e9]; exact ⟨⟨rfl, rfl, rfl, rfl, rfl, rfl, rfl, rfl, rfl, rfl⟩, rfl⟩) rfl ?_
      unfold RNPost
      exact ⟨0, At.zero, [], false, none, 0, 0, by rw [← HT.out, HQ0.out]; rfl, by rw [← HT.out, HQ0.out]; exact RNd.zero _ _, HBEL⟩
end Go.Proofs.YthpkffeiehnamaaGreatDoor
