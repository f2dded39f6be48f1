/- Parts of the proof: walks and plain laws, side by side. -/
import Derived.Test.YthpkffeiehnamaaGreatDoorM24
import Derived.Test.YthpkffeiehnamaaGreatDoorM26
import Derived.Test.YthpkffeiehnamaaGreatDoorM27
set_option linter.unusedVariables false
set_option linter.unusedSimpArgs false
set_option linter.unusedSectionVars false
/- quartermasterref.ReadNeed, a round of its loop: some, if. -/
namespace Go.Proofs.YthpkffeiehnamaaGreatDoor
open Go.RowKit Qm

set_option maxRecDepth 100000 in
set_option maxHeartbeats 12800000 in
theorem rn_head (s : ByteArray) (w : World) (hs0 : s.size ≤ 20000) (HSZ : Hid (s.size = s.data.toList.length)) (HLV : Hid (LaidV w)) (HMV : Hid (MaxV w)) (R : Nd × Int) (ws : List Qm.W) (Hw1 : Hid (∀ (x : Qm.W), x ∈ ws → List.length x ≤ s.size)) (Q : Option Nd) (HT : Hid (stkTold Q = R)) (n : Nat) (hw2 : n ≤ s.size + 1) (HN : Hid (ws.length = n)) (gk : Nat) (wr : World) (u3 u10 u11 u12 u13 u14 u19 u20 u21 u22 u23 u24 u25 u26 u27 u28 u29 u30 u31 u32 u33 u34 u35 u36 u37 u38 u39 u40 u41 u42 u43 u44 u45 u46 u47 u48 u49 u50 u51 u52 u53 u54 u55 u56 u57 u58 u59 u60 u61 u62 u63 u64 u65 u66 u67 u68 u69 u70 u71 u72 u73 u74 u75 u76 u77 u78 u79 u80 u81 u82 u83 u84 u85 u86 u87 u88 u89 u90 u91 u92 u93 u94 u95 u96 u97 u98 u99 u100 u101 u102 u103 u104 u105 u106 u107 u108 u109 u110 u111 u112 u113 u114 u115 u116 u117 u118 u119 u120 u121 u122 u123 u124 u125 u126 u127 u128 u129 u130 u131 u132 u133 u134 u135 u136 u137 u138 u139 u140 u141 u142 u143 u144 u145 u146 u147 u148 u149 u150 u151 u152 u153 u154 u155 u156 u157 u158 u159 u160 u161 : Value) (J : Nat → Act → World → Prop) (K K1 : Act → World → Prop) (hJ : rnJ s w ws Q n J) (hK : ∀ (a' : Act) (w' : World), Handed J gk a' w' → K a' w') (j : Nat) (Hj : Hid (j + gk = n)) (fs : List Fr) (hs : List Hd) (A : Option Addr) (c : Nat) (HA : Hid (Ra w ws j Q fs hs A c wr)) (hj : j < n)
    (hsel : ∀ a, ws[j]? = some a → a ≠ [41] ∧ (fs.length ≠ 4 ∧ (a ≠ [40] ∧ (a = [124, 124] ∨ a.getLast? = some 63)))) :
    Code.wp Tryz.prog (roundOf Tryz.f64) (Exit.then K (Exit.inBlock 0 (Exit.then K1 (bodyPost Tryz.prog Tryz.f64 (fun e w' => RNPost w R e w'))))) (rnFrame s w n u3 (.int .i64 j) u10 u11 u12 u13 u14 u19 u20 u21 u22 u23 u24 u25 u26 u27 u28 u29 u30 u31 u32 u33 u34 u35 u36 u37 u38 u39 u40 u41 u42 u43 u44 u45 u46 u47 u48 u49 u50 u51 u52 u53 u54 u55 u56 u57 u58 u59 u60 u61 u62 u63 u64 u65 u66 u67 u68 u69 u70 u71 u72 u73 u74 u75 u76 u77 u78 u79 u80 u81 u82 u83 u84 u85 u86 u87 u88 u89 u90 u91 u92 u93 u94 u95 u96 u97 u98 u99 u100 u101 u102 u103 u104 u105 u106 u107 u108 u109 u110 u111 u112 u113 u114 u115 u116 u117 u118 u119 u120 u121 u122 u123 u124 u125 u126 u127 u128 u129 u130 u131 u132 u133 u134 u135 u136 u137 u138 u139 u140 u141 u142 u143 u144 u145 u146 u147 u148 u149 u150 u151 u152 u153 u154 u155 u156 u157 u158 u159 u160 u161) wr := by
  have hb0 := HA.out.bo.h.cell 0
  have hb1 := HA.out.bo.o.cell 0
  simp only [List.getElem?_cons_zero] at hb0 hb1
  have hblt := HA.out.bo.h.lt
  obtain ⟨a, ha⟩ : ∃ a, ws[j]? = some a := ⟨_, List.getElem?_eq_getElem (by have := HN.out; omega)⟩
  have hq : Q = STK fs (a :: ws.drop (j + 1)) := by
    rw [HA.out.q, List.drop_eq_getElem_cons (by have := HN.out; omega)]
    congr 2
    rw [List.getElem?_eq_getElem (by have := HN.out; omega)] at ha
    injection ha
  have hla : a.length ≤ 20000 := by have := Hw1.out a (List.mem_of_getElem? ha); omega
  have hcell := HA.out.rw_.words.cell j
  rw [show (strs ws)[j]? = some (.string ⟨a.toArray⟩) by simp [strs, ha]] at hcell
  have hwlt := HA.out.rw_.words.lt
  have HQ := Lib.hid hq
  have hsl := hsel a ha
  clear hq ha hsel
  obtain ⟨i0, hi, hz0, hz1, hz2⟩ : ∃ i0, Tryz.prog.info? 57 = some i0 ∧ i0.zero = some (.agg #[.int .i64 0, .string ⟨#[]⟩, .int .i64 0, .int .i64 0, .int .i64 0, .string ⟨#[]⟩, .bool false, .string ⟨#[]⟩, .bool false, .slice none 0 0]) ∧ i0.size = 10 ∧ i0.bytes = 120 := by
    have h := need_info2
    cases hh : Tryz.prog.info? 57 with
    | none => rw [hh] at h; simp at h
    | some i => rw [hh] at h; simp at h; exact ⟨i, rfl, h.1, h.2.1, h.2.2⟩
  have Hi := Lib.hid hi; have Hz0 := Lib.hid hz0; have Hz1 := Lib.hid hz1; have Hz2 := Lib.hid hz2
  clear hi hz0 hz1 hz2
  unfold rnJ rnFrame at hJ
  unfold rnFrame
  show Code.wp Tryz.prog (Code.seq _ _) _ _ _
  obtain ⟨h41, hsl⟩ := hsl
  rw [STK_cons, if_neg h41] at HQ
  have h41' : (a == [41]) = false := by simpa using h41
  obtain ⟨h4, h40, hsl⟩ := hsl
  rw [if_neg h4] at HQ
  obtain ⟨m, hm⟩ : ∃ m, fs.length = m := ⟨_, rfl⟩
  rw [hm] at hb1 h4
  have hm4 : m < 4 := by have := HA.out.few; omega
  have hm4' : ((m : Int) == 4) = false := by simp; omega
  have HM := Lib.hid hm; clear hm
  unfold itemS at HQ
  go_upto_block 2 with fail
  have h40' : (a == [40]) = false := by simpa using h40
  rw [if_neg h40] at HQ
  go_cut [] (fun wx => CutN wr fs ws (j + 1) Q wx)
  case first =>
    by_cases h124 : a = [124, 124]
    · skip
      subst h124
      rw [if_pos rfl] at HQ
      go_wp2_with fail
      go_meet
      case rel => exact ⟨4, [], false, Nat.zero_le _, Whole.new wr _ _ (ndRow 4 At.zero [] false none 0 0) rfl, bel1 wr _, HQ.out⟩
    have h124' : (a == [124, 124]) = false := by simpa using h124
    rw [if_neg h124] at HQ
    have h63 : a.getLast? = some 63 := hsl.resolve_left h124
    have hsuf := fun wx => Tryz.strings_HasSuffix ⟨a.toArray⟩ ⟨#[63]⟩ wx (by rw [bsz]; omega)
    rw [show (⟨a.toArray⟩ : ByteArray).data.toList = a from by simp, show (⟨#[63]⟩ : ByteArray).data.toList = [63] from rfl] at hsuf
    rw [if_pos h63] at HQ
    rw [show Lib.hasSuffix a [63] = true from suffix_last.2 h63] at hsuf
    have Hsuf := Lib.hid hsuf; clear hsuf
    have hts := fun wx => Tryz.strings_TrimSuffix ⟨a.toArray⟩ ⟨#[63]⟩ wx (by rw [bsz]; omega)
    rw [show (⟨a.toArray⟩ : ByteArray).data.toList = a from by simp, show (⟨#[63]⟩ : ByteArray).data.toList = [63] from rfl, show Lib.trimSuffix a [63] = a.dropLast from by unfold Lib.trimSuffix; rw [if_pos (suffix_last.2 h63), List.dropLast_eq_take]; rfl] at hts
    have hdl : a.dropLast.length ≤ 20000 := by rw [List.length_dropLast]; omega
    generalize a.dropLast = dl at hts HQ hdl
    have Hts := Lib.hid hts; clear hts
    have hpf := fun wx => Tryz.strings_HasPrefix ⟨dl.toArray⟩ ⟨#[33]⟩ wx
    rw [show (⟨dl.toArray⟩ : ByteArray).data.toList = dl from by simp, show (⟨#[33]⟩ : ByteArray).data.toList = [33] from rfl, cut33b] at hpf
    by_cases hbang : (cutBang dl).2 = true
    · obtain ⟨f, rfl⟩ : ∃ f, dl = 33 :: f := by
        cases dl with
        | nil => simp [cutBang] at hbang
        | cons c r =>
          by_cases h : c = 33
          · exact ⟨r, by rw [h]⟩
          · simp [cutBang, h] at hbang
      rw [hbang] at hpf
      have hcb : cutBang (33 :: f) = (f, true) := rfl
      rw [hcb] at HQ
      have Hpf := Lib.hid hpf; clear hpf
      have hext : (⟨(33 :: f).toArray⟩ : ByteArray).extract 1 (f.length + 1) = ⟨f.toArray⟩ := by
        apply ByteArray.ext; simp [ByteArray.extract, ByteArray.copySlice]
      have hbz : (⟨(33 :: f).toArray⟩ : ByteArray).size = f.length + 1 := by rw [bsz]; rfl
      go_wp2_with (first
        | (go_at_call 98; refine (Hsuf.out _).mono ?_; rintro e w2 ⟨rfl, rfl⟩)
        | (go_at_call 99; refine (Hts.out _).mono ?_; rintro e w2 ⟨rfl, rfl⟩)
        | (go_at_call 100; refine (Hpf.out _).mono ?_; rintro e w2 ⟨rfl, rfl⟩))
      go_region
      have hnm := fun wx => rname_any ⟨f.toArray⟩ wx (by rw [bsz]; unfold maxLen; first | omega | (simp only [List.length_cons] at hdl; omega))
      rw [show (⟨f.toArray⟩ : ByteArray).data.toList = f from by simp] at hnm
      have hfl : f.length ≤ 20000 := by first | exact hdl | (simp only [List.length_cons] at hdl; omega)
      by_cases hn : isName f = true
      · rw [hn] at hnm
        have HQN : Hid (Q = openS STK ⟨5, f, true, []⟩ fs (ws.drop (j + 1))) := Lib.hid (by rw [HQ.out]; simp only [hn, if_true])
        have Hnm := Lib.hid hnm; clear hnm hn
        go_wp2_with (first
          | (go_at_call 98; refine (Hsuf.out _).mono ?_; rintro e w2 ⟨rfl, rfl⟩)
          | (go_at_call 99; refine (Hts.out _).mono ?_; rintro e w2 ⟨rfl, rfl⟩)
          | (go_at_call 100; refine (Hpf.out _).mono ?_; rintro e w2 ⟨rfl, rfl⟩)
          | (go_at_call 52; refine (Hnm.out _).mono ?_; rintro e w4 ⟨rfl, hb4⟩; refine Hid.out ?_))
        refine Lib.hid ?_
        have HB4 := Lib.hid hb4; clear hb4
        go_wp2_with fail
        go_meet
        case rel =>
          have hW : Whole ((wr.alloc (.cells #[.int .i64 5, .string ⟨#[]⟩, .int .i64 0, .int .i64 0, .int .i64 0, .string ⟨#[]⟩, .bool false, .string ⟨f.toArray⟩, .bool true, .slice none 0 0] 57)).drew) wr.heap.size 57 (ndRow 5 At.zero f true none 0 0) := Whole.new wr _ _ (ndRow 5 At.zero f true none 0 0) rfl
          have hB : Below wr.heap.size wr ((wr.alloc (.cells #[.int .i64 5, .string ⟨#[]⟩, .int .i64 0, .int .i64 0, .int .i64 0, .string ⟨#[]⟩, .bool false, .string ⟨f.toArray⟩, .bool true, .slice none 0 0] 57)).drew) := (bel1d wr _)
          exact ⟨5, f, true, hfl, hW.below HB4.out hW.lt, hB.trans (HB4.out.mono hB.size), HQN.out⟩
      · have hn' : isName f = false := by simpa using hn
        rw [hn'] at hnm
        have HQ0 : Hid (Q = none) := Lib.hid (by rw [HQ.out]; simp [hn'])
        have Hnm := Lib.hid hnm; clear hnm hn hn'
        go_wp2_with (first
          | (go_at_call 98; refine (Hsuf.out _).mono ?_; rintro e w2 ⟨rfl, rfl⟩)
          | (go_at_call 99; refine (Hts.out _).mono ?_; rintro e w2 ⟨rfl, rfl⟩)
          | (go_at_call 100; refine (Hpf.out _).mono ?_; rintro e w2 ⟨rfl, rfl⟩)
          | (go_at_call 52; refine (Hnm.out _).mono ?_; rintro e w4 ⟨rfl, hb4⟩; refine Hid.out ?_))
        refine Lib.hid ?_
        have hB : Below wr.heap.size wr ((wr.alloc (.cells #[.int .i64 5, .string ⟨#[]⟩, .int .i64 0, .int .i64 0, .int .i64 0, .string ⟨#[]⟩, .bool false, .string ⟨f.toArray⟩, .bool true, .slice none 0 0] 57)).drew) := (bel1d wr _)
        have HB4 := Lib.hid (HA.out.rw_.below (hB.trans (hb4.mono hB.size))); clear hb4 hB
        go_wp2_with (first | (go_at_call 96; refine (rnbad_any _).mono ?_; rintro e wb ⟨rfl, hbb⟩; refine Hid.out ?_))
        refine Lib.hid ?_
        have HRW := Lib.hid (Rw.below (HB4.out) hbb)
        clear hbb
        have z0 := HRW.out.res.cell 0; have z1 := HRW.out.res.cell 1; have z2 := HRW.out.res.cell 2; have z3 := HRW.out.res.cell 3; have z4 := HRW.out.res.cell 4; have z5 := HRW.out.res.cell 5; have z6 := HRW.out.res.cell 6; have z7 := HRW.out.res.cell 7; have z8 := HRW.out.res.cell 8; have z9 := HRW.out.res.cell 9
        have y0 := HRW.out.res.free 0; have y1 := HRW.out.res.free 1; have y2 := HRW.out.res.free 2; have y3 := HRW.out.res.free 3; have y4 := HRW.out.res.free 4; have y5 := HRW.out.res.free 5; have y6 := HRW.out.res.free 6; have y7 := HRW.out.res.free 7; have y8 := HRW.out.res.free 8; have y9 := HRW.out.res.free 9
        simp only [List.getElem?_cons_zero, List.getElem?_cons_succ] at z0 z1 z2 z3 z4 z5 z6 z7 z8 z9
        have hz9 := HRW.out.res.lt
        go_wp2_with fail
        obtain ⟨wz, hwz, hW, hF, hsz⟩ := store10 HRW.out.res rfl (.int .i64 0) (.string ⟨#[]⟩) (.int .i64 0) (.int .i64 0) (.int .i64 0) (.string ⟨#[]⟩) (.bool false) (.string ⟨#[]⟩) (.bool false) (.slice none 0 0)
        rw [hwz]
        clear hwz
        have HBEL := far_ownB HRW.out.bel hF (Nat.le_refl _)
        have e0 := hW.cell 0; have e1 := hW.cell 1; have e2 := hW.cell 2; have e3 := hW.cell 3; have e4 := hW.cell 4; have e5 := hW.cell 5; have e6 := hW.cell 6; have e7 := hW.cell 7; have e8 := hW.cell 8; have e9 := hW.cell 9
        simp only [List.getElem?_cons_zero, List.getElem?_cons_succ] at e0 e1 e2 e3 e4 e5 e6 e7 e8 e9
        refine bodyPost_ret (v := .tuple #[.agg #[_, _, _, _, _, _, _, _, _, _], .int .i64 _]) (by simp [results, Tryz.results64, go_sem, e0, e1, e2, e3, e4, e5, e6, e7, e8, e9]; exact ⟨⟨rfl, rfl, rfl, rfl, rfl, rfl, rfl, rfl, rfl, rfl⟩, rfl⟩) rfl ?_
        unfold RNPost
        exact ⟨0, At.zero, [], false, none, 0, 0, by rw [← HT.out, HQ0.out]; rfl, by rw [← HT.out, HQ0.out]; exact RNd.zero _ _, HBEL⟩
    · have hb : (cutBang dl).2 = false := by simpa using hbang
      have hcb : cutBang dl = (dl, false) := by
        cases dl with
        | nil => rfl
        | cons c r =>
          by_cases h : c = 33
          · subst h; simp [cutBang] at hb
          · simp [cutBang, h]
      rw [hb] at hpf
      rw [hcb] at HQ
      have Hpf := Lib.hid hpf; clear hpf hbang hb hcb
      have hnm := fun wx => rname_any ⟨dl.toArray⟩ wx (by rw [bsz]; unfold maxLen; first | omega | (simp only [List.length_cons] at hdl; omega))
      rw [show (⟨dl.toArray⟩ : ByteArray).data.toList = dl from by simp] at hnm
      have hfl : dl.length ≤ 20000 := by first | exact hdl | (simp only [List.length_cons] at hdl; omega)
      by_cases hn : isName dl = true
      · rw [hn] at hnm
        have HQN : Hid (Q = openS STK ⟨5, dl, false, []⟩ fs (ws.drop (j + 1))) := Lib.hid (by rw [HQ.out]; simp only [hn, if_true])
        have Hnm := Lib.hid hnm; clear hnm hn
        go_wp2_with (first
          | (go_at_call 98; refine (Hsuf.out _).mono ?_; rintro e w2 ⟨rfl, rfl⟩)
          | (go_at_call 99; refine (Hts.out _).mono ?_; rintro e w2 ⟨rfl, rfl⟩)
          | (go_at_call 100; refine (Hpf.out _).mono ?_; rintro e w2 ⟨rfl, rfl⟩)
          | (go_at_call 52; refine (Hnm.out _).mono ?_; rintro e w4 ⟨rfl, hb4⟩; refine Hid.out ?_))
        refine Lib.hid ?_
        have HB4 := Lib.hid hb4; clear hb4
        go_wp2_with fail
        go_meet
        case rel =>
          have hW : Whole ((wr.alloc (.cells #[.int .i64 5, .string ⟨#[]⟩, .int .i64 0, .int .i64 0, .int .i64 0, .string ⟨#[]⟩, .bool false, .string ⟨dl.toArray⟩, .bool false, .slice none 0 0] 57)) ) wr.heap.size 57 (ndRow 5 At.zero dl false none 0 0) := Whole.new wr _ _ (ndRow 5 At.zero dl false none 0 0) rfl
          have hB : Below wr.heap.size wr ((wr.alloc (.cells #[.int .i64 5, .string ⟨#[]⟩, .int .i64 0, .int .i64 0, .int .i64 0, .string ⟨#[]⟩, .bool false, .string ⟨dl.toArray⟩, .bool false, .slice none 0 0] 57)) ) := (bel1 wr _)
          exact ⟨5, dl, false, hfl, hW.below HB4.out hW.lt, hB.trans (HB4.out.mono hB.size), HQN.out⟩
      · have hn' : isName dl = false := by simpa using hn
        rw [hn'] at hnm
        have HQ0 : Hid (Q = none) := Lib.hid (by rw [HQ.out]; simp [hn'])
        have Hnm := Lib.hid hnm; clear hnm hn hn'
        go_wp2_with (first
          | (go_at_call 98; refine (Hsuf.out _).mono ?_; rintro e w2 ⟨rfl, rfl⟩)
          | (go_at_call 99; refine (Hts.out _).mono ?_; rintro e w2 ⟨rfl, rfl⟩)
          | (go_at_call 100; refine (Hpf.out _).mono ?_; rintro e w2 ⟨rfl, rfl⟩)
          | (go_at_call 52; refine (Hnm.out _).mono ?_; rintro e w4 ⟨rfl, hb4⟩; refine Hid.out ?_))
        refine Lib.hid ?_
        have hB : Below wr.heap.size wr ((wr.alloc (.cells #[.int .i64 5, .string ⟨#[]⟩, .int .i64 0, .int .i64 0, .int .i64 0, .string ⟨#[]⟩, .bool false, .string ⟨dl.toArray⟩, .bool false, .slice none 0 0] 57)) ) := (bel1 wr _)
        have HB4 := Lib.hid (HA.out.rw_.below (hB.trans (hb4.mono hB.size))); clear hb4 hB
        go_wp2_with (first | (go_at_call 96; refine (rnbad_any _).mono ?_; rintro e wb ⟨rfl, hbb⟩; refine Hid.out ?_))
        refine Lib.hid ?_
        have HRW := Lib.hid (Rw.below (HB4.out) hbb)
        clear hbb
        have z0 := HRW.out.res.cell 0; have z1 := HRW.out.res.cell 1; have z2 := HRW.out.res.cell 2; have z3 := HRW.out.res.cell 3; have z4 := HRW.out.res.cell 4; have z5 := HRW.out.res.cell 5; have z6 := HRW.out.res.cell 6; have z7 := HRW.out.res.cell 7; have z8 := HRW.out.res.cell 8; have z9 := HRW.out.res.cell 9
        have y0 := HRW.out.res.free 0; have y1 := HRW.out.res.free 1; have y2 := HRW.out.res.free 2; have y3 := HRW.out.res.free 3; have y4 := HRW.out.res.free 4; have y5 := HRW.out.res.free 5; have y6 := HRW.out.res.free 6; have y7 := HRW.out.res.free 7; have y8 := HRW.out.res.free 8; have y9 := HRW.out.res.free 9
        simp only [List.getElem?_cons_zero, List.getElem?_cons_succ] at z0 z1 z2 z3 z4 z5 z6 z7 z8 z9
        have hz9 := HRW.out.res.lt
        go_wp2_with fail
        obtain ⟨wz, hwz, hW, hF, hsz⟩ := store10 HRW.out.res rfl (.int .i64 0) (.string ⟨#[]⟩) (.int .i64 0) (.int .i64 0) (.int .i64 0) (.string ⟨#[]⟩) (.bool false) (.string ⟨#[]⟩) (.bool false) (.slice none 0 0)
        rw [hwz]
        clear hwz
        have HBEL := far_ownB HRW.out.bel hF (Nat.le_refl _)
        have e0 := hW.cell 0; have e1 := hW.cell 1; have e2 := hW.cell 2; have e3 := hW.cell 3; have e4 := hW.cell 4; have e5 := hW.cell 5; have e6 := hW.cell 6; have e7 := hW.cell 7; have e8 := hW.cell 8; have e9 := hW.cell 9
        simp only [List.getElem?_cons_zero, List.getElem?_cons_succ] at e0 e1 e2 e3 e4 e5 e6 e7 e8 e9
        refine bodyPost_ret (v := .tuple #[.agg #[_, _, _, _, _, _, _, _, _, _], .int .i64 _]) (by simp [results, Tryz.results64, go_sem, e0, e1, e2, e3, e4, e5, e6, e7, e8, e9]; exact ⟨⟨rfl, rfl, rfl, rfl, rfl, rfl, rfl, rfl, rfl, rfl⟩, rfl⟩) rfl ?_
        unfold RNPost
        exact ⟨0, At.zero, [], false, none, 0, 0, by rw [← HT.out, HQ0.out]; rfl, by rw [← HT.out, HQ0.out]; exact RNd.zero _ _, HBEL⟩
  case rest =>
    obtain ⟨k, f, no, hf, hN, hbl, hq⟩ := hcut
    have HAb := Lib.hid (HA.out.below hbl)
    have HNb := Lib.hid hN
    have HNE : Hid (∀ i, (Value.slice A m c).ownBlock = some i → i ≠ wr.heap.size) := Lib.hid fun i e => by have := HA.out.bo.op.own; rw [HM.out] at this; have := (this.lt i e).2; omega
    clear HQ hN hbl hb0 hb1 hblt hcell hwlt
    by_cases hj2 : j + 1 < n
    · obtain ⟨a2, ha2⟩ : ∃ a2, ws[j + 1]? = some a2 := ⟨_, List.getElem?_eq_getElem (by have := HN.out; omega)⟩
      have hcell2 := HAb.out.rw_.words.cell (j + 1)
      rw [show (strs ws)[j + 1]? = some (.string ⟨a2.toArray⟩) by simp [strs, ha2]] at hcell2
      have hwlt2 := HAb.out.rw_.words.lt
      have hdr : ws.drop (j + 1) = a2 :: ws.drop (j + 2) := by
        rw [List.drop_eq_getElem_cons (by have := HN.out; omega)]
        congr 1
        rw [List.getElem?_eq_getElem (by have := HN.out; omega)] at ha2
        injection ha2
      rw [hdr] at hq
      have hji : ((j : Int) + 1 == (n : Int)) = false := by simp; omega
      by_cases h2 : a2 = [40]
      · subst h2
        have HQ : Hid (Q = STK (⟨k, f, no, []⟩ :: fs) (ws.drop (j + 2))) := Lib.hid (by rw [hq, openS, if_pos rfl])
        clear hq hdr ha2
        go_upto_region 43 with fail
        clear hcell2 hwlt2 hji
        have HO : Hid (wc.ownsRow (w.heap.size + 1 + 1 + 1 + 1) 57 10 (.slice A m c) m (frows fs hs)) := Lib.hid (by have := HAb.out.bo.op.own; rw [HM.out] at this; exact this)
        have hsz := HAb.out.rw_.sz
        have hbo := HAb.out.bo.o.lt
        have hb1 := HAb.out.bo.o.cell 0
        rw [HM.out] at hb1
        have hnl := HNb.out.lt
        have g0 := HNb.out.cell 0; have g1 := HNb.out.cell 1; have g2 := HNb.out.cell 2; have g3 := HNb.out.cell 3; have g4 := HNb.out.cell 4; have g5 := HNb.out.cell 5; have g6 := HNb.out.cell 6; have g7 := HNb.out.cell 7; have g8 := HNb.out.cell 8; have g9 := HNb.out.cell 9
        simp only [ndRow, At.zero, List.getElem?_cons_zero, List.getElem?_cons_succ] at hb1 g0 g1 g2 g3 g4 g5 g6 g7 g8 g9
        have hb1' : ∀ o1 : Obj, (wc.alloc o1).cell? ⟨w.heap.size + 1, 0, none⟩ = some (.slice A m c) := fun o1 => ((bel1 wc o1).cell (p := ⟨w.heap.size + 1, 0, none⟩) hbo).trans hb1
        have hm0 : (0 : Int) ≤ (m : Int) := by omega
        have hm1 : (m : Int) < (m : Int) + 1 := by omega
        have hm2 : m < m + 1 := by omega
        go_region_law (refine step_append_own rfl (.tmp 156) (.tmp 159) 55 rfl (w.heap.size + 1 + 1 + 1 + 1) 57 i0 (.agg #[.int .i64 0, .string ⟨#[]⟩, .int .i64 0, .int .i64 0, .int .i64 0, .string ⟨#[]⟩, .bool false, .string ⟨#[]⟩, .bool false, .slice none 0 0]) 10 120 Tryz.underlying55 Hi.out Hz0.out Hz1.out Hz2.out rfl (by decide) (.slice A m c) m (frows fs hs) (by simp [Act.eval, Act.put]) (own_bel HO.out (bel1d _ _)) ⟨wc.heap.size, 0, none⟩ 1 1 [.int .i64 0, .string ⟨#[]⟩, .int .i64 0, .int .i64 0, .int .i64 0, .string ⟨#[]⟩, .bool false, .string ⟨#[]⟩, .bool false, .slice none 0 0] (by simp [Act.eval, Act.put]) rfl (ncells1d _ _ _) (by simp [Value.oneCell']) (by unfold maxLen; omega) (by omega) (by simp; omega) ?_; intro v' w8 hown8 hg8 _ hv8; obtain ⟨A8, c8, rfl, _⟩ := own_formK hown8; obtain ⟨b8, rfl⟩ := own_block hown8 (by omega); have HG8 := Lib.hid (grown_undrew hg8); have HO8 := Lib.hid hown8; have HV8 := Lib.hid hv8; have HAF := Lib.hid (HAb.out.bo.aft (bel1 wc _) HM.out hown8 HG8.out (HNb.out.alloc _) HNE.out); clear hown8 hg8 hv8; obtain ⟨z0, y0⟩ := HAF.out.cell 0 (by decide); obtain ⟨z1, y1⟩ := HAF.out.cell 1 (by decide); obtain ⟨z2, y2⟩ := HAF.out.cell 2 (by decide); obtain ⟨z3, y3⟩ := HAF.out.cell 3 (by decide); obtain ⟨z4, y4⟩ := HAF.out.cell 4 (by decide); obtain ⟨z5, y5⟩ := HAF.out.cell 5 (by decide); obtain ⟨z6, y6⟩ := HAF.out.cell 6 (by decide); obtain ⟨z7, y7⟩ := HAF.out.cell 7 (by decide); obtain ⟨z8, y8⟩ := HAF.out.cell 8 (by decide); obtain ⟨z9, y9⟩ := HAF.out.cell 9 (by decide); simp only [List.getElem?_cons_zero, List.getElem?_cons_succ, Nat.add_zero] at z0 z1 z2 z3 z4 z5 z6 z7 z8 z9 y0 y1 y2 y3 y4 y5 y6 y7 y8 y9; have q1 := HAF.out.lt; have q2 := HAF.out.ne; have q3 := HAF.out.o.cell 0; have q4 := HAF.out.o.free 0; have q5 := HAF.out.o.lt; have n0 := HAF.out.n.cell 0; have n1 := HAF.out.n.cell 1; have n2 := HAF.out.n.cell 2; have n3 := HAF.out.n.cell 3; have n4 := HAF.out.n.cell 4; have n5 := HAF.out.n.cell 5; have n6 := HAF.out.n.cell 6; have n7 := HAF.out.n.cell 7; have n8 := HAF.out.n.cell 8; have n9 := HAF.out.n.cell 9; simp only [ndRow, At.zero, List.getElem?_cons_zero, List.getElem?_cons_succ] at q3 n0 n1 n2 n3 n4 n5 n6 n7 n8 n9)
        all_goals (
          clear z0 z1 z2 z3 z4 z5 z6 z7 z8 z9 y0 y1 y2 y3 y4 y5 y6 y7 y8 y9 n0 n1 n2 n3 n4 n5 n6 n7 n8 n9 q1 q2 q3 q4 q5
          generalize hz : World.setCell _ _ _ = wz
          have HZ := Lib.hid (HAb.out.opened (wz := wz) (k := k) (f := f) (no := no) HM.out hm4 HQ.out (by omega) (by first | exact Nat.zero_le _ | (unfold maxLen; omega)) (bel1 wc _) HO8.out HG8.out HV8.out (by first | with_reducible exact .inl hz | with_reducible exact .inr hz))
          clear hz HO8 HG8 HV8 HAF
          go_wp2_with fail
          go_roundg (gk - 2)
          case measure => have := Hj.out; omega
          case rel => exact ⟨j + 2, Lib.hid (by have := Hj.out; omega), by go_num, Lib.hid (.inl ⟨_, _, _, _, HZ.out⟩)⟩)
      · have HQ0 : Hid (Q = none) := Lib.hid (by rw [hq, openS, if_neg h2])
        have h2' : (!(a2 == [40])) = true := by simpa using h2
        clear hq hdr ha2
        go_wp2_with (first | (go_at_call 96; refine (rnbad_any _).mono ?_; rintro e wb ⟨rfl, hbb⟩; refine Hid.out ?_))
        refine Lib.hid ?_
        have HRW := Lib.hid (Rw.below (HAb.out.rw_) hbb)
        clear hbb
        have z0 := HRW.out.res.cell 0; have z1 := HRW.out.res.cell 1; have z2 := HRW.out.res.cell 2; have z3 := HRW.out.res.cell 3; have z4 := HRW.out.res.cell 4; have z5 := HRW.out.res.cell 5; have z6 := HRW.out.res.cell 6; have z7 := HRW.out.res.cell 7; have z8 := HRW.out.res.cell 8; have z9 := HRW.out.res.cell 9
        have y0 := HRW.out.res.free 0; have y1 := HRW.out.res.free 1; have y2 := HRW.out.res.free 2; have y3 := HRW.out.res.free 3; have y4 := HRW.out.res.free 4; have y5 := HRW.out.res.free 5; have y6 := HRW.out.res.free 6; have y7 := HRW.out.res.free 7; have y8 := HRW.out.res.free 8; have y9 := HRW.out.res.free 9
        simp only [List.getElem?_cons_zero, List.getElem?_cons_succ] at z0 z1 z2 z3 z4 z5 z6 z7 z8 z9
        have hz9 := HRW.out.res.lt
        go_wp2_with fail
        obtain ⟨wz, hwz, hW, hF, hsz⟩ := store10 HRW.out.res rfl (.int .i64 0) (.string ⟨#[]⟩) (.int .i64 0) (.int .i64 0) (.int .i64 0) (.string ⟨#[]⟩) (.bool false) (.string ⟨#[]⟩) (.bool false) (.slice none 0 0)
        rw [hwz]
        clear hwz
        have HBEL := far_ownB HRW.out.bel hF (Nat.le_refl _)
        have e0 := hW.cell 0; have e1 := hW.cell 1; have e2 := hW.cell 2; have e3 := hW.cell 3; have e4 := hW.cell 4; have e5 := hW.cell 5; have e6 := hW.cell 6; have e7 := hW.cell 7; have e8 := hW.cell 8; have e9 := hW.cell 9
        simp only [List.getElem?_cons_zero, List.getElem?_cons_succ] at e0 e1 e2 e3 e4 e5 e6 e7 e8 e9
        refine bodyPost_ret (v := .tuple #[.agg #[_, _, _, _, _, _, _, _, _, _], .int .i64 _]) (by simp [results, Tryz.results64, go_sem, e0, e1, e2, e3, e4, e5, e6, e7, e8, e9]; exact ⟨⟨rfl, rfl, rfl, rfl, rfl, rfl, rfl, rfl, rfl, rfl⟩, rfl⟩) rfl ?_
        unfold RNPost
        exact ⟨0, At.zero, [], false, none, 0, 0, by rw [← HT.out, HQ0.out]; rfl, by rw [← HT.out, HQ0.out]; exact RNd.zero _ _, HBEL⟩
    · have HQ0 : Hid (Q = none) := Lib.hid (by rw [hq, List.drop_eq_nil_of_le (by have := HN.out; omega)]; rfl)
      have hji : ((j : Int) + 1 == (n : Int)) = true := by simp; omega
      clear hq
      go_wp2_with (first | (go_at_call 96; refine (rnbad_any _).mono ?_; rintro e wb ⟨rfl, hbb⟩; refine Hid.out ?_))
      refine Lib.hid ?_
      have HRW := Lib.hid (Rw.below (HAb.out.rw_) hbb)
      clear hbb
      have z0 := HRW.out.res.cell 0; have z1 := HRW.out.res.cell 1; have z2 := HRW.out.res.cell 2; have z3 := HRW.out.res.cell 3; have z4 := HRW.out.res.cell 4; have z5 := HRW.out.res.cell 5; have z6 := HRW.out.res.cell 6; have z7 := HRW.out.res.cell 7; have z8 := HRW.out.res.cell 8; have z9 := HRW.out.res.cell 9
      have y0 := HRW.out.res.free 0; have y1 := HRW.out.res.free 1; have y2 := HRW.out.res.free 2; have y3 := HRW.out.res.free 3; have y4 := HRW.out.res.free 4; have y5 := HRW.out.res.free 5; have y6 := HRW.out.res.free 6; have y7 := HRW.out.res.free 7; have y8 := HRW.out.res.free 8; have y9 := HRW.out.res.free 9
      simp only [List.getElem?_cons_zero, List.getElem?_cons_succ] at z0 z1 z2 z3 z4 z5 z6 z7 z8 z9
      have hz9 := HRW.out.res.lt
      go_wp2_with fail
      obtain ⟨wz, hwz, hW, hF, hsz⟩ := store10 HRW.out.res rfl (.int .i64 0) (.string ⟨#[]⟩) (.int .i64 0) (.int .i64 0) (.int .i64 0) (.string ⟨#[]⟩) (.bool false) (.string ⟨#[]⟩) (.bool false) (.slice none 0 0)
      rw [hwz]
      clear hwz
      have HBEL := far_ownB HRW.out.bel hF (Nat.le_refl _)
      have e0 := hW.cell 0; have e1 := hW.cell 1; have e2 := hW.cell 2; have e3 := hW.cell 3; have e4 := hW.cell 4; have e5 := hW.cell 5; have e6 := hW.cell 6; have e7 := hW.cell 7; have e8 := hW.cell 8; have e9 := hW.cell 9
      simp only [List.getElem?_cons_zero, List.getElem?_cons_succ] at e0 e1 e2 e3 e4 e5 e6 e7 e8 e9
      refine bodyPost_ret (v := .tuple #[.agg #[_, _, _, _, _, _, _, _, _, _], .int .i64 _]) (by simp [results, Tryz.results64, go_sem, e0, e1, e2, e3, e4, e5, e6, e7, e8, e9]; exact ⟨⟨rfl, rfl, rfl, rfl, rfl, rfl, rfl, rfl, rfl, rfl⟩, rfl⟩) rfl ?_
      unfold RNPost
      exact ⟨0, At.zero, [], false, none, 0, 0, by rw [← HT.out, HQ0.out]; rfl, by rw [← HT.out, HQ0.out]; exact RNd.zero _ _, HBEL⟩
end Go.Proofs.YthpkffeiehnamaaGreatDoor

/- quartermasterref.ReadNeed, walked. -/
namespace Go.Proofs.YthpkffeiehnamaaGreatDoor
open Go.RowKit Qm

set_option maxRecDepth 100000 in
set_option maxHeartbeats 12800000 in
theorem rreadNeed_any (s : ByteArray) (w : World) (hs0 : s.size ≤ 20000) (hL : LaidV w) (hM : MaxW w) (hM2 : MaxV w) :
    Calls Tryz.prog 64 #[.string s] w (NParsePost w s.data.toList) := by
  have HSZ := Lib.hid (Lib.size_eq s)
  have HLV := Lib.hid hL; clear hL
  have HMV := Lib.hid hM2; clear hM2
  have HMW := Lib.hid hM; clear hM
  have HT : Hid (stkTold (STK [] (splitB 32 s.data.toList)) = parseNd s.data.toList) := Lib.hid (stk_told _ (by rw [← HSZ.out]; exact hs0))
  have hsp := fun wx hM => split_any s 32 wx (by omega) hM
  obtain ⟨hw1, hw2⟩ := splitB_le (c := 32) (l := s.data.toList)
  rw [← HSZ.out] at hw1 hw2
  unfold NParsePost
  generalize parseNd s.data.toList = R at HT ⊢
  change Calls _ _ _ _ (fun e w' => RNPost w R e w')
  generalize splitB 32 s.data.toList = ws at hsp hw1 hw2 HT
  have Hsp := Lib.hid hsp
  have Hw1 := Lib.hid hw1
  clear hsp hw1
  have HST := Lib.hid (ra_start w ws (by unfold maxLen; omega))
  generalize hQ : STK [] ws = Q at HST HT
  obtain ⟨n, hn⟩ : ∃ n, ws.length = n := ⟨_, rfl⟩
  rw [hn] at hw2 Hsp
  have HN := Lib.hid hn
  clear hn hQ
  obtain ⟨i0, hi, hz0, hz1, hz2⟩ : ∃ i0, Tryz.prog.info? 57 = some i0 ∧ i0.zero = some (.agg #[.int .i64 0, .string ⟨#[]⟩, .int .i64 0, .int .i64 0, .int .i64 0, .string ⟨#[]⟩, .bool false, .string ⟨#[]⟩, .bool false, .slice none 0 0]) ∧ i0.size = 10 ∧ i0.bytes = 120 := by
    have h := need_info2
    cases hh : Tryz.prog.info? 57 with
    | none => rw [hh] at h; simp at h
    | some i => rw [hh] at h; simp at h; exact ⟨i, rfl, h.1, h.2.1, h.2.2⟩
  have Hi := Lib.hid hi; have Hz0 := Lib.hid hz0; have Hz1 := Lib.hid hz1; have Hz2 := Lib.hid hz2
  clear hi hz0 hz1 hz2
  go_enter Tryz.func64, Tryz.ntmps64
  go_wp2_with (first | (go_at_call 47; refine (Hsp.out _ (HMW.out.below (bel3 w _ _ _))).mono ?_; rintro e w1 ⟨rfl, rfl⟩; refine Hid.out ?_))
  refine Lib.hid ?_
  go_wp2_with fail
  generalize (((w.alloc _).alloc _).alloc _).alloc _ = w1 at HST ⊢
  go_loopg [9] n (fun g iv wr => ∃ (j : Nat), Hid (j + g = n) ∧ iv = .int .i64 j ∧ Hid (Rst w ws j Q wr))
  case atStart => exact ⟨0, Lib.hid (Nat.zero_add _), rfl, Lib.hid (.inl ⟨_, _, _, _, HST.out⟩)⟩
  case round =>
    clear HST
    obtain ⟨j, Hj, rfl, HR⟩ := hrel
    have hJ2 : rnJ s w ws Q n _ := ‹∀ (k : Nat) (a' : Act) (w' : World), _ → _›
    rcases HR.out with ⟨fs, hs, A, c, hra⟩ | ⟨p, row, y, hrb⟩
    · have HA := Lib.hid hra
      clear hra HR
      by_cases hj : j < n
      · obtain ⟨a, ha⟩ : ∃ a, ws[j]? = some a := ⟨_, List.getElem?_eq_getElem (by have := HN.out; omega)⟩
        have hone : ∀ b, ws[j]? = some b → b = a := fun b hb => by rw [ha] at hb; injection hb with hb; exact hb.symm
        by_cases h41 : a = [41]
        · exact rn_shut s w hs0 HSZ HLV HMV R ws Hw1 Q HT n hw2 HN gk wr _ _ _ _ _ _ _ _ _ _ _ _ _ _ _ _ _ _ _ _ _ _ _ _ _ _ _ _ _ _ _ _ _ _ _ _ _ _ _ _ _ _ _ _ _ _ _ _ _ _ _ _ _ _ _ _ _ _ _ _ _ _ _ _ _ _ _ _ _ _ _ _ _ _ _ _ _ _ _ _ _ _ _ _ _ _ _ _ _ _ _ _ _ _ _ _ _ _ _ _ _ _ _ _ _ _ _ _ _ _ _ _ _ _ _ _ _ _ _ _ _ _ _ _ _ _ _ _ _ _ _ _ _ _ _ _ _ _ _ _ _ _ _ _ _ _ _ _ _ _ _ _ hJ2 (by assumption) j Hj fs hs A c HA hj (fun b hb => (hone b hb).trans h41)
        by_cases h4 : fs.length = 4
        · exact rn_few s w hs0 HSZ HLV HMV R ws Hw1 Q HT n hw2 HN gk wr _ _ _ _ _ _ _ _ _ _ _ _ _ _ _ _ _ _ _ _ _ _ _ _ _ _ _ _ _ _ _ _ _ _ _ _ _ _ _ _ _ _ _ _ _ _ _ _ _ _ _ _ _ _ _ _ _ _ _ _ _ _ _ _ _ _ _ _ _ _ _ _ _ _ _ _ _ _ _ _ _ _ _ _ _ _ _ _ _ _ _ _ _ _ _ _ _ _ _ _ _ _ _ _ _ _ _ _ _ _ _ _ _ _ _ _ _ _ _ _ _ _ _ _ _ _ _ _ _ _ _ _ _ _ _ _ _ _ _ _ _ _ _ _ _ _ _ _ _ _ _ _ hJ2 (by assumption) j Hj fs hs A c HA hj (fun b hb => by rw [hone b hb]; exact ⟨h41, h4⟩)
        by_cases h40 : a = [40]
        · exact rn_open s w hs0 HSZ HLV HMV R ws Hw1 Q HT n hw2 HN gk wr _ _ _ _ _ _ _ _ _ _ _ _ _ _ _ _ _ _ _ _ _ _ _ _ _ _ _ _ _ _ _ _ _ _ _ _ _ _ _ _ _ _ _ _ _ _ _ _ _ _ _ _ _ _ _ _ _ _ _ _ _ _ _ _ _ _ _ _ _ _ _ _ _ _ _ _ _ _ _ _ _ _ _ _ _ _ _ _ _ _ _ _ _ _ _ _ _ _ _ _ _ _ _ _ _ _ _ _ _ _ _ _ _ _ _ _ _ _ _ _ _ _ _ _ _ _ _ _ _ _ _ _ _ _ _ _ _ _ _ _ _ _ _ _ _ _ _ _ _ _ _ _ hJ2 (by assumption) j Hj fs hs A c HA hj (fun b hb => by rw [hone b hb]; exact ⟨h41, h4, h40⟩)
        by_cases hh : a = [124, 124] ∨ a.getLast? = some 63
        · exact rn_head s w hs0 HSZ HLV HMV R ws Hw1 Q HT n hw2 HN gk wr _ _ _ _ _ _ _ _ _ _ _ _ _ _ _ _ _ _ _ _ _ _ _ _ _ _ _ _ _ _ _ _ _ _ _ _ _ _ _ _ _ _ _ _ _ _ _ _ _ _ _ _ _ _ _ _ _ _ _ _ _ _ _ _ _ _ _ _ _ _ _ _ _ _ _ _ _ _ _ _ _ _ _ _ _ _ _ _ _ _ _ _ _ _ _ _ _ _ _ _ _ _ _ _ _ _ _ _ _ _ _ _ _ _ _ _ _ _ _ _ _ _ _ _ _ _ _ _ _ _ _ _ _ _ _ _ _ _ _ _ _ _ _ _ _ _ _ _ _ _ _ _ hJ2 (by assumption) j Hj fs hs A c HA hj (fun b hb => by rw [hone b hb]; exact ⟨h41, h4, h40, hh⟩)
        · exact rn_leaf s w hs0 HSZ HLV HMV R ws Hw1 Q HT n hw2 HN gk wr _ _ _ _ _ _ _ _ _ _ _ _ _ _ _ _ _ _ _ _ _ _ _ _ _ _ _ _ _ _ _ _ _ _ _ _ _ _ _ _ _ _ _ _ _ _ _ _ _ _ _ _ _ _ _ _ _ _ _ _ _ _ _ _ _ _ _ _ _ _ _ _ _ _ _ _ _ _ _ _ _ _ _ _ _ _ _ _ _ _ _ _ _ _ _ _ _ _ _ _ _ _ _ _ _ _ _ _ _ _ _ _ _ _ _ _ _ _ _ _ _ _ _ _ _ _ _ _ _ _ _ _ _ _ _ _ _ _ _ _ _ _ _ _ _ _ _ _ _ _ _ _ hJ2 (by assumption) j Hj fs hs A c HA hj (fun b hb => by rw [hone b hb]; exact ⟨h41, h4, h40, fun e => hh (.inl e), fun e => hh (.inr e)⟩)
      · have hb0 := HA.out.bo.h.cell 0
        have hb1 := HA.out.bo.o.cell 0
        simp only [List.getElem?_cons_zero] at hb0 hb1
        have hblt := HA.out.bo.h.lt
        have HQ0 : Hid (Q = none) := Lib.hid (by rw [HA.out.q, List.drop_eq_nil_of_le (by have := HN.out; omega)]; rfl)
        go_wp2_with (first | (go_at_call 96; refine (rnbad_any _).mono ?_; rintro e wb ⟨rfl, hbb⟩; refine Hid.out ?_))
        refine Lib.hid ?_
        have HRW := Lib.hid (Rw.below (HA.out.rw_) hbb)
        clear hbb
        have z0 := HRW.out.res.cell 0; have z1 := HRW.out.res.cell 1; have z2 := HRW.out.res.cell 2; have z3 := HRW.out.res.cell 3; have z4 := HRW.out.res.cell 4; have z5 := HRW.out.res.cell 5; have z6 := HRW.out.res.cell 6; have z7 := HRW.out.res.cell 7; have z8 := HRW.out.res.cell 8; have z9 := HRW.out.res.cell 9
        have y0 := HRW.out.res.free 0; have y1 := HRW.out.res.free 1; have y2 := HRW.out.res.free 2; have y3 := HRW.out.res.free 3; have y4 := HRW.out.res.free 4; have y5 := HRW.out.res.free 5; have y6 := HRW.out.res.free 6; have y7 := HRW.out.res.free 7; have y8 := HRW.out.res.free 8; have y9 := HRW.out.res.free 9
        simp only [List.getElem?_cons_zero, List.getElem?_cons_succ] at z0 z1 z2 z3 z4 z5 z6 z7 z8 z9
        have hz9 := HRW.out.res.lt
        go_wp2_with fail
        obtain ⟨wz, hwz, hW, hF, hsz⟩ := store10 HRW.out.res rfl (.int .i64 0) (.string ⟨#[]⟩) (.int .i64 0) (.int .i64 0) (.int .i64 0) (.string ⟨#[]⟩) (.bool false) (.string ⟨#[]⟩) (.bool false) (.slice none 0 0)
        rw [hwz]
        clear hwz
        have HBEL := far_ownB HRW.out.bel hF (Nat.le_refl _)
        have e0 := hW.cell 0; have e1 := hW.cell 1; have e2 := hW.cell 2; have e3 := hW.cell 3; have e4 := hW.cell 4; have e5 := hW.cell 5; have e6 := hW.cell 6; have e7 := hW.cell 7; have e8 := hW.cell 8; have e9 := hW.cell 9
        simp only [List.getElem?_cons_zero, List.getElem?_cons_succ] at e0 e1 e2 e3 e4 e5 e6 e7 e8 e9
        refine bodyPost_ret (v := .tuple #[.agg #[_, _, _, _, _, _, _, _, _, _], .int .i64 _]) (by simp [results, Tryz.results64, go_sem, e0, e1, e2, e3, e4, e5, e6, e7, e8, e9]; exact ⟨⟨rfl, rfl, rfl, rfl, rfl, rfl, rfl, rfl, rfl, rfl⟩, rfl⟩) rfl ?_
        unfold RNPost
        exact ⟨0, At.zero, [], false, none, 0, 0, by rw [← HT.out, HQ0.out]; rfl, by rw [← HT.out, HQ0.out]; exact RNd.zero _ _, HBEL⟩
    · have HB := Lib.hid hrb
      have hb0 := HB.out.bx.cell 0
      simp only [List.getElem?_cons_zero] at hb0
      have hblt := HB.out.bx.lt
      have hwl := HB.out.wh.lt
      clear hrb HR
      by_cases hj : j < n
      · have HQ0 : Hid (Q = none) := Lib.hid (by rw [HB.out.q, if_neg]; intro h; have := List.drop_eq_nil_iff.1 h; have := HN.out; omega)
        go_wp2_with (first | (go_at_call 96; refine (rnbad_any _).mono ?_; rintro e wb ⟨rfl, hbb⟩; refine Hid.out ?_))
        refine Lib.hid ?_
        have HRW := Lib.hid (Rw.below (HB.out.rw_) hbb)
        clear hbb
        have z0 := HRW.out.res.cell 0; have z1 := HRW.out.res.cell 1; have z2 := HRW.out.res.cell 2; have z3 := HRW.out.res.cell 3; have z4 := HRW.out.res.cell 4; have z5 := HRW.out.res.cell 5; have z6 := HRW.out.res.cell 6; have z7 := HRW.out.res.cell 7; have z8 := HRW.out.res.cell 8; have z9 := HRW.out.res.cell 9
        have y0 := HRW.out.res.free 0; have y1 := HRW.out.res.free 1; have y2 := HRW.out.res.free 2; have y3 := HRW.out.res.free 3; have y4 := HRW.out.res.free 4; have y5 := HRW.out.res.free 5; have y6 := HRW.out.res.free 6; have y7 := HRW.out.res.free 7; have y8 := HRW.out.res.free 8; have y9 := HRW.out.res.free 9
        simp only [List.getElem?_cons_zero, List.getElem?_cons_succ] at z0 z1 z2 z3 z4 z5 z6 z7 z8 z9
        have hz9 := HRW.out.res.lt
        go_wp2_with fail
        obtain ⟨wz, hwz, hW, hF, hsz⟩ := store10 HRW.out.res rfl (.int .i64 0) (.string ⟨#[]⟩) (.int .i64 0) (.int .i64 0) (.int .i64 0) (.string ⟨#[]⟩) (.bool false) (.string ⟨#[]⟩) (.bool false) (.slice none 0 0)
        rw [hwz]
        clear hwz
        have HBEL := far_ownB HRW.out.bel hF (Nat.le_refl _)
        have e0 := hW.cell 0; have e1 := hW.cell 1; have e2 := hW.cell 2; have e3 := hW.cell 3; have e4 := hW.cell 4; have e5 := hW.cell 5; have e6 := hW.cell 6; have e7 := hW.cell 7; have e8 := hW.cell 8; have e9 := hW.cell 9
        simp only [List.getElem?_cons_zero, List.getElem?_cons_succ] at e0 e1 e2 e3 e4 e5 e6 e7 e8 e9
        refine bodyPost_ret (v := .tuple #[.agg #[_, _, _, _, _, _, _, _, _, _], .int .i64 _]) (by simp [results, Tryz.results64, go_sem, e0, e1, e2, e3, e4, e5, e6, e7, e8, e9]; exact ⟨⟨rfl, rfl, rfl, rfl, rfl, rfl, rfl, rfl, rfl, rfl⟩, rfl⟩) rfl ?_
        unfold RNPost
        exact ⟨0, At.zero, [], false, none, 0, 0, by rw [← HT.out, HQ0.out]; rfl, by rw [← HT.out, HQ0.out]; exact RNd.zero _ _, HBEL⟩
      · skip
        have HQ1 : Hid (Q = some y) := Lib.hid (by rw [HB.out.q, if_pos (List.drop_eq_nil_of_le (by have := HN.out; omega))])
        have hck := fun wx h1 h2 => rcheckNeed_any y (fun i => w.heap.size + 1 + 1 + 1 + 1 ≤ i ∧ i < wr.heap.size) row wx h1 h2
        obtain ⟨e, he⟩ : ∃ e, ckNeed y = e := ⟨_, rfl⟩
        rw [he] at hck
        have HR : Hid (R = if e = 0 then (y, 0) else (Nd.zero, e)) := Lib.hid (by rw [← HT.out, HQ1.out]; show finNd y = _; unfold finNd; rw [he])
        clear he
        have HND := Lib.hid HB.out.nd
        obtain ⟨k', ⟨xn, xo, xv, xs, xf, xb⟩, f', no', ks'⟩ := y
        obtain ⟨A', n', c', hrow, -⟩ := HB.out.nd.open_
        subst hrow
        have HWH := Lib.hid HB.out.wh
        unfold ndRow at hck HND HWH
        have Hck := Lib.hid (hck wr HND.out fun q hq => hq.2)
        clear hck
        have g0 := HWH.out.cell 0; have g1 := HWH.out.cell 1; have g2 := HWH.out.cell 2; have g3 := HWH.out.cell 3; have g4 := HWH.out.cell 4; have g5 := HWH.out.cell 5; have g6 := HWH.out.cell 6; have g7 := HWH.out.cell 7; have g8 := HWH.out.cell 8; have g9 := HWH.out.cell 9
        simp only [List.getElem?_cons_zero, List.getElem?_cons_succ] at g0 g1 g2 g3 g4 g5 g6 g7 g8 g9
        by_cases h0 : e = 0
        · subst h0
          have HR3 : Hid (R = (.mk k' ⟨xn, xo, xv, xs, xf, xb⟩ f' no' ks', 0)) := Lib.hid (by rw [HR.out, if_pos rfl])
          go_wp2_with (first | (go_at_call 53; refine Hck.out.mono ?_; rintro e w6 ⟨rfl, hb6⟩; refine Hid.out ?_))
          refine Lib.hid ?_
          have HRW := Lib.hid (HB.out.rw_.below hb6)
          have HW6 := Lib.hid (HWH.out.below hb6 HWH.out.lt)
          have HN6 := Lib.hid (HND.out.under hb6 fun q hq => hq.2)
          have hbx := HB.out.bx.below hb6 HB.out.bx.lt
          clear hb0 hblt hwl g0 g1 g2 g3 g4 g5 g6 g7 g8 g9
          have hb0 := hbx.cell 0
          have hblt := hbx.lt
          have hsz6 := hb6.size
          simp only [List.getElem?_cons_zero] at hb0
          clear hb6 hbx
          have n0 := HW6.out.cell 0; have n1 := HW6.out.cell 1; have n2 := HW6.out.cell 2; have n3 := HW6.out.cell 3; have n4 := HW6.out.cell 4; have n5 := HW6.out.cell 5; have n6 := HW6.out.cell 6; have n7 := HW6.out.cell 7; have n8 := HW6.out.cell 8; have n9 := HW6.out.cell 9
          simp only [List.getElem?_cons_zero, List.getElem?_cons_succ] at n0 n1 n2 n3 n4 n5 n6 n7 n8 n9
          have z0 := HRW.out.res.cell 0; have z1 := HRW.out.res.cell 1; have z2 := HRW.out.res.cell 2; have z3 := HRW.out.res.cell 3; have z4 := HRW.out.res.cell 4; have z5 := HRW.out.res.cell 5; have z6 := HRW.out.res.cell 6; have z7 := HRW.out.res.cell 7; have z8 := HRW.out.res.cell 8; have z9 := HRW.out.res.cell 9
          have y0 := HRW.out.res.free 0; have y1 := HRW.out.res.free 1; have y2 := HRW.out.res.free 2; have y3 := HRW.out.res.free 3; have y4 := HRW.out.res.free 4; have y5 := HRW.out.res.free 5; have y6 := HRW.out.res.free 6; have y7 := HRW.out.res.free 7; have y8 := HRW.out.res.free 8; have y9 := HRW.out.res.free 9
          simp only [List.getElem?_cons_zero, List.getElem?_cons_succ] at z0 z1 z2 z3 z4 z5 z6 z7 z8 z9
          have hlt := HRW.out.res.lt
          have hlt2 := HW6.out.lt
          go_wp2_with fail
          obtain ⟨wz, hwz, hW, hF, hsz⟩ := store10 HRW.out.res rfl (.int .i64 k') (.string ⟨xn.toArray⟩) (.int .i64 xo) (.int .i64 xv) (.int .i64 xs) (.string ⟨xf.toArray⟩) (.bool xb) (.string ⟨f'.toArray⟩) (.bool no') (.slice A' n' c')
          rw [hwz]
          clear hwz
          have HBEL := far_ownB HRW.out.bel hF (Nat.le_refl _)
          have e0 := hW.cell 0; have e1 := hW.cell 1; have e2 := hW.cell 2; have e3 := hW.cell 3; have e4 := hW.cell 4; have e5 := hW.cell 5; have e6 := hW.cell 6; have e7 := hW.cell 7; have e8 := hW.cell 8; have e9 := hW.cell 9
          simp only [List.getElem?_cons_zero, List.getElem?_cons_succ] at e0 e1 e2 e3 e4 e5 e6 e7 e8 e9
          refine bodyPost_ret (v := .tuple #[.agg #[_, _, _, _, _, _, _, _, _, _], .int .i64 _]) (by simp [results, Tryz.results64, go_sem, e0, e1, e2, e3, e4, e5, e6, e7, e8, e9]; exact ⟨⟨rfl, rfl, rfl, rfl, rfl, rfl, rfl, rfl, rfl, rfl⟩, rfl⟩) rfl ?_
          unfold RNPost
          refine ⟨k', ⟨xn, xo, xv, xs, xf, xb⟩, f', no', A', n', c', by rw [HR3.out]; rfl, ?_, HBEL⟩
          rw [HR3.out]
          exact (HN6.out.far hF fun i hi => ⟨by omega, by omega⟩).more fun i hi => ⟨by omega, by omega⟩
        · have h1 : (e != 0) = true := by simpa using h0
          have HR3 : Hid (R = (Nd.zero, e)) := Lib.hid (by rw [HR.out, if_neg h0])
          clear h0
          go_wp2_with (first | (go_at_call 53; refine Hck.out.mono ?_; rintro e w6 ⟨rfl, hb6⟩; refine Hid.out ?_))
          refine Lib.hid ?_
          have HRW := Lib.hid (HB.out.rw_.below hb6)
          clear hb6 hb0 hblt hwl g0 g1 g2 g3 g4 g5 g6 g7 g8 g9
          have z0 := HRW.out.res.cell 0; have z1 := HRW.out.res.cell 1; have z2 := HRW.out.res.cell 2; have z3 := HRW.out.res.cell 3; have z4 := HRW.out.res.cell 4; have z5 := HRW.out.res.cell 5; have z6 := HRW.out.res.cell 6; have z7 := HRW.out.res.cell 7; have z8 := HRW.out.res.cell 8; have z9 := HRW.out.res.cell 9
          have y0 := HRW.out.res.free 0; have y1 := HRW.out.res.free 1; have y2 := HRW.out.res.free 2; have y3 := HRW.out.res.free 3; have y4 := HRW.out.res.free 4; have y5 := HRW.out.res.free 5; have y6 := HRW.out.res.free 6; have y7 := HRW.out.res.free 7; have y8 := HRW.out.res.free 8; have y9 := HRW.out.res.free 9
          simp only [List.getElem?_cons_zero, List.getElem?_cons_succ] at z0 z1 z2 z3 z4 z5 z6 z7 z8 z9
          have hlt := HRW.out.res.lt
          go_wp2_with fail
          obtain ⟨wz, hwz, hW, hF, hsz⟩ := store10 HRW.out.res rfl (.int .i64 0) (.string ⟨#[]⟩) (.int .i64 0) (.int .i64 0) (.int .i64 0) (.string ⟨#[]⟩) (.bool false) (.string ⟨#[]⟩) (.bool false) (.slice none 0 0)
          rw [hwz]
          clear hwz
          have HBEL := far_ownB HRW.out.bel hF (Nat.le_refl _)
          have e0 := hW.cell 0; have e1 := hW.cell 1; have e2 := hW.cell 2; have e3 := hW.cell 3; have e4 := hW.cell 4; have e5 := hW.cell 5; have e6 := hW.cell 6; have e7 := hW.cell 7; have e8 := hW.cell 8; have e9 := hW.cell 9
          simp only [List.getElem?_cons_zero, List.getElem?_cons_succ] at e0 e1 e2 e3 e4 e5 e6 e7 e8 e9
          refine bodyPost_ret (v := .tuple #[.agg #[_, _, _, _, _, _, _, _, _, _], .int .i64 _]) (by simp [results, Tryz.results64, go_sem, e0, e1, e2, e3, e4, e5, e6, e7, e8, e9]; exact ⟨⟨rfl, rfl, rfl, rfl, rfl, rfl, rfl, rfl, rfl, rfl⟩, rfl⟩) rfl ?_
          unfold RNPost
          exact ⟨0, At.zero, [], false, none, 0, 0, by rw [HR3.out]; rfl, by rw [HR3.out]; exact RNd.zero _ _, HBEL⟩
end Go.Proofs.YthpkffeiehnamaaGreatDoor
