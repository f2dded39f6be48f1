/- need.Flags' closure, walked. -/
import Derived.Test.YtnkmonmkhmcgaaaGreatDoorNW9
namespace Go.Proofs.YtnkmonmkhmcgaaaGreatDoor
open Go.RowKit Qm

theorem flagsL_take : ∀ (ks : List Nd) (j : Nat), (flagsL (ks.take j)).length ≤ (flagsL ks).length
  | [], j => by simp [flagsL]
  | k :: r, 0 => by simp [flagsL]
  | k :: r, j + 1 => by
    have := flagsL_take r j
    simp only [List.take_succ_cons, flagsL, List.length_append]; omega
theorem callFuncF (args : Array Value) (W : World) : (callFunc 22 args).run Tryz.prog W = .ok (.enter 22 args) W := by kernel_rfl

set_option maxRecDepth 100000 in
set_option maxHeartbeats 3200000 in
theorem flagsC_any : ∀ (y : Nd) (S : Nat → Prop) (x : List Value) (base BL BF : Nat) (fs : List Qm.W) (A : Option Addr) (c : Nat) (w : World), RNd w S x y → (∀ k, S k → k < BL) → Fl base BL BF fs A c w → base ≤ w.heap.size → fs.length + (flagsN y).length ≤ 10000 →
    Calls Tryz.prog 22 #[.agg x.toArray, .pointer (some ⟨BL, 0, none⟩), .pointer (some ⟨BF, 0, none⟩)] w (FlPost base BL BF fs (.slice A fs.length c) (flagsN y) w) := by
  refine Nd.ind fun k a f no ks ih => ?_
  intro S x base BL BF fs A c w hR hS hF hbase hcnt
  have HI := Lib.hid ih; clear ih
  obtain ⟨B, n, cb, rfl, hnc, hc, h1, h2, h3, hK⟩ := hR.open_
  clear hR
  obtain ⟨i0, hi, hz0, hz1, hz2⟩ := info_parts string_info
  have Hi := Lib.hid hi; have Hz0 := Lib.hid hz0; have Hz1 := Lib.hid hz1; have Hz2 := Lib.hid hz2
  clear hi hz0 hz1 hz2
  have HS := Lib.hid hS; clear hS
  have HK := Lib.hid hK; clear hK
  unfold maxLen at hc
  have hfn : flagsN (.mk k a f no ks) = (if k = 5 then [f] else []) ++ flagsL ks := rfl
  rw [hfn] at hcnt ⊢
  clear hfn
  obtain ⟨hd, hhd⟩ : ∃ hd, (if k = 5 then [f] else []) = hd := ⟨_, rfl⟩
  rw [hhd] at hcnt ⊢
  have HHD := Lib.hid hhd; clear hhd
  have hb0 : Below w.heap.size w (w.alloc (.cells (ndRow k a f no B n cb).toArray 26)) := (Below.refl _ w).alloc (Nat.le_refl _) _
  have HW0 : Hid (Fw w base BL BF (.slice A fs.length c) fs A c (w.alloc (.cells (ndRow k a f no B n cb).toArray 26))) := Lib.hid ⟨hF.below hb0, Far.of_below _ hb0, .inl rfl⟩
  have HOW := Lib.hid (fun i (e : (Value.slice A fs.length c).ownBlock = some i) => (hF.own.lt i e).1)
  have HX := Lib.hid (Whole.new w _ 26 (ndRow k a f no B n cb) rfl)
  have hbl := hF.l.lt
  have hbf := hF.fn.lt
  have hLb := hF.ltL
  have hFb := hF.ltF
  obtain ⟨nm, op, ver, slot, fl, on⟩ := a
  clear hF hb0 h1 h2 h3
  unfold ndRow at HW0 HX ⊢
  have henter := callFuncF
  have hl0 := HW0.out.fl.l.cell 0
  have hlf := HW0.out.fl.l.free 0
  simp only [List.getElem?_cons_zero] at hl0
  go_enter Tryz.func22, Tryz.ntmps22
  go_upto_if 8 with fail
  go_cut [] (fun wx => ∃ A5 c5, Fw w base BL BF (.slice A fs.length c) (fs ++ hd) A5 c5 wx ∧ Whole wx w.heap.size 26 [.int .i64 k, .string ⟨nm.toArray⟩, .int .i64 op, .int .i64 ver, .int .i64 slot, .string ⟨fl.toArray⟩, .bool on, .string ⟨f.toArray⟩, .bool no, .slice B n cb])
  case first =>
    by_cases hk : k = 5
    · subst hk
      obtain rfl : [f] = hd := by have := HHD.out; rwa [if_pos rfl] at this
      go_wp2_with (at_builtin; refine wpList_append_own_at _ rfl _ _ 35 rfl base 9 i0 (.string ⟨#[]⟩) 1 16 Tryz.underlying35 Hi.out Hz0.out Hz1.out Hz2.out rfl (by decide) _ _ _ rfl (HW0.out.fl.own.alloc _) ⟨w.heap.size + 1, 0, none⟩ 1 1 [.string ⟨f.toArray⟩] rfl rfl (new_cells _ _ [.string ⟨f.toArray⟩] 9 (by simp)) (by simp [Value.oneCell']) (by unfold maxLen; simp at hcnt; omega) (by simp at hcnt; omega) (by simp; omega) ?_)
      intro v' w8 hown8 hg8 _ hv8
      obtain ⟨A8, c8, hv', _, _, _⟩ := own_formK hown8
      subst hv'
      have hbl2 : Below (w.alloc (.cells #[.int .i64 5, .string ⟨nm.toArray⟩, .int .i64 op, .int .i64 ver, .int .i64 slot, .string ⟨fl.toArray⟩, .bool on, .string ⟨f.toArray⟩, .bool no, .slice B n cb] 26)).heap.size (w.alloc (.cells #[.int .i64 5, .string ⟨nm.toArray⟩, .int .i64 op, .int .i64 ver, .int .i64 slot, .string ⟨fl.toArray⟩, .bool on, .string ⟨f.toArray⟩, .bool no, .slice B n cb] 26)) ((w.alloc (.cells #[.int .i64 5, .string ⟨nm.toArray⟩, .int .i64 op, .int .i64 ver, .int .i64 slot, .string ⟨fl.toArray⟩, .bool on, .string ⟨f.toArray⟩, .bool no, .slice B n cb] 26)).alloc (.cells #[.string ⟨f.toArray⟩] 9)) := (Below.refl _ _).alloc (Nat.le_refl _) _
      have HF8 := Lib.hid ((HW0.out.below hbl2).push hown8 hg8 (hv8.imp id fun e => by rw [e]; simp))
      have hX8 := (HX.out.below hbl2 HX.out.lt).grown hg8 (by
        intro e
        have := own_ne (HW0.out.fl.own) HX.out (by decide)
        exact this e.symm)
      have HX8 := Lib.hid (hX8.far (p := ⟨BL, 0, none⟩) (by show w.heap.size ≠ BL; omega) (.slice A8 (fs.length + 1) c8))
      have hl8 := (HW0.out.below hbl2).fl.l.grown hg8 (by
        intro e
        have h1 := (HW0.out.fl.own.lt _ e.symm).1
        omega)
      have p0 := hl8.cell 0
      have pf := hl8.free 0
      have hlt8 := hl8.lt
      simp only [List.getElem?_cons_zero] at p0
      clear hown8 hg8 hv8 hbl2 hX8 hl8
      go_wp2_with fail
      go_meet
      case rel => exact ⟨A8, c8, HF8.out, HX8.out⟩
    · have hk1 : (k == 5) = false := by simpa using hk
      obtain rfl : [] = hd := by have := HHD.out; rwa [if_neg hk] at this
      clear hk
      go_wp2_with fail
      go_meet
      case rel => exact ⟨A, c, by rw [List.append_nil]; exact HW0.out, HX.out⟩
  case rest =>
    obtain ⟨A5, c5, hW, hX5⟩ := hcut
    clear hl0 hlf HW0 HX
    clear HHD
    have HW5 := Lib.hid hW
    have g9 := hX5.cell 9
    simp only [List.getElem?_cons_zero, List.getElem?_cons_succ] at g9
    have HBsz := Lib.hid hbase
    clear hW
    have hltx := hX5.lt
    clear hX5
    simp only [List.length_append] at hcnt
    go_wp2_with fail
    clear g9 hltx
    go_loopg [17] n (fun g iv wr => ∃ (j : Nat) (A6 : Option Addr) (c6 : Nat), Hid (j + g = n) ∧ iv = .int .i64 j ∧ Hid (Fw w base BL BF (.slice A fs.length c) (fs ++ (hd ++ flagsL (ks.take j))) A6 c6 wr))
    case atStart => exact ⟨0, A5, c5, Lib.hid (Nat.zero_add _), rfl, Lib.hid (by simpa [flagsL] using HW5.out)⟩
    case round =>
      clear HW5
      obtain ⟨j, A6, c6, Hj, rfl, W6⟩ := hrel
      by_cases hj : j < n
      · obtain ⟨b, o, x, y, rfl, hb, hy, hxy, hcell⟩ := (HK.out.keep fun p hp => W6.out.far.cell (by have := HS.out _ hp; omega) (by
          rintro (e | e)
          · have := HS.out _ hp; omega
          · have h1 := HOW.out _ e; have := HS.out _ hp; omega)).at_ hj
        have Hdr := Lib.hid (take_snocN hy)
        have hmem := List.mem_of_getElem? hy
        have hcn : fs.length + (hd.length + (flagsL (ks.take j)).length) + (flagsN y).length ≤ 10000 := by
          have h1 := flagsL_take ks (j + 1)
          rw [Hdr.out, flagsL_snoc, List.length_append] at h1
          omega
        have hcall := fun wx => HI.out y hmem S x base BL BF (fs ++ (hd ++ flagsL (ks.take j))) A6 c6 wx
        obtain ⟨yk, ya, yf, yn, yks⟩ := y
        obtain ⟨A', n', c', rfl, -⟩ := hxy.open_
        have k0 := hcell 0 (by omega); have k1 := hcell 1 (by omega); have k2 := hcell 2 (by omega); have k3 := hcell 3 (by omega); have k4 := hcell 4 (by omega)
        have k5 := hcell 5 (by omega); have k6 := hcell 6 (by omega); have k7 := hcell 7 (by omega); have k8 := hcell 8 (by omega); have k9 := hcell 9 (by omega)
        clear hcell hy
        have hbl2 : Below wr.heap.size wr (wr.alloc (.cells (ndRow yk ya yf yn A' n' c').toArray 26)) := (Below.refl _ wr).alloc (Nat.le_refl _) _
        have hwsz := W6.out.far.size
        have hcall2 := hcall _ (hxy.under hbl2 fun q hq => by have := HS.out q hq; omega) HS.out (W6.out.fl.below hbl2) (by have := hbl2.size; omega) (by simp only [List.length_append]; omega)
        have W7 := Lib.hid (W6.out.below hbl2)
        have Hcall := Lib.hid hcall2
        clear hcall hcall2 hxy hbl2
        unfold ndRow at k0 k1 k2 k3 k4 k5 k6 k7 k8 k9 Hcall W7
        simp only [List.getElem?_cons_zero, List.getElem?_cons_succ, Nat.add_zero] at k0 k1 k2 k3 k4 k5 k6 k7 k8 k9
        have f0 := W6.out.fl.fn.cell 0
        simp only [List.getElem?_cons_zero] at f0
        have hbfw : BF < wr.heap.size := W6.out.fl.fn.lt
        generalize hq : flagsN (.mk yk ya yf yn yks) = q at Hcall
        have HQ := Lib.hid hq; clear hq
        go_wp2_with fail
        refine Hcall.out.mono ?_
        rintro e w7 ⟨A7, c7, rfl, hfl7, hf7, ha7⟩
        have W8 := Lib.hid (W7.out.call hfl7 hf7 ha7)
        clear hfl7 hf7 ha7 W7 f0 k0 k1 k2 k3 k4 k5 k6 k7 k8 k9
        go_wp2_with fail
        go_roundg (gk - 1)
        case measure => have := Hj.out; omega
        case rel =>
          refine ⟨j + 1, A7, c7, Lib.hid (by have := Hj.out; omega), by go_num, Lib.hid ?_⟩
          have : fs ++ (hd ++ flagsL (ks.take (j + 1))) = (fs ++ (hd ++ flagsL (ks.take j))) ++ q := by
            rw [Hdr.out, flagsL_snoc, HQ.out]; simp
          rw [this]; exact W8.out
      · obtain rfl : j = n := by have := Hj.out; omega
        go_wp2_with fail
        have hw := W6.out
        rw [List.take_of_length_le (by have := HK.out.len; omega)] at hw
        go_end0
        exact ⟨A6, c6, rfl, hw.fl, hw.far, hw.at_⟩
end Go.Proofs.YtnkmonmkhmcgaaaGreatDoor
