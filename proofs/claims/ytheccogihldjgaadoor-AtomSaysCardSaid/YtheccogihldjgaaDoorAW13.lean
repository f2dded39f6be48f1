/- The other telling of an atom's text, walked. -/
import Derived.Test.YtheccogihldjgaaDoorAW12
import Derived.Maps.OwnSet
namespace Go.Proofs.YtheccogihldjgaaDoor
open Go.RowKit Qm Go.ChangeMaps

/-- What holds its world's block b back: a map of the two signs. -/
theorem sign_map (w : World) : ∃ w2 w3, (Instr.mapUpdate 51 (.map (some w.heap.size)) (.bool true) (.string ⟨#[43]⟩)).run Tryd.prog (w.alloc (.map #[] 0)) = .ok () w2 ∧
    (Instr.mapUpdate 51 (.map (some w.heap.size)) (.bool false) (.string ⟨#[45]⟩)).run Tryd.prog w2 = .ok () w3 ∧
    (∀ on : Bool, (Instr.lookup 51 (.map (some w.heap.size)) (.bool on) false).run Tryd.prog w3 = .ok (.string (if on then ⟨#[43]⟩ else ⟨#[45]⟩)) w3) ∧ Below w.heap.size w w3 := by
  have hk : Tryd.prog.underlying 4 = some .bool := Tryd.underlying4
  have ht : Tryd.prog.underlying 51 = some (.map 4 9) := Tryd.underlying51
  have K := Maps.bool_keyed (P := Tryd.prog) hk
  have hck : ∀ (wx : World) (em x : Bool), (Instr.checkKey em 10000 4 (.bool x)).run Tryd.prog wx = .ok () wx := fun wx em x => K.check wx em (Maps.keyOf_bool_mk hk x)
  have hb1 : (w.alloc (.map #[] 0)).heap[w.heap.size]? = some (.map #[] 0) := by simp [World.alloc, -World.alloc_eq]
  have r1 : (Instr.mapUpdate 51 (.map (some w.heap.size)) (.bool true) (.string ⟨#[43]⟩)).run Tryd.prog (w.alloc (.map #[] 0)) = .ok () (setBlock (w.alloc (.map #[] 0)) w.heap.size (.map #[⟨.bool true, .string ⟨#[43]⟩, 0⟩] 1)) := by
    simp [Instr.mapUpdate, run_underlying ht, run_underlying hk, MapKept.run_getObj_map hb1, hck, Instr.findKey, Instr.findNow, MapKept.run_setObj_map _ hb1, Result.andThen, setBlock, go_sem]
  have hb2 : (setBlock (w.alloc (.map #[] 0)) w.heap.size (.map #[⟨.bool true, .string ⟨#[43]⟩, 0⟩] 1)).heap[w.heap.size]? = some (.map #[⟨.bool true, .string ⟨#[43]⟩, 0⟩] 1) := heap_setBlock_same hb1 _
  generalize hw2 : setBlock (w.alloc (.map #[] 0)) w.heap.size (.map #[⟨.bool true, .string ⟨#[43]⟩, 0⟩] 1) = w2 at hb2 r1
  have r2 : (Instr.mapUpdate 51 (.map (some w.heap.size)) (.bool false) (.string ⟨#[45]⟩)).run Tryd.prog w2 =
      .ok () (setBlock w2 w.heap.size (.map #[⟨.bool true, .string ⟨#[43]⟩, 0⟩, ⟨.bool false, .string ⟨#[45]⟩, 1⟩] 2)) := by
    simp [Instr.mapUpdate, run_underlying ht, run_underlying hk, MapKept.run_getObj_map hb2, hck, Instr.findKey, Instr.findNow, Instr.sameNow, MapKept.run_setObj_map _ hb2, Result.andThen, setBlock, go_sem]
  have hb3 : (setBlock w2 w.heap.size (.map #[⟨.bool true, .string ⟨#[43]⟩, 0⟩, ⟨.bool false, .string ⟨#[45]⟩, 1⟩] 2)).heap[w.heap.size]? = some (.map #[⟨.bool true, .string ⟨#[43]⟩, 0⟩, ⟨.bool false, .string ⟨#[45]⟩, 1⟩] 2) := heap_setBlock_same hb2 _
  refine ⟨w2, _, r1, r2, ?_, ?_⟩
  · intro on
    cases on <;> simp [Instr.lookup, run_underlying ht, run_underlying hk, MapKept.run_getObj_map hb3, hck, Instr.findKey, Instr.findNow, Instr.sameNow, Result.andThen, go_sem]
  · subst hw2
    refine ⟨rfl, rfl, rfl, by simp [setBlock], fun i hi => ?_⟩
    exact (heap_setBlock_other hb2 _ (by omega)).trans ((heap_setBlock_other hb1 _ (by omega)).trans (((Below.refl w.heap.size w).alloc (Nat.le_refl _) _).block i hi))

theorem ops_in (wx : World) (b : Nat) (h : wx.heap[b]? = some (.cells #[.string ⟨#[]⟩, .string ⟨#[61]⟩, .string ⟨#[62, 61]⟩, .string ⟨#[60]⟩] 9)) :
    wx.cell? ⟨b, 0, none⟩ = some (.string ⟨#[]⟩) ∧ wx.cell? ⟨b, 1, none⟩ = some (.string ⟨#[61]⟩) ∧ wx.cell? ⟨b, 2, none⟩ = some (.string ⟨#[62, 61]⟩) ∧ wx.cell? ⟨b, 3, none⟩ = some (.string ⟨#[60]⟩) := by
  simp [World.cell?, h]

set_option maxRecDepth 100000 in
set_option maxHeartbeats 3200000 in
theorem rtext_any (s f : ByteArray) (op ver slot : Int) (on : Bool) (w : World) (hk : ckAtom (atOf s op ver slot f on) = 0) :
    Calls Tryd.prog 16 #[atv s op ver slot f on] w fun e w' =>
      e = .returned (.string ⟨(textOf (atOf s op ver slot f on)).toArray⟩) ∧ Below w.heap.size w w' := by
  have B1 := Lib.hid (Boxed.new w s op ver slot f on (t := 23))
  unfold atv
  have HO := Lib.hid (atOk hk)
  have hsz : s.size ≤ 8 := by
    have h1 := isName_len HO.out.nm
    have h2 : s.size = s.data.toList.length := Lib.size_eq s
    have h3 : (atOf s op ver slot f on).nm = s.data.toList := rfl
    rw [h3] at h1
    omega
  have Hsz := Lib.hid hsz; clear hsz
  have HK := Lib.hid hk; clear hk
  have ho : op = 0 ∨ op = 1 ∨ op = 2 ∨ op = 3 := by have := HO.out.op; simp only [atOf] at this; omega
  go_enter Tryd.func16, Tryd.ntmps16
  go_upto_region 1 with fail
  go_cut [3] (fun s3 wx => s3 = .string ⟨(s.data.toList ++ opText op).toArray⟩ ∧ Boxed w s op ver slot f on wx)
  case first =>
    rcases ho with ho | ho | ho | ho
    · subst ho
      have hadd : ∀ wx, (Op.stringOp .add s ⟨#[]⟩).run Tryd.prog wx = .ok (.string ⟨(s.data.toList ++ opText 0).toArray⟩) wx := fun wx => by
        rw [run_string_add_sum wx _ _ (by have h3 := Hsz.out; have h4 : ByteArray.size ⟨#[]⟩ ≤ 2 := (by decide); omega)]
        have := bs_add s.data.toList (opText 0)
        rw [bs_self] at this
        exact congrArg (fun z => Result.ok (Value.string z) wx) this
      go_region
      go_wp2
      go_meet
      case rel => exact ⟨rfl, B1.out.below ((Below.refl _ _).alloc (Nat.le_refl _) _).drew⟩
    · subst ho
      have hadd : ∀ wx, (Op.stringOp .add s ⟨#[61]⟩).run Tryd.prog wx = .ok (.string ⟨(s.data.toList ++ opText 1).toArray⟩) wx := fun wx => by
        rw [run_string_add_sum wx _ _ (by have h3 := Hsz.out; have h4 : ByteArray.size ⟨#[61]⟩ ≤ 2 := (by decide); omega)]
        have := bs_add s.data.toList (opText 1)
        rw [bs_self] at this
        exact congrArg (fun z => Result.ok (Value.string z) wx) this
      go_region
      go_wp2
      go_meet
      case rel => exact ⟨rfl, B1.out.below ((Below.refl _ _).alloc (Nat.le_refl _) _).drew⟩
    · subst ho
      have hadd : ∀ wx, (Op.stringOp .add s ⟨#[62, 61]⟩).run Tryd.prog wx = .ok (.string ⟨(s.data.toList ++ opText 2).toArray⟩) wx := fun wx => by
        rw [run_string_add_sum wx _ _ (by have h3 := Hsz.out; have h4 : ByteArray.size ⟨#[62, 61]⟩ ≤ 2 := (by decide); omega)]
        have := bs_add s.data.toList (opText 2)
        rw [bs_self] at this
        exact congrArg (fun z => Result.ok (Value.string z) wx) this
      go_region
      go_wp2
      go_meet
      case rel => exact ⟨rfl, B1.out.below ((Below.refl _ _).alloc (Nat.le_refl _) _).drew⟩
    · subst ho
      have hadd : ∀ wx, (Op.stringOp .add s ⟨#[60]⟩).run Tryd.prog wx = .ok (.string ⟨(s.data.toList ++ opText 3).toArray⟩) wx := fun wx => by
        rw [run_string_add_sum wx _ _ (by have h3 := Hsz.out; have h4 : ByteArray.size ⟨#[60]⟩ ≤ 2 := (by decide); omega)]
        have := bs_add s.data.toList (opText 3)
        rw [bs_self] at this
        exact congrArg (fun z => Result.ok (Value.string z) wx) this
      go_region
      go_wp2
      go_meet
      case rel => exact ⟨rfl, B1.out.below ((Below.refl _ _).alloc (Nat.le_refl _) _).drew⟩
  case rest =>
    obtain ⟨rfl, B2⟩ := hcut
    replace B2 := Lib.hid B2
    clear B1
    have d0 := B2.out.c0; have d1 := B2.out.c1; have d2 := B2.out.c2; have d3 := B2.out.c3; have d4 := B2.out.c4; have d5 := B2.out.c5
    have hlen := textOf_len HO.out
    have hx : textOf (atOf s op ver slot f on) = (s.data.toList ++ (if op ≠ 0 then opText op ++ Lib.itoa ver else [])) ++ (if 0 < slot then 58 :: Lib.itoa slot else []) ++ (if f.data.toList ≠ [] then (if on then 43 else 45) :: f.data.toList else []) := rfl
    rw [hx] at hlen
    have HX := Lib.hid hx; clear hx
    have HL := Lib.hid hlen; clear hlen
    go_upto_if 14 with fail
    go_cut [3] (fun s3 wx => s3 = .string ⟨(s.data.toList ++ (if op ≠ 0 then opText op ++ Lib.itoa ver else [])).toArray⟩ ∧ Boxed w s op ver slot f on wx)
    case first =>
      by_cases z : op = 0
      · subst z
        go_wp2
        go_meet
        case rel => exact ⟨by simp [opText], B2.out⟩
      · have z1 : 0 < op := by have := HO.out.op; simp only [atOf] at this; omega
        obtain ⟨i, hi⟩ : ∃ i : Nat, ver = (i : Int) := ⟨ver.toNat, by have := HO.out.some z; simp only [atOf] at this; omega⟩
        subst hi
        have hi : i < 100 := by have := HO.out.some z; simp only [atOf] at this; omega
        have hit : Lib.itoa (i : Int) = Lib.decDigits i := by unfold Lib.itoa; rw [if_neg (by omega)]; rfl
        have hD : (Lib.decDigits i).length ≤ 2 := by rw [← hit]; exact (itoa_len (by omega) (by omega)).2
        have hitoa := fun wx => Tryd.strconv_Itoa_small i hi wx
        have Hit := Lib.hid hit
        clear hit
        generalize Lib.decDigits i = D at hD hitoa Hit
        have HD := Lib.hid hD; clear hD
        have Hitoa := Lib.hid hitoa; clear hitoa
        have hT : (s.data.toList ++ opText op).length ≤ 10 := by
          have h1 := Hsz.out; have h2 : s.size = s.data.toList.length := Lib.size_eq s
          have h3 : (opText op).length ≤ 2 := by unfold opText; split <;> (try split) <;> (try split) <;> simp
          rw [List.length_append]; omega
        have HT := Lib.hid hT; clear hT
        have hadd : ∀ wx, (Op.stringOp .add ⟨(s.data.toList ++ opText op).toArray⟩ ⟨D.toArray⟩).run Tryd.prog wx = .ok (.string ⟨(s.data.toList ++ opText op ++ D).toArray⟩) wx := fun wx => by
          rw [run_string_add_sum wx _ _ (by have h1 := bs_size D; have h2 := HD.out; have h3 := HT.out; have h4 := bs_size (s.data.toList ++ opText op); omega)]
          rw [bs_add]
        have Z := Lib.hid z; clear z
        go_wp2_with (first | (go_at_call 19; refine (Hitoa.out _).mono ?_; rintro e w6 ⟨rfl, rfl⟩))
        go_meet
        case rel => exact ⟨by rw [if_pos Z.out, Hit.out]; try simp, B2.out⟩
    case rest =>
      obtain ⟨rfl, B3⟩ := hcut
      replace B3 := Lib.hid B3
      clear B2 d0 d1 d2 d3 d4 d5
      have d0 := B3.out.c0; have d1 := B3.out.c1; have d2 := B3.out.c2; have d3 := B3.out.c3; have d4 := B3.out.c4; have d5 := B3.out.c5
      have hall : (s.data.toList ++ (if op ≠ 0 then opText op ++ Lib.itoa ver else [])).length ≤ 100 := by
        have h1 := HL.out; simp only [List.length_append] at h1 ⊢; omega
      generalize s.data.toList ++ (if op ≠ 0 then opText op ++ Lib.itoa ver else []) = T at HL HX hall ⊢
      have HT := Lib.hid hall; clear hall
      go_upto_if 22 with fail
      go_cut [3] (fun s3 wx => s3 = .string ⟨(T ++ (if 0 < slot then 58 :: Lib.itoa slot else [])).toArray⟩ ∧ Boxed w s op ver slot f on wx)
      case first =>
        by_cases z : 0 < slot
        · have z1 : (slot != 0) = true := by simp; omega
          obtain ⟨i, hi⟩ : ∃ i : Nat, slot = (i : Int) := ⟨slot.toNat, by omega⟩
          subst hi
          have hi : i < 100 := by have := HO.out.slot; simp only [atOf] at this; omega
          have hit : Lib.itoa (i : Int) = Lib.decDigits i := by unfold Lib.itoa; rw [if_neg (by omega)]; rfl
          have hD : (Lib.decDigits i).length ≤ 2 := by rw [← hit]; exact (itoa_len (by omega) (by omega)).2
          have hitoa := fun wx => Tryd.strconv_Itoa_small i hi wx
          have Hit := Lib.hid hit
          clear hit
          generalize Lib.decDigits i = D at hD hitoa Hit
          have HD := Lib.hid hD; clear hD
          have Hitoa := Lib.hid hitoa; clear hitoa
          have hadd1 : ∀ wx, (Op.stringOp .add ⟨#[58]⟩ ⟨D.toArray⟩).run Tryd.prog wx = .ok (.string ⟨(58 :: D).toArray⟩) wx := fun wx => by
            rw [run_string_add_sum wx _ _ (by have h1 := bs_size D; have h2 := HD.out; have h3 : ByteArray.size ⟨#[58]⟩ ≤ 2 := (by decide); omega)]
            exact congrArg (fun z => Result.ok (Value.string z) wx) (bs_add _ D)
          have hadd2 : ∀ wx, (Op.stringOp .add ⟨T.toArray⟩ ⟨(58 :: D).toArray⟩).run Tryd.prog wx = .ok (.string ⟨(T ++ 58 :: D).toArray⟩) wx := fun wx => by
            rw [run_string_add_sum wx _ _ (by have h1 := bs_size (58 :: D); have h2 := HD.out; have h3 := HT.out; have h5 := bs_size T; have h4 : (58 :: D).length ≤ 4 := (by simp; omega); omega)]
            rw [bs_add]
          have Z := Lib.hid z; clear z
          go_wp2_with (first | (go_at_call 19; refine (Hitoa.out _).mono ?_; rintro e w6 ⟨rfl, rfl⟩))
          go_meet
          case rel => exact ⟨by rw [if_pos Z.out, Hit.out], B3.out⟩
        · have z1 : (slot != 0) = false := by simp; have := HO.out.slot; simp only [atOf] at this; omega
          have Z := Lib.hid z; clear z
          go_wp2
          go_meet
          case rel => exact ⟨by rw [if_neg (by have := Z.out; omega), List.append_nil], B3.out⟩
      case rest =>
        obtain ⟨rfl, B4⟩ := hcut
        replace B4 := Lib.hid B4
        clear B3 d0 d1 d2 d3 d4 d5
        have d0 := B4.out.c0; have d1 := B4.out.c1; have d2 := B4.out.c2; have d3 := B4.out.c3; have d4 := B4.out.c4; have d5 := B4.out.c5
        have HT2 : Hid ((T ++ (if 0 < slot then 58 :: Lib.itoa slot else [])).length ≤ 100) := Lib.hid (by have h1 := HL.out; simp only [List.length_append] at h1 ⊢; omega)
        clear HL HT
        generalize T ++ (if 0 < slot then 58 :: Lib.itoa slot else []) = T2 at HT2 HX ⊢
        by_cases h0 : f.data.toList = []
        · obtain ⟨e1, e2⟩ := empty_spell h0
          have H0 := Lib.hid h0; clear h0
          go_wp2
          go_ret
          refine ⟨?_, B4.out.b⟩
          rw [HX.out, if_neg (fun h => h H0.out), List.append_nil]; rfl
        · obtain ⟨e1, e2⟩ := full_spell h0
          have H0 := Lib.hid h0
          have hf8 : Hid (f.size ≤ 8) := Lib.hid (by have h1 := isName_len (HO.out.fl h0); have h2 : f.size = f.data.toList.length := Lib.size_eq f; have h3 : (atOf s op ver slot f on).fl = f.data.toList := rfl; rw [h3] at h1; omega)
          clear h0
          go_upto_region 7 with fail
          obtain ⟨w2, w3, m1, m2, m3, m4⟩ := sign_map wc
          have B5 := Lib.hid (B4.out.below m4); clear m4
          have x4 := B5.out.c4; have x5 := B5.out.c5
          cases on
          · have hadd1 : ∀ wx, (Op.stringOp .add ⟨#[45]⟩ f).run Tryd.prog wx = .ok (.string ⟨(45 :: f.data.toList).toArray⟩) wx := fun wx => by
              rw [run_string_add_sum wx _ _ (by have h2 := hf8.out; have h3 : ByteArray.size ⟨#[45]⟩ ≤ 2 := (by decide); omega)]
              have := bs_add [45] f.data.toList
              rw [bs_self] at this
              exact congrArg (fun z => Result.ok (Value.string z) wx) this
            have hadd2 : ∀ wx, (Op.stringOp .add ⟨T2.toArray⟩ ⟨(45 :: f.data.toList).toArray⟩).run Tryd.prog wx = .ok (.string ⟨(T2 ++ 45 :: f.data.toList).toArray⟩) wx := fun wx => by
              rw [run_string_add_sum wx _ _ (by have h1 := bs_size (45 :: f.data.toList); have h2 := hf8.out; have h3 := HT2.out; have h5 := bs_size T2; have h6 : f.size = f.data.toList.length := Lib.size_eq f; have h4 : (45 :: f.data.toList).length ≤ 10 := (by rw [List.length_cons, ← h6]; omega); omega)]
              rw [bs_add]
            have hm3 := m3 false; clear m3
            have hmm := @run_makeMap Tryd.prog
            go_wp2
            go_ret
            refine ⟨?_, B5.out.b⟩
            rw [HX.out, if_pos H0.out]; rfl
          · have hadd1 : ∀ wx, (Op.stringOp .add ⟨#[43]⟩ f).run Tryd.prog wx = .ok (.string ⟨(43 :: f.data.toList).toArray⟩) wx := fun wx => by
              rw [run_string_add_sum wx _ _ (by have h2 := hf8.out; have h3 : ByteArray.size ⟨#[43]⟩ ≤ 2 := (by decide); omega)]
              have := bs_add [43] f.data.toList
              rw [bs_self] at this
              exact congrArg (fun z => Result.ok (Value.string z) wx) this
            have hadd2 : ∀ wx, (Op.stringOp .add ⟨T2.toArray⟩ ⟨(43 :: f.data.toList).toArray⟩).run Tryd.prog wx = .ok (.string ⟨(T2 ++ 43 :: f.data.toList).toArray⟩) wx := fun wx => by
              rw [run_string_add_sum wx _ _ (by have h1 := bs_size (43 :: f.data.toList); have h2 := hf8.out; have h3 := HT2.out; have h5 := bs_size T2; have h6 : f.size = f.data.toList.length := Lib.size_eq f; have h4 : (43 :: f.data.toList).length ≤ 10 := (by rw [List.length_cons, ← h6]; omega); omega)]
              rw [bs_add]
            have hm3 := m3 true; clear m3
            have hmm := @run_makeMap Tryd.prog
            go_wp2
            go_ret
            refine ⟨?_, B5.out.b⟩
            rw [HX.out, if_pos H0.out]; rfl
end Go.Proofs.YtheccogihldjgaaDoor
