/- Parts of the proof: walks and plain laws, side by side. -/
import Derived.Test.YtpipgffbhpnmkaaGreatDoorM24
import Derived.Test.YtpipgffbhpnmkaaGreatDoorM11
set_option linter.unusedVariables false
set_option linter.unusedSimpArgs false
set_option linter.unusedSectionVars false
/- OrderMakes, walked: it returns true. -/
namespace Go.Proofs.YtpipgffbhpnmkaaGreatDoor
open Go.RowKit Qm

/-- The keys that were met. -/
def seenK (ps : List Pk) (l : List Mem) (i : Qm.W × Int) : Option Value := if i ∈ l.map (keyOfM ps) then some (.bool true) else none
theorem seenK_step {ps : List Pk} {l : List Mem} {j : Nat} {m : Mem} (h : l[j]? = some m) : (fun i => if i = keyOfM ps m then some (.bool true) else seenK ps (l.take j) i) = seenK ps (l.take (j + 1)) := by
  funext i
  unfold seenK
  obtain ⟨hj, rfl⟩ := List.getElem?_eq_some_iff.1 h
  rw [List.take_succ_eq_append_getElem hj, List.map_append, List.map_singleton]
  by_cases e : i = keyOfM ps l[j]
  · rw [if_pos e, if_pos (List.mem_append.2 (.inr (by rw [e]; exact List.mem_singleton.2 rfl)))]
  · rw [if_neg e]
    by_cases g : i ∈ (l.take j).map (keyOfM ps)
    · rw [if_pos g, if_pos (List.mem_append.2 (.inl g))]
    · rw [if_neg g, if_neg]
      intro g2
      rcases List.mem_append.1 g2 with g2 | g2
      · exact g g2
      · exact e (List.mem_singleton.1 g2)
theorem keys_step {ps : List Pk} {l : List Mem} {j : Nat} {m : Mem} (h : l[j]? = some m) (hn : ((l.take j).map (keyOfM ps)).Nodup) (hm : keyOfM ps m ∉ (l.take j).map (keyOfM ps)) : ((l.take (j + 1)).map (keyOfM ps)).Nodup := by
  obtain ⟨hj, rfl⟩ := List.getElem?_eq_some_iff.1 h
  rw [List.take_succ_eq_append_getElem hj, List.map_append, List.map_singleton, List.nodup_append]
  exact ⟨hn, by simp, fun a ha b hb e => hm (by rw [List.mem_singleton] at hb; rw [← hb, ← e]; exact ha)⟩
theorem key_ok {ps : List Pk} {m : Mem} (h : ckTree ps = 0) (hm : MemOk ps m) : nsOk (keyOfM ps m) ∧ 1 ≤ (pkOf ps m.pl).slot ∧ (pkOf ps m.pl).slot ≤ 9 := by
  have P := pkOf_ok h hm
  refine ⟨⟨?_, by show 0 ≤ (pkOf ps m.pl).slot; have := P.slot; omega, P.slot.2⟩, P.slot⟩
  show (pkOf ps m.pl).nm.length ≤ maxLen
  have := (isName_len P.nm).2
  unfold maxLen; omega
/-- What stands at each name and slot, by its value. -/
def NowOk (ps : List Pk) (w5 : World) (E : List Mem) (K : Qm.W × Int → Option Value) : Prop :=
  ∀ i, nsOk i → (lookE ps E i = none → K i = none) ∧ ∀ m, lookE ps E i = some m → ∃ A n c, K i = some (.agg #[.int .i64 m.pl, .slice A n c]) ∧ n ≤ c ∧ c ≤ maxLen ∧ RBools w5 (fun k => k < w5.heap.size) A n m.on
theorem NowOk.zero {ps : List Pk} {w5 : World} : NowOk ps w5 [] fun _ => none := fun i _ => ⟨fun _ => rfl, fun m h => (by cases h)⟩
theorem NowOk.put {ps : List Pk} {w5 : World} {E : List Mem} {K : Qm.W × Int → Option Value} (h : NowOk ps w5 E K) (hE : (E.map (keyOfM ps)).Nodup) {m : Mem} {A : Option Addr} {n c : Nat} (hn : n ≤ c) (hc : c ≤ maxLen) (hr : RBools w5 (fun k => k < w5.heap.size) A n m.on) :
    NowOk ps w5 (putE ps E m) fun j => if j = keyOfM ps m then some (.agg #[.int .i64 m.pl, .slice A n c]) else K j := by
  intro i hi
  rw [lookE_put hE]
  by_cases e : i = keyOfM ps m
  · rw [if_pos e]; (try dsimp only); rw [if_pos e]
    exact ⟨fun h => (by cases h), fun x hx => by injection hx with hx; subst hx; exact ⟨A, n, c, rfl, hn, hc, hr⟩⟩
  · rw [if_neg e]; (try dsimp only); rw [if_neg e]
    exact h i hi
theorem NowOk.del {ps : List Pk} {w5 : World} {E : List Mem} {K : Qm.W × Int → Option Value} (h : NowOk ps w5 E K) (hE : (E.map (keyOfM ps)).Nodup) {m : Mem} : NowOk ps w5 (delE ps E m) fun j => if j = keyOfM ps m then none else K j := by
  intro i hi
  rw [lookE_del hE]
  by_cases e : i = keyOfM ps m
  · rw [if_pos e]; (try dsimp only); rw [if_pos e]
    exact ⟨fun _ => rfl, fun x hx => (by cases hx)⟩
  · rw [if_neg e]; (try dsimp only); rw [if_neg e]
    exact h i hi
theorem put_take {ps : List Pk} {l : List Mem} {j : Nat} {m : Mem} (hn : (l.map (keyOfM ps)).Nodup) (h : l[j]? = some m) : lookE ps (l.take j) (keyOfM ps m) = none ∧ putE ps (l.take j) m = l.take (j + 1) := by
  obtain ⟨hj, rfl⟩ := List.getElem?_eq_some_iff.1 h
  have hno : ∀ o ∈ l.take j, keyOfM ps o ≠ keyOfM ps l[j] := by
    intro o ho e
    obtain ⟨a, ha, hao⟩ := mem_take_at ho
    obtain ⟨ha', rfl⟩ := List.getElem?_eq_some_iff.1 hao
    have e2 : (l.map (keyOfM ps))[a]'(by simpa using ha') = (l.map (keyOfM ps))[j]'(by simpa using hj) := by simpa using e
    have := (List.getElem_inj hn).1 e2
    omega
  refine ⟨lookE_none.2 hno, ?_⟩
  unfold putE delE
  rw [List.take_succ_eq_append_getElem hj]
  congr 1
  exact List.filter_eq_self.2 fun o ho => decide_eq_true (hno o ho)
theorem take_nodup {ps : List Pk} {l : List Mem} {j : Nat} (hn : (l.map (keyOfM ps)).Nodup) : ((l.take j).map (keyOfM ps)).Nodup := hn.sublist ((List.take_sublist _ _).map _)
theorem Made.small {ps : List Pk} {there l : List Mem} {az : List Ac} (A : ActsOk ps there l az) {i : Nat} {E : List Mem} (h : Made ps there az i E) {a : Ac} (ha : az[i]? = some a) : E.length ≤ there.length + l.length := by
  have hs : ∀ x ∈ E, x ∈ there ++ l := fun x hx => by
    rcases (h.mem x).1 hx with ⟨b, hb, hbo, rfl⟩ | ⟨q1, _⟩
    · obtain ⟨j, _, hjb⟩ := mem_take_at hb
      exact List.mem_append.2 (.inr (A.ins j b hjb hbo).1)
    · exact List.mem_append.2 (.inl q1)
  have hn := nodup_of_map h.nd
  have : ∀ {a b : List Mem}, a.Nodup → (∀ x ∈ a, x ∈ b) → a.length ≤ b.length := by
    intro a
    induction a with
    | nil => intro b _ _; exact Nat.zero_le _
    | cons x r ih =>
      intro b hn hm
      rw [List.nodup_cons] at hn
      have hxb := hm x (List.mem_cons_self ..)
      have h1 := ih (b := b.erase x) hn.2 fun y hy => (List.mem_erase_of_ne (show y ≠ x from fun e => hn.1 (by rw [← e]; exact hy))).2 (hm y (List.mem_cons_of_mem _ hy))
      have h2 := List.length_erase_of_mem hxb
      have h3 := List.length_pos_of_mem hxb
      simp only [List.length_cons]; omega
  have := this hn hs
  rwa [List.length_append] at this
theorem Tx.grown {w : World} {A : Option Addr} {n c : Nat} {wr wy : World} {g : Nat} (h : Tx w A n c wr) (hg : wr.grownBy wy (some g)) (hgt : w.heap.size < g) : Tx w A n c wy :=
  ⟨h.below.grown hg h.below.size (fun k e => by injection e with e; omega), h.whole.grown hg (fun e => by injection e with e; omega)⟩
theorem zeroBoolM (w : World) : (zeroValue 4).run Tryz.prog w = .ok (.bool false) w := by kernel_rfl
theorem zeroMemM (w : World) : (zeroValue 33).run Tryz.prog w = .ok (.agg #[.int .i64 0, .slice none 0 0]) w := by kernel_rfl
set_option maxRecDepth 100000 in
set_option maxHeartbeats 6400000 in
theorem omakes_any (ps : List Pk) (l1 l : List Mem) (S : Nat → Prop) (A B1 B : Option Addr) (n c q1 d1 q d : Nat) (w : World) (hT : RTree w S A n ps) (hnc : n ≤ c) (hc : c ≤ maxLen) (hL1 : RSet w S B1 q1 l1) (hqd1 : q1 ≤ d1) (hd1 : d1 ≤ maxLen) (hL : RSet w S B q l) (hqd : q ≤ d) (hd : d ≤ maxLen) (hS : ∀ k, S k → k < w.heap.size) (hLV : LaidV w) (hMW : MaxW w) :
    Calls Tryz.prog 3 #[.agg #[.slice A n c], .slice B1 q1 d1, .slice B q d] w fun e w' => e = .returned (.bool true) ∧ Below w.heap.size w w' := by
  have X0 := Lib.hid (Tx.new w A n c)
  have HT := Lib.hid hT; have HS := Lib.hid hS; have HL := Lib.hid hL; have HL1 := Lib.hid hL1; have HLV := Lib.hid hLV; have HMW := Lib.hid hMW; clear hT hS hL hL1 hLV hMW
  have Hlt := Lib.hid (fun (wx : World) (hb : Below w.heap.size w wx) k hk => Nat.lt_of_lt_of_le (HS.out k hk) hb.size)
  have HP1 := Lib.hid (fun wx (hb : Below w.heap.size w wx) => oplan_any ps l1 l S A B1 B n c q1 d1 q d wx (HT.out.under hb HS.out) hnc hc (HL1.out.under hb HS.out) hqd1 hd1 (HL.out.under hb HS.out) hqd hd (Hlt.out _ hb))
  have Hor := Lib.hid (fun wx (hb : Below w.heap.size w wx) => ordered_any wx (HLV.out.below hb) (HMW.out.below hb))
  have HA2 := Lib.hid (HP1.out _ X0.out.below)
  unfold maxLen at hc hd hd1
  clear HP1
  obtain ⟨z1, hz1⟩ : ∃ z, planE ps l1 l = z := ⟨_, rfl⟩
  have HZ1 := Lib.hid hz1; clear hz1
  go_enter Tryz.func3, Tryz.ntmps3
  go_upto_region 2 with (first | (go_at_call 8; refine HA2.out.mono ?_; rintro e w3 ⟨v3, cs3, B3, rfl, _, hG3, hb3⟩; rw [HZ1.out]; refine Hid.out ?_))
  refine Lib.hid ?_
  have X3 := Lib.hid (X0.out.move hb3)
  obtain ⟨A3, c3, rfl, hn3, hc3, hs3⟩ := hG3.seq
  have HS3 := Lib.hid (RSeq.more (S' := fun k => k < w3.heap.size) (R' := RAct w3 fun k => k < w3.heap.size) (fun k hk => hk.2) hs3 fun x y h => h.more fun k hk => hk.2)
  have HO3 := Lib.hid (Hor.out _ X3.out.below)
  clear hb3 hG3 HA2 X0 hs3
  by_cases hz1 : z1 = 0
  · subst hz1
    have hpr : planR ps l1 l = planL ps l1 l := by unfold planR; rw [if_pos HZ1.out]
    rw [hpr] at hn3 HS3 ⊢
    have hck : ckSet ps l = 0 := by
      have h := HZ1.out
      unfold planE at h
      split at h
      · rename_i g; exact absurd h g
      · rename_i g; simpa using g
    have hck1 : ckSet ps l1 = 0 := by
      have h := HZ1.out
      unfold planE at h
      rw [if_neg (by rw [hck]; decide)] at h
      exact h
    have HC := Lib.hid hck; have HC1 := Lib.hid hck1
    have hp8 := ckTree_len (ckSet_zero hck).1
    have hlen : l.length ≤ 100000 := oset_len hck (by rw [← HT.out.len]; exact hp8) HT.out.len
    have hlen1 : l1.length ≤ 100000 := oset_len hck1 (by rw [← HT.out.len]; exact hp8) HT.out.len
    have hlq : q ≤ 100000 := by rw [← HL.out.len]; exact hlen
    have hlq1 : q1 ≤ 100000 := by rw [← HL1.out.len]; exact hlen1
    have hN8 : n ≤ 8 := by rw [← HT.out.len]; exact hp8
    obtain ⟨aL, haL⟩ : ∃ x, x = planL ps l1 l := ⟨_, rfl⟩
    rw [← haL] at hn3 HS3 ⊢
    have HAL := Lib.hid haL
    obtain ⟨N, hN⟩ : ∃ x, x = aL.length := ⟨_, rfl⟩
    rw [← hN] at hn3 HS3 ⊢
    have HN := Lib.hid hN
    clear hpr haL hN hck hck1 hlen hlen1 hp8
    have hmm := @run_makeMap Tryz.prog
    have henter : ∀ (args : Array Value) (W : World), (callFunc 10 args).run Tryz.prog W = .ok (.enter 10 args) W := fun args W => by kernel_rfl
    have HK := Lib.hid (fun (j : Nat) (E : Option Addr) (u v0 : Nat) (wx : World) (hX : Tx w A n c wx) (hj : j < n) (hs : 1 ≤ (pkOf ps j).slot ∧ (pkOf ps j).slot ≤ 9) => omkey_any ps j E A u v0 n c w.heap.size S wx (HT.out.under hX.below HS.out) (by omega) (Hlt.out _ hX.below) (hX.whole.cell 0) hj hs)
    unfold maxLen at hc3
    go_upto_region 4 with (first | (go_at_call 9; refine HO3.out.mono ?_; rintro e w5 ⟨rfl, hb5⟩; refine Hid.out ?_))
    refine Lib.hid ?_
    have X5 := Lib.hid (X3.out.move hb5)
    have HS5 := Lib.hid (RSeq.more (S' := fun k => k < w5.heap.size) (R' := RAct w5 fun k => k < w5.heap.size) (fun k hk => Nat.lt_of_lt_of_le hk hb5.size) (RSeq.keep HS3.out (fun p hp => hb5.cell hp) fun x y h => h) fun x y h => (h.keep fun p hp => hb5.cell hp).more fun k hk => Nat.lt_of_lt_of_le hk hb5.size)
    clear hb5 HO3 HS3 X3
    go_wp2
    go_loopg [47] 2 (fun g iv wr => ∃ k : Nat, Hid (k + g = 2) ∧ iv = .int .i64 k ∧ Hid ((1 ≤ k → (l1.map (keyOfM ps)).Nodup) ∧ (2 ≤ k → (l.map (keyOfM ps)).Nodup)) ∧ Hid (Tx w A n c wr) ∧ Hid (Below w5.heap.size w5 wr))
    case atStart => exact ⟨0, Lib.hid (Nat.zero_add _), rfl, Lib.hid ⟨fun h => (by omega), fun h => (by omega)⟩, X5, Lib.hid (Below.refl _ _)⟩
    case round =>
      obtain ⟨k, Hk, rfl, HND, XR, HBR⟩ := hrel
      by_cases hk : k < 2
      · have hk1 : (k : Int) < 2 := by omega
        obtain ⟨Bx, qx, dx, lx, hix, hLx, hqx, hdx, hckx, hq5, hnext⟩ : ∃ (Bx : Option Addr) (qx dx : Nat) (lx : List Mem), (∀ wx, (Instr.index 44 (.agg #[.slice B1 q1 d1, .slice B q d]) (.int .i64 (k : Int))).run Tryz.prog wx = .ok (.slice Bx qx dx) wx) ∧ RSet w S Bx qx lx ∧ qx ≤ dx ∧ dx ≤ 2 ^ 63 - 1 ∧ ckSet ps lx = 0 ∧ qx ≤ 100000 ∧ ((lx.map (keyOfM ps)).Nodup → (1 ≤ k + 1 → (l1.map (keyOfM ps)).Nodup) ∧ (2 ≤ k + 1 → (l.map (keyOfM ps)).Nodup)) := by
          obtain rfl | rfl : k = 0 ∨ k = 1 := by omega
          · exact ⟨B1, q1, d1, l1, fun wx => by kernel_rfl, HL1.out, hqd1, hd1, HC1.out, hlq1, fun h => ⟨fun _ => h, fun h2 => (by omega)⟩⟩
          · exact ⟨B, q, d, l, fun wx => by kernel_rfl, HL.out, hqd, hd, HC.out, hlq, fun h => ⟨fun _ => HND.out.1 (Nat.le_refl _), fun _ => h⟩⟩
        have HLX := Lib.hid hLx; have HCX := Lib.hid hckx; have HNX := Lib.hid hnext
        clear hLx hckx hnext
        go_wp2
        obtain ⟨wq, rfl⟩ : ∃ x, x = wr := ⟨_, rfl⟩
        obtain ⟨gk1, rfl⟩ : ∃ x, x = gk := ⟨_, rfl⟩
        have hbm : Below wq.heap.size wq (wq.alloc (.map #[] 0)) := (Below.refl _ _).alloc (Nat.le_refl _) _
        have XM := Lib.hid (XR.out.move hbm)
        have HBM := Lib.hid (HBR.out.trans (hbm.mono HBR.out.size))
        have HG0 := Lib.hid ((GMap.made Tryz.prog 34 nsVal nsOk wq).congr rfl (fun i _ => (by unfold seenK; simp : (none : Option Value) = seenK ps (lx.take 0) i)))
        have hq5m : w5.heap.size ≤ wq.heap.size := HBR.out.size
        clear hbm XR HBR
        go_loopg [53] qx (fun g iv wr => ∃ j : Nat, Hid (j + g = qx) ∧ iv = .int .i64 j ∧ Hid (GMap Tryz.prog 34 nsVal nsOk wr wq.heap.size (seenK ps (lx.take j)) j) ∧ Hid ((lx.take j).map (keyOfM ps)).Nodup ∧ Hid (Tx w A n c wr) ∧ Hid (Below w5.heap.size w5 wr))
        case atStart => exact ⟨0, Lib.hid (Nat.zero_add _), rfl, HG0, Lib.hid (by simp), XM, HBM⟩
        case round =>
          obtain ⟨j, Hj, rfl, HG, HNJ, XQ, HBQ⟩ := hrel
          clear HG0 XM HBM
          by_cases hj : j < qx
          · obtain ⟨bx, ox, m, E, u, v0, rfl, hbS, hm, huv, hv, hbo, g0, g1⟩ := (HLX.out.under XQ.out.below HS.out).at_ hj
            have hmok := ckMs_mem (ckSet_zero HCX.out).2 m (List.mem_of_getElem? hm)
            obtain ⟨hok, hsl⟩ := key_ok (ckSet_zero HCX.out).1 hmok
            obtain ⟨jp, hjp⟩ : ∃ x : Nat, m.pl = (x : Int) := ⟨m.pl.toNat, by have := hmok.1; omega⟩
            have hjn : jp < n := by have := hmok.2.1; have := HT.out.len; omega
            have hkey : ((pkOf ps (jp : Int)).nm, (pkOf ps (jp : Int)).slot) = keyOfM ps m := by unfold keyOfM; rw [hjp]
            rw [hjp] at hsl g0
            have HKJ := Lib.hid (fun wx (hX : Tx w A n c wx) => by
              have h := HK.out jp E u v0 wx hX hjn hsl
              rw [hkey] at h
              exact h)
            have hb1 : Below wr.heap.size wr (wr.alloc (.cells #[.int .i64 (jp : Int), .slice E u v0] 33)) := (Below.refl _ wr).alloc (Nat.le_refl _) _
            have X7 := Lib.hid (XQ.out.move hb1)
            have HB7 := Lib.hid (HBQ.out.trans (hb1.mono HBQ.out.size))
            have HG7 := Lib.hid (HG.out.kept (grown_of_below hb1 none) (by simp))
            have M7 := Lib.hid (Whole.new wr wr.heap.size 33 [.int .i64 (jp : Int), .slice E u v0] rfl)
            have hbl : bx < wr.heap.size := Nat.lt_of_lt_of_le (HS.out _ hbS) XQ.out.below.size
            have hj1 : (j : Int) < qx := by omega
            have hj0 : (0 : Int) ≤ (j : Int) := by omega
            have m0 := M7.out.cell 0; have m1 := M7.out.cell 1
            simp only [List.getElem?_cons_zero, List.getElem?_cons_succ] at m0 m1
            have HM := Lib.hid hm; have HOK := Lib.hid hok
            clear hb1 hbo hmok hsl hkey hm hok XQ HBQ HG
            go_upto_region 13 with (first | (go_at_call 10; refine (HKJ.out _ X7.out).mono ?_; rintro e w8 ⟨rfl, hb8⟩; refine Hid.out ?_))
            refine Lib.hid ?_
            have X8 := Lib.hid (X7.out.move hb8)
            have HB8 := Lib.hid (HB7.out.trans (hb8.mono HB7.out.size))
            have HG8 := Lib.hid (HG7.out.kept (grown_of_below hb8 none) (by simp))
            have M8 := Lib.hid (M7.out.below hb8 M7.out.lt)
            have hlk := HG8.out.look keyFam Tryz.underlying45 (zeroBoolM _) HOK.out
            clear hb8 X7 HB7 HG7 M7 m0 m1 g0 g1
            by_cases hin : keyOfM ps m ∈ (lx.take j).map (keyOfM ps)
            · have hsk : (seenK ps (lx.take j) (keyOfM ps m)).getD (.bool false) = .bool true := by unfold seenK; rw [if_pos hin]; rfl
              rw [hsk] at hlk
              clear hsk
              go_wp2
              go_ret
              exact ⟨rfl, X8.out.below⟩
            · have hsn : seenK ps (lx.take j) (keyOfM ps m) = none := by unfold seenK; rw [if_neg hin]
              rw [hsn] at hlk
              simp only [Option.getD_none] at hlk
              have HSN := Lib.hid hsn
              clear hsn
              have m0 := M8.out.cell 0; have m1 := M8.out.cell 1
              simp only [List.getElem?_cons_zero, List.getElem?_cons_succ] at m0 m1
              go_upto_region 15 with (first | (go_at_call 10; refine (HKJ.out _ X8.out).mono ?_; rintro e w9 ⟨rfl, hb9⟩; refine Hid.out ?_))
              refine Lib.hid ?_
              have X9 := Lib.hid (X8.out.move hb9)
              have HB9 := Lib.hid (HB8.out.trans (hb9.mono HB8.out.size))
              have HG9 := HG8.out.kept (grown_of_below hb9 none) (by simp)
              obtain ⟨w10, hput, hset, hg10, hs10⟩ := HG9.put keyFam Tryz.underlying45 HOK.out (.bool true) (by unfold maxLen; omega)
              rw [HSN.out, seenK_step HM.out] at hset
              simp only [Option.isSome_none, Bool.false_eq_true, if_false] at hset
              have HG10 := Lib.hid hset
              have X10 := Lib.hid (X9.out.grown hg10 (by have := X5.out.whole.lt; omega))
              have HB10 := Lib.hid (HB9.out.grown hg10 HB9.out.size (fun k e => by injection e with e; omega))
              have HN10 := Lib.hid (keys_step HM.out HNJ.out hin)
              clear hset hg10 hs10 hb9 X8 HB8 HG8 M8 m0 m1 HG9
              go_wp2
              go_roundg (gk - 1)
              case measure => have := Hj.out; omega
              case rel => exact ⟨j + 1, Lib.hid (by have := Hj.out; omega), by go_num, HG10, HN10, X10, HB10⟩
          · obtain rfl : qx = j := by have := Hj.out; omega
            have hlx : lx.take qx = lx := List.take_of_length_le (by rw [HLX.out.len]; exact Nat.le_refl _)
            have hnd := HNJ.out
            rw [hlx] at hnd
            have HND2 := Lib.hid (HNX.out hnd)
            clear hlx hnd
            go_wp2
            go_roundg (gk1 - 1)
            case measure => have := Hk.out; omega
            case rel => exact ⟨k + 1, Lib.hid (by have := Hk.out; omega), by go_num, HND2, XQ, HBQ⟩
      · obtain rfl : k = 2 := by have := Hk.out; omega
        have hnd1 : (l1.map (keyOfM ps)).Nodup := HND.out.1 (by omega)
        have hnd : (l.map (keyOfM ps)).Nodup := HND.out.2 (by omega)
        have HN1 := Lib.hid hnd1; have HN2 := Lib.hid hnd
        have HA := Lib.hid (acts_ok (ps := ps) (nodup_of_map hnd1) (nodup_of_map hnd))
        rw [← HAL.out] at HA
        clear hnd1 hnd HND
        go_wp2
        obtain ⟨wq, rfl⟩ : ∃ x, x = wr := ⟨_, rfl⟩
        obtain ⟨gk1, rfl⟩ : ∃ x, x = gk := ⟨_, rfl⟩
        have hbm : Below wq.heap.size wq (wq.alloc (.map #[] 0)) := (Below.refl _ _).alloc (Nat.le_refl _) _
        have XM := Lib.hid (XR.out.move hbm)
        have HBM := Lib.hid (HBR.out.trans (hbm.mono HBR.out.size))
        have HG0 := Lib.hid (GMap.made Tryz.prog 34 nsVal nsOk wq)
        have hq5m : w5.heap.size ≤ wq.heap.size := HBR.out.size
        clear hbm XR HBR
        go_loopg [71] q1 (fun g iv wr => ∃ (j : Nat) (K : Qm.W × Int → Option Value), Hid (j + g = q1) ∧ iv = .int .i64 j ∧ Hid (GMap Tryz.prog 34 nsVal nsOk wr wq.heap.size K j) ∧ Hid (NowOk ps w5 (l1.take j) K) ∧ Hid (Tx w A n c wr) ∧ Hid (Below w5.heap.size w5 wr))
        case atStart => exact ⟨0, _, Lib.hid (Nat.zero_add _), rfl, HG0, Lib.hid NowOk.zero, XM, HBM⟩
        case round =>
          obtain ⟨j, K, Hj, rfl, HG, HNW, XQ, HBQ⟩ := hrel
          clear HG0 XM HBM
          by_cases hj : j < q1
          · skip
            obtain ⟨bx, ox, m, E, u, v0, rfl, hbS, hm, huv, hv, hbo, g0, g1⟩ := (HL1.out.under XQ.out.below HS.out).at_ hj
            have hmok := ckMs_mem (ckSet_zero HC1.out).2 m (List.mem_of_getElem? hm)
            obtain ⟨hok, hsl⟩ := key_ok (ckSet_zero HC1.out).1 hmok
            obtain ⟨jp, hjp⟩ : ∃ x : Nat, m.pl = (x : Int) := ⟨m.pl.toNat, by have := hmok.1; omega⟩
            have hjn : jp < n := by have := hmok.2.1; have := HT.out.len; omega
            have hkey : ((pkOf ps (jp : Int)).nm, (pkOf ps (jp : Int)).slot) = keyOfM ps m := by unfold keyOfM; rw [hjp]
            have hbo5 : RBools w5 (fun k => k < w5.heap.size) E u m.on := Row.more (Row.keep hbo fun p hp => (HBQ.out.cell (p := p) (Nat.lt_of_lt_of_le (HS.out _ hp) X5.out.below.size)).symm) fun k hk => Nat.lt_of_lt_of_le (HS.out _ hk) X5.out.below.size
            obtain ⟨hlkn, hptk⟩ := put_take HN1.out hm
            have hnw := HNW.out.put (take_nodup HN1.out) huv hv hbo5
            rw [hptk] at hnw
            rw [hjp] at hsl g0
            have hKn := (HNW.out _ hok).1 hlkn
            have HKJ := Lib.hid (fun wx (hX : Tx w A n c wx) => by
              have h := HK.out jp E u v0 wx hX hjn hsl
              rw [hkey] at h
              exact h)
            have hb1 : Below wr.heap.size wr (wr.alloc (.cells #[.int .i64 (jp : Int), .slice E u v0] 33)) := (Below.refl _ wr).alloc (Nat.le_refl _) _
            have X7 := Lib.hid (XQ.out.move hb1)
            have HB7 := Lib.hid (HBQ.out.trans (hb1.mono HBQ.out.size))
            have HG7 := Lib.hid (HG.out.kept (grown_of_below hb1 none) (by simp))
            have M7 := Lib.hid (Whole.new wr wr.heap.size 33 [.int .i64 (jp : Int), .slice E u v0] rfl)
            have hbl : bx < wr.heap.size := Nat.lt_of_lt_of_le (HS.out _ hbS) XQ.out.below.size
            have hj1 : (j : Int) < q1 := by omega
            have hj0 : (0 : Int) ≤ (j : Int) := by omega
            have hmlt : wr.heap.size ≠ wq.heap.size := by have := HG.out.lt; omega
            have HOK := Lib.hid hok; have HNW2 := Lib.hid hnw; have HKN := Lib.hid hKn
            rw [hjp] at HNW2
            clear hb1 hbo hmok hsl hkey hm hok hnw hKn hbo5 hlkn hptk XQ HBQ HG HNW
            go_upto_region 21 with fail
            have m0 := M7.out.cell 0; have m1 := M7.out.cell 1
            simp only [List.getElem?_cons_zero, List.getElem?_cons_succ] at m0 m1
            refine wp_region_held_drew (S := (fun w' => w'.cell? ⟨wr.heap.size, 0, none⟩ = some (.int .i64 (jp : Int)) ∧ w'.cell? ⟨wr.heap.size, 1, none⟩ = some (.slice E u v0))) (by kernel_rfl) (⟨m0, m1⟩) (fun hHeld => ?_)
            first
            | (refine wpAnyH_take (i := 0) (v := ?_) held_at0 (by kernel_rfl) (by kernel_rfl) (by kernel_rfl) (fun _ _ _ h => h) (Or.inl ⟨by rfl, ?_⟩) (by assumption) ?_
               rotate_left
               · (intro w_ hSw; (try dsimp only at hSw); go_simp; (try with_reducible rfl))
               (try simp only [Act.put, List.setIfInBounds_toArray, List.set_cons_zero, List.set_cons_succ]))
            | (refine wpAnyH_take (i := 0) (v := undef) held_at0 (by kernel_rfl) (by kernel_rfl) (by kernel_rfl) (fun _ _ _ h => h) (Or.inr ⟨by rfl, rfl⟩) (by assumption) ?_
               (try simp only [Act.put, List.setIfInBounds_toArray, List.set_cons_zero, List.set_cons_succ]))
            first
            | (refine wpAnyH_take (i := 1) (v := ?_) held_at1 (by kernel_rfl) (by kernel_rfl) (by kernel_rfl) (fun _ _ _ h => h) (Or.inl ⟨by rfl, ?_⟩) (by assumption) ?_
               rotate_left
               · (intro w_ hSw; (try dsimp only at hSw); go_simp; (try with_reducible rfl))
               (try simp only [Act.put, List.setIfInBounds_toArray, List.set_cons_zero, List.set_cons_succ]))
            | (refine wpAnyH_take (i := 1) (v := undef) held_at1 (by kernel_rfl) (by kernel_rfl) (by kernel_rfl) (fun _ _ _ h => h) (Or.inr ⟨by rfl, rfl⟩) (by assumption) ?_
               (try simp only [Act.put, List.setIfInBounds_toArray, List.set_cons_zero, List.set_cons_succ]))
            first
            | (refine wpAnyH_take (i := 2) (v := ?_) held_at2 (by kernel_rfl) (by kernel_rfl) (by kernel_rfl) (fun _ _ _ h => h) (Or.inl ⟨by rfl, ?_⟩) (by assumption) ?_
               rotate_left
               · (intro w_ hSw; (try dsimp only at hSw); go_simp; (try with_reducible rfl))
               (try simp only [Act.put, List.setIfInBounds_toArray, List.set_cons_zero, List.set_cons_succ]))
            | (refine wpAnyH_take (i := 2) (v := undef) held_at2 (by kernel_rfl) (by kernel_rfl) (by kernel_rfl) (fun _ _ _ h => h) (Or.inr ⟨by rfl, rfl⟩) (by assumption) ?_
               (try simp only [Act.put, List.setIfInBounds_toArray, List.set_cons_zero, List.set_cons_succ]))
            first
            | (refine wpAnyH_take (i := 4) (v := ?_) held_at4 (by kernel_rfl) (by kernel_rfl) (by kernel_rfl) (fun _ _ _ h => h) (Or.inl ⟨by rfl, ?_⟩) (by assumption) ?_
               rotate_left
               · (intro w_ hSw; (try dsimp only at hSw); go_simp; (try with_reducible rfl))
               (try simp only [Act.put, List.setIfInBounds_toArray, List.set_cons_zero, List.set_cons_succ]))
            | (refine wpAnyH_take (i := 4) (v := undef) held_at4 (by kernel_rfl) (by kernel_rfl) (by kernel_rfl) (fun _ _ _ h => h) (Or.inr ⟨by rfl, rfl⟩) (by assumption) ?_
               (try simp only [Act.put, List.setIfInBounds_toArray, List.set_cons_zero, List.set_cons_succ]))
            refine wpAnyH_ready (rs := [3]) (by kernel_rfl) (by simp) ?_
            refine AllReadyH.cons held_at3 (fun K hK => ?_) AllReadyH.nil
            (try simp only [List.setIfInBounds_toArray, List.set_cons_zero, List.set_cons_succ])
            go_simp
            go_at_call 10
            refine (HKJ.out _ (by first | exact X7.out | exact X7.out.move (below_drewN (Below.refl _ _) _))).mono ?_
            rintro e wn ⟨rfl, hb⟩
            have X8 := Lib.hid (by first | exact X7.out.move hb | exact X7.out.move ((below_drewN (Below.refl _ _) _).trans hb)); have HB8 := Lib.hid (by first | exact HB7.out.trans (hb.mono HB7.out.size) | exact HB7.out.trans (((below_drewN (Below.refl _ _) _).trans hb).mono HB7.out.size)); have HG8 := (by first | exact HG7.out.kept (grown_of_below hb none) (by simp) | exact HG7.out.kept (grown_of_below ((below_drewN (Below.refl _ _) _).trans hb) none) (by simp)); have M8 := Lib.hid (by first | exact M7.out.below hb M7.out.lt | exact M7.out.below ((below_drewN (Below.refl _ _) _).trans hb) M7.out.lt); clear hb m0 m1; have m0 := M8.out.cell 0; have m1 := M8.out.cell 1; simp only [List.getElem?_cons_zero, List.getElem?_cons_succ] at m0 m1
            refine hK.out _ _ (⟨m0, m1⟩) (fun hHeld => ?_)
            clear hK K
            (try simp only [Act.put, List.setIfInBounds_toArray, List.set_cons_zero, List.set_cons_succ])
            obtain ⟨w10, hput, hset, hg10, hs10⟩ := HG8.put keyFam Tryz.underlying46 HOK.out (.agg #[.int .i64 (jp : Int), .slice E u v0]) (by unfold maxLen; omega)
            rw [HKN.out] at hset
            simp only [Option.isSome_none, Bool.false_eq_true, if_false] at hset
            have M10 := Lib.hid (M8.out.grown hg10 (fun e => by injection e with e; omega))
            have HG10 := Lib.hid hset
            clear hset
            refine wpAnyH_ready (rs := [5]) (by kernel_rfl) (by simp) ?_
            refine AllReadyH.cons held_at5 (fun K hK => ?_) AllReadyH.nil
            (try simp only [List.setIfInBounds_toArray, List.set_cons_zero, List.set_cons_succ])
            go_simp
            refine hK.out _ _ (⟨(M10.out.cell 0), (M10.out.cell 1)⟩) (fun hHeld => ?_)
            clear hK K
            (try simp only [Act.put, List.setIfInBounds_toArray, List.set_cons_zero, List.set_cons_succ])
            refine wpAnyH_done (by kernel_rfl) ?_ _
            have X10 := Lib.hid (X8.out.grown hg10 (by have := X5.out.whole.lt; omega))
            have HB10 := Lib.hid (HB8.out.grown hg10 HB8.out.size (fun k e => by injection e with e; omega))
            clear hput hg10 hs10 M10 M8 m0 m1 X8 HB8 HG8 X7 HB7 HG7 M7 HKJ
            go_wp2
            go_roundg (gk - 1)
            case measure => have := Hj.out; omega
            case rel => exact ⟨j + 1, _, Lib.hid (by have := Hj.out; omega), by go_num, HG10, HNW2, X10, HB10⟩
          · obtain rfl : q1 = j := by have := Hj.out; omega
            have hl1t : l1.take q1 = l1 := List.take_of_length_le (by rw [HL1.out.len]; exact Nat.le_refl _)
            have hnw := HNW.out
            rw [hl1t] at hnw
            have HNA := Lib.hid hnw
            have HMA := Lib.hid (Made.zero (ps := ps) (az := aL) HN1.out)
            have hg := HG.out
            rw [← HL1.out.len] at hg
            have HGA := Lib.hid hg
            clear hl1t hnw hg HNW HG hj Hj
            go_wp2
            obtain ⟨w6, rfl⟩ : ∃ x, x = wr := ⟨_, rfl⟩
            obtain ⟨gk2, rfl⟩ : ∃ x, x = gk := ⟨_, rfl⟩
            go_loopg [83, 18] N (fun g iv bv wr => ∃ (i : Nat) (bb : Bool) (E : List Mem) (K : Qm.W × Int → Option Value), Hid (i + g = N) ∧ iv = .int .i64 i ∧ bv = .bool bb ∧ Hid (bb = (aL.take i).any fun a => !a.out) ∧ Hid (GMap Tryz.prog 34 nsVal nsOk wr wq.heap.size K E.length) ∧ Hid (NowOk ps w5 E K) ∧ Hid (Made ps l1 aL i E) ∧ Hid (Tx w A n c wr) ∧ Hid (Below w5.heap.size w5 wr))
            case atStart => exact ⟨0, false, l1, K, Lib.hid (Nat.zero_add _), rfl, rfl, Lib.hid (by simp), HGA, HNA, HMA, XQ, HBQ⟩
            case round =>
              obtain ⟨i, bb, EL, KL, Hi, rfl, rfl, HBB, HG, HNW, HMD, XR, HBR⟩ := hrel
              clear HGA HNA HMA XQ HBQ
              by_cases hi : i < N
              · obtain ⟨b2, o2, x, a, rfl, hbS2, hy, hxy, _, hcell⟩ := HS5.out.at_ hi (by decide)
                obtain ⟨E2, u2, v2, rfl, hu2, hv2, hon2⟩ := hxy
                have e0 := (HBR.out.cell (p := ⟨b2, o2 + i * 4 + 0, none⟩) hbS2).trans (hcell 0 (by omega)); have e1 := (HBR.out.cell (p := ⟨b2, o2 + i * 4 + 1, none⟩) hbS2).trans (hcell 1 (by omega)); have e2 := (HBR.out.cell (p := ⟨b2, o2 + i * 4 + 2, none⟩) hbS2).trans (hcell 2 (by omega)); have e3 := (HBR.out.cell (p := ⟨b2, o2 + i * 4 + 3, none⟩) hbS2).trans (hcell 3 (by omega))
                simp only [List.getElem?_cons_zero, List.getElem?_cons_succ, Nat.add_zero] at e0 e1 e2 e3
                have hbl2 : b2 < wr.heap.size := Nat.lt_of_lt_of_le hbS2 HBR.out.size
                have hi1 : (i : Int) < N := by omega
                have hi0 : (0 : Int) ≤ (i : Int) := by omega
                have HY := Lib.hid hy
                have hnxt : (aL.take (i + 1)).any (fun a => !a.out) = ((aL.take i).any (fun a => !a.out) || !a.out) := by
                  obtain ⟨hil, rfl⟩ := List.getElem?_eq_some_iff.1 hy
                  rw [List.take_succ_eq_append_getElem hil, List.any_append]
                  simp
                rw [← HBB.out] at hnxt
                have HNXT := Lib.hid hnxt
                have hml : a.m ∈ l1 ∨ a.m ∈ l := by
                  cases ho : a.out
                  · exact .inr (HA.out.ins i a hy ho).1
                  · exact .inl (HA.out.outs i a hy ho).1
                have hmok : MemOk ps a.m := hml.elim (ckMs_mem (ckSet_zero HC1.out).2 a.m) (ckMs_mem (ckSet_zero HC.out).2 a.m)
                obtain ⟨hok, hsl⟩ := key_ok (ckSet_zero HC1.out).1 hmok
                obtain ⟨jp, hjp⟩ : ∃ x : Nat, a.m.pl = (x : Int) := ⟨a.m.pl.toNat, by have := hmok.1; omega⟩
                have hjn : jp < n := by have := hmok.2.1; have := HT.out.len; omega
                have hkey : ((pkOf ps (jp : Int)).nm, (pkOf ps (jp : Int)).slot) = keyOfM ps a.m := by unfold keyOfM; rw [hjp]
                rw [hjp] at hsl e1
                have HKJ := Lib.hid (fun wx (hX : Tx w A n c wx) => by
                  have h := HK.out jp E2 u2 v2 wx hX hjn hsl
                  rw [hkey] at h
                  exact h)
                have HJP := Lib.hid hjp; have HOK := Lib.hid hok
                have HSM := Lib.hid (fun (o : Mem) (A7 : Option Addr) (n7 c7 : Nat) (hn7 : n7 ≤ c7) (hc7 : c7 ≤ maxLen) (hr7 : RBools w5 (fun k => k < w5.heap.size) A7 n7 o.on) (r : Bool) (hr : decide (o = a.m) = r) wx (hb : Below w5.heap.size w5 wx) => by
                  have h := rsameM_any o a.m (fun k => k < w5.heap.size) A7 E2 n7 c7 u2 v2 wx (Row.below hr7 hb fun k hk => hk) (Row.below hon2 hb fun k hk => hk) (Nat.le_trans hn7 hc7) (Nat.le_trans hu2 hv2) (fun k hk => Nat.lt_of_lt_of_le hk hb.size)
                  rw [hjp, hr] at h
                  exact h)
                have HON := Lib.hid hon2
                obtain ⟨out, m, cyc⟩ := a
                have hb1 : Below wr.heap.size wr (wr.alloc (.cells #[.bool out, .int .i64 (jp : Int), .slice E2 u2 v2, .int .i64 cyc] 48)) := (Below.refl _ wr).alloc (Nat.le_refl _) _
                have X7 := Lib.hid (XR.out.move hb1)
                have HB7 := Lib.hid (HBR.out.trans (hb1.mono HBR.out.size))
                have HG7 := Lib.hid (HG.out.kept (grown_of_below hb1 none) (by simp))
                have M7 := Lib.hid (Whole.new wr wr.heap.size 48 [.bool out, .int .i64 (jp : Int), .slice E2 u2 v2, .int .i64 cyc] rfl)
                have hmlt : wr.heap.size ≠ wq.heap.size := by have := HG.out.lt; omega
                have m0 := M7.out.cell 0; have m1 := M7.out.cell 1; have m2 := M7.out.cell 2; have m3 := M7.out.cell 3
                simp only [List.getElem?_cons_zero, List.getElem?_cons_succ] at m0 m1 m2 m3
                dsimp only at hjp HOK HKJ HSM HJP HNXT HSM
                clear hcell hy hon2 hnxt hml hmok hsl hkey hok hb1 hjp XR HBR HG
                cases out
                · have HMN := Lib.hid (HMD.out.in_ HA.out HN2.out HY.out rfl)
                  have HNN := Lib.hid (HNW.out.put HMD.out.nd (m := m) hu2 hv2 HON.out)
                  rw [HJP.out] at HNN
                  dsimp only at HMN
                  have hpl := putE_len HMD.out.nd m
                  have HB2 : Hid (true = (aL.take (i + 1)).any fun a => !a.out) := Lib.hid (by rw [HNXT.out]; simp)
                  cases hl : lookE ps EL (keyOfM ps m) with
                  | none =>
                    have HKN := Lib.hid ((HNW.out _ HOK.out).1 hl)
                    rw [hl] at hpl
                    simp only [Option.isSome_none, Bool.false_eq_true, if_false] at hpl
                    clear hl HSM
                    go_upto_region 34 with (first | (go_at_call 10; refine (HKJ.out _ X7.out).mono ?_; rintro e w8 ⟨rfl, hb8⟩; refine Hid.out ?_))
                    refine Lib.hid ?_
                    have X8 := Lib.hid (X7.out.move hb8)
                    have HB8 := Lib.hid (HB7.out.trans (hb8.mono HB7.out.size))
                    have HG8 := Lib.hid (HG7.out.kept (grown_of_below hb8 none) (by simp))
                    have M8 := Lib.hid (M7.out.below hb8 M7.out.lt)
                    have hlk := HG8.out.look_ok keyFam Tryz.underlying46 (zeroMemM _) HOK.out
                    rw [HKN.out] at hlk
                    simp only [Option.getD_none, Option.isSome_none] at hlk
                    clear hb8 X7 HB7 HG7 M7 m0 m1 m2 m3 e0 e1 e2 e3
                    go_upto_region 36 with fail
                    have hb9 : Below w8.heap.size w8 (w8.alloc (.cells #[.int .i64 0, .slice none 0 0] 33)) := (Below.refl _ w8).alloc (Nat.le_refl _) _
                    have X9 := Lib.hid (X8.out.move hb9)
                    have HB9 := Lib.hid (HB8.out.trans (hb9.mono HB8.out.size))
                    have HG9 := Lib.hid (HG8.out.kept (grown_of_below hb9 none) (by simp))
                    have M9 := Lib.hid (M8.out.below hb9 M8.out.lt)
                    have m1 := M9.out.cell 1; have m2 := M9.out.cell 2
                    simp only [List.getElem?_cons_zero, List.getElem?_cons_succ] at m1 m2
                    have HCN : Hid ((if (KL (keyOfM ps m)).isSome = true then EL.length else EL.length + 1) = (putE ps EL m).length) := Lib.hid (by rw [HKN.out, hpl]; rfl)
                    have hbd : EL.length < maxLen := by have h1 := HG9.out; have := HMD.out.small HA.out HY.out; have h3 := HL1.out.len; have h4 := HL.out.len; unfold maxLen; omega
                    clear hb9 X8 HB8 HG8 M8 hlk
                    refine wp_region_held_drew (S := (fun w' => w'.cell? ⟨wr.heap.size, 1, none⟩ = some (.int .i64 (jp : Int)) ∧ w'.cell? ⟨wr.heap.size, 2, none⟩ = some (.slice E2 u2 v2))) (by kernel_rfl) (⟨m1, m2⟩) (fun hHeld => ?_)
                    first
                    | (refine wpAnyH_take (i := 0) (v := ?_) held_at0 (by kernel_rfl) (by kernel_rfl) (by kernel_rfl) (fun _ _ _ h => h) (Or.inl ⟨by rfl, ?_⟩) (by assumption) ?_
                       rotate_left
                       · (intro w_ hSw; (try dsimp only at hSw); go_simp; (try with_reducible rfl))
                       (try simp only [Act.put, List.setIfInBounds_toArray, List.set_cons_zero, List.set_cons_succ]))
                    | (refine wpAnyH_take (i := 0) (v := undef) held_at0 (by kernel_rfl) (by kernel_rfl) (by kernel_rfl) (fun _ _ _ h => h) (Or.inr ⟨by rfl, rfl⟩) (by assumption) ?_
                       (try simp only [Act.put, List.setIfInBounds_toArray, List.set_cons_zero, List.set_cons_succ]))
                    first
                    | (refine wpAnyH_take (i := 1) (v := ?_) held_at1 (by kernel_rfl) (by kernel_rfl) (by kernel_rfl) (fun _ _ _ h => h) (Or.inl ⟨by rfl, ?_⟩) (by assumption) ?_
                       rotate_left
                       · (intro w_ hSw; (try dsimp only at hSw); go_simp; (try with_reducible rfl))
                       (try simp only [Act.put, List.setIfInBounds_toArray, List.set_cons_zero, List.set_cons_succ]))
                    | (refine wpAnyH_take (i := 1) (v := undef) held_at1 (by kernel_rfl) (by kernel_rfl) (by kernel_rfl) (fun _ _ _ h => h) (Or.inr ⟨by rfl, rfl⟩) (by assumption) ?_
                       (try simp only [Act.put, List.setIfInBounds_toArray, List.set_cons_zero, List.set_cons_succ]))
                    first
                    | (refine wpAnyH_take (i := 2) (v := ?_) held_at2 (by kernel_rfl) (by kernel_rfl) (by kernel_rfl) (fun _ _ _ h => h) (Or.inl ⟨by rfl, ?_⟩) (by assumption) ?_
                       rotate_left
                       · (intro w_ hSw; (try dsimp only at hSw); go_simp; (try with_reducible rfl))
                       (try simp only [Act.put, List.setIfInBounds_toArray, List.set_cons_zero, List.set_cons_succ]))
                    | (refine wpAnyH_take (i := 2) (v := undef) held_at2 (by kernel_rfl) (by kernel_rfl) (by kernel_rfl) (fun _ _ _ h => h) (Or.inr ⟨by rfl, rfl⟩) (by assumption) ?_
                       (try simp only [Act.put, List.setIfInBounds_toArray, List.set_cons_zero, List.set_cons_succ]))
                    first
                    | (refine wpAnyH_take (i := 3) (v := ?_) held_at3 (by kernel_rfl) (by kernel_rfl) (by kernel_rfl) (fun _ _ _ h => h) (Or.inl ⟨by rfl, ?_⟩) (by assumption) ?_
                       rotate_left
                       · (intro w_ hSw; (try dsimp only at hSw); go_simp; (try with_reducible rfl))
                       (try simp only [Act.put, List.setIfInBounds_toArray, List.set_cons_zero, List.set_cons_succ]))
                    | (refine wpAnyH_take (i := 3) (v := undef) held_at3 (by kernel_rfl) (by kernel_rfl) (by kernel_rfl) (fun _ _ _ h => h) (Or.inr ⟨by rfl, rfl⟩) (by assumption) ?_
                       (try simp only [Act.put, List.setIfInBounds_toArray, List.set_cons_zero, List.set_cons_succ]))
                    first
                    | (refine wpAnyH_take (i := 5) (v := ?_) held_at5 (by kernel_rfl) (by kernel_rfl) (by kernel_rfl) (fun _ _ _ h => h) (Or.inl ⟨by rfl, ?_⟩) (by assumption) ?_
                       rotate_left
                       · (intro w_ hSw; (try dsimp only at hSw); go_simp; (try with_reducible rfl))
                       (try simp only [Act.put, List.setIfInBounds_toArray, List.set_cons_zero, List.set_cons_succ]))
                    | (refine wpAnyH_take (i := 5) (v := undef) held_at5 (by kernel_rfl) (by kernel_rfl) (by kernel_rfl) (fun _ _ _ h => h) (Or.inr ⟨by rfl, rfl⟩) (by assumption) ?_
                       (try simp only [Act.put, List.setIfInBounds_toArray, List.set_cons_zero, List.set_cons_succ]))
                    first
                    | (refine wpAnyH_take (i := 6) (v := ?_) held_at6 (by kernel_rfl) (by kernel_rfl) (by kernel_rfl) (fun _ _ _ h => h) (Or.inl ⟨by rfl, ?_⟩) (by assumption) ?_
                       rotate_left
                       · (intro w_ hSw; (try dsimp only at hSw); go_simp; (try with_reducible rfl))
                       (try simp only [Act.put, List.setIfInBounds_toArray, List.set_cons_zero, List.set_cons_succ]))
                    | (refine wpAnyH_take (i := 6) (v := undef) held_at6 (by kernel_rfl) (by kernel_rfl) (by kernel_rfl) (fun _ _ _ h => h) (Or.inr ⟨by rfl, rfl⟩) (by assumption) ?_
                       (try simp only [Act.put, List.setIfInBounds_toArray, List.set_cons_zero, List.set_cons_succ]))
                    refine wpAnyH_ready (rs := [4]) (by kernel_rfl) (by simp) ?_
                    refine AllReadyH.cons held_at4 (fun K hK => ?_) AllReadyH.nil
                    (try simp only [List.setIfInBounds_toArray, List.set_cons_zero, List.set_cons_succ])
                    go_simp
                    go_at_call 10
                    refine (HKJ.out _ (by first | exact X9.out | exact X9.out.move (below_drewN (Below.refl _ _) _))).mono ?_
                    rintro e wn ⟨rfl, hb⟩
                    have X10 := Lib.hid (by first | exact X9.out.move hb | exact X9.out.move ((below_drewN (Below.refl _ _) _).trans hb)); have HB10 := Lib.hid (by first | exact HB9.out.trans (hb.mono HB9.out.size) | exact HB9.out.trans (((below_drewN (Below.refl _ _) _).trans hb).mono HB9.out.size)); have HG10 := (by first | exact HG9.out.kept (grown_of_below hb none) (by simp) | exact HG9.out.kept (grown_of_below ((below_drewN (Below.refl _ _) _).trans hb) none) (by simp)); have M10 := Lib.hid (by first | exact M9.out.below hb M9.out.lt | exact M9.out.below ((below_drewN (Below.refl _ _) _).trans hb) M9.out.lt); clear hb m1 m2; have m1 := M10.out.cell 1; have m2 := M10.out.cell 2; simp only [List.getElem?_cons_zero, List.getElem?_cons_succ] at m1 m2
                    refine hK.out _ _ (⟨m1, m2⟩) (fun hHeld => ?_)
                    clear hK K
                    (try simp only [Act.put, List.setIfInBounds_toArray, List.set_cons_zero, List.set_cons_succ])
                    obtain ⟨w11, hput, hset, hg11, hs11⟩ := HG10.put keyFam Tryz.underlying46 HOK.out (.agg #[.int .i64 (jp : Int), .slice E2 u2 v2]) hbd
                    have M11 := Lib.hid (M10.out.grown hg11 (fun e => by injection e with e; omega))
                    have HG11 := Lib.hid (hset.congr HCN.out fun _ _ => rfl)
                    clear hset
                    refine wpAnyH_ready (rs := [7]) (by kernel_rfl) (by simp) ?_
                    refine AllReadyH.cons held_at7 (fun K hK => ?_) AllReadyH.nil
                    (try simp only [List.setIfInBounds_toArray, List.set_cons_zero, List.set_cons_succ])
                    go_simp
                    refine hK.out _ _ (⟨(M11.out.cell 1), (M11.out.cell 2)⟩) (fun hHeld => ?_)
                    clear hK K
                    (try simp only [Act.put, List.setIfInBounds_toArray, List.set_cons_zero, List.set_cons_succ])
                    refine wpAnyH_done (by kernel_rfl) ?_ _
                    have X11 := Lib.hid (X10.out.grown hg11 (by have := X5.out.whole.lt; omega))
                    have HB11 := Lib.hid (HB10.out.grown hg11 HB10.out.size (fun k e => by injection e with e; omega))
                    clear hput hg11 hs11 M11 M10 m1 m2 X10 HB10 HG10 X9 HB9 HG9 M9 HKJ
                    go_wp2
                    go_roundg (gk - 1)
                    case measure => have := Hi.out; omega
                    case rel => exact ⟨i + 1, true, _, _, Lib.hid (by have := Hi.out; omega), by go_num, rfl, HB2, HG11, HNN, HMN, X11, HB11⟩
                  | some o =>
                    have hne : o ≠ m := fun e => HMD.out.in_new HA.out HY.out rfl (by rw [hl, e])
                    obtain ⟨A7, n7, c7, hK7, hn7, hc7, hr7⟩ := (HNW.out _ HOK.out).2 o hl
                    have HK7 := Lib.hid hK7
                    have HS7 := Lib.hid (HSM.out o A7 n7 c7 hn7 hc7 hr7 false (decide_eq_false hne))
                    rw [hl] at hpl
                    simp only [Option.isSome_some, if_true] at hpl
                    clear hl HSM hne hK7 hn7 hc7 hr7
                    go_upto_region 34 with (first | (go_at_call 10; refine (HKJ.out _ X7.out).mono ?_; rintro e w8 ⟨rfl, hb8⟩; refine Hid.out ?_))
                    refine Lib.hid ?_
                    have X8 := Lib.hid (X7.out.move hb8)
                    have HB8 := Lib.hid (HB7.out.trans (hb8.mono HB7.out.size))
                    have HG8 := Lib.hid (HG7.out.kept (grown_of_below hb8 none) (by simp))
                    have M8 := Lib.hid (M7.out.below hb8 M7.out.lt)
                    have hlk := HG8.out.look_ok keyFam Tryz.underlying46 (zeroMemM _) HOK.out
                    rw [HK7.out] at hlk
                    simp only [Option.getD_some, Option.isSome_some] at hlk
                    clear hb8 X7 HB7 HG7 M7 m0 m1 m2 m3 e0 e1 e2 e3
                    go_upto_region 34 with fail
                    have hb9 : Below w8.heap.size w8 (w8.alloc (.cells #[.int .i64 o.pl, .slice A7 n7 c7] 33)) := (Below.refl _ w8).alloc (Nat.le_refl _) _
                    have Y9 := Lib.hid (X8.out.move hb9)
                    have YB9 := Lib.hid (HB8.out.trans (hb9.mono HB8.out.size))
                    have YG9 := Lib.hid (HG8.out.kept (grown_of_below hb9 none) (by simp))
                    have N9 := Lib.hid (M8.out.below hb9 M8.out.lt)
                    have R9 := Lib.hid (Whole.new w8 w8.heap.size 33 [.int .i64 o.pl, .slice A7 n7 c7] rfl)
                    have m1 := N9.out.cell 1; have m2 := N9.out.cell 2; have r0 := R9.out.cell 0; have r1 := R9.out.cell 1
                    simp only [List.getElem?_cons_zero, List.getElem?_cons_succ] at m1 m2 r0 r1
                    clear hb9 X8 HB8 HG8 M8 hlk
                    go_upto_region 36 with (first | (go_at_call 11; refine (HS7.out _ YB9.out).mono ?_; rintro e w9 ⟨rfl, hb10⟩; refine Hid.out ?_))
                    refine Lib.hid ?_
                    have X9 := Lib.hid (Y9.out.move hb10)
                    have HB9 := Lib.hid (YB9.out.trans (hb10.mono YB9.out.size))
                    have HG9 := Lib.hid (YG9.out.kept (grown_of_below hb10 none) (by simp))
                    have M9 := Lib.hid (N9.out.below hb10 N9.out.lt)
                    clear m1 m2 r0 r1 hb10 Y9 YB9 YG9 N9 R9 HS7
                    go_upto_region 36 with fail
                    have m1 := M9.out.cell 1; have m2 := M9.out.cell 2
                    simp only [List.getElem?_cons_zero, List.getElem?_cons_succ] at m1 m2
                    have HCN : Hid ((if (KL (keyOfM ps m)).isSome = true then EL.length else EL.length + 1) = (putE ps EL m).length) := Lib.hid (by rw [HK7.out, hpl]; rfl)
                    have hbd : EL.length < maxLen := by have h1 := HG9.out; have := HMD.out.small HA.out HY.out; have h3 := HL1.out.len; have h4 := HL.out.len; unfold maxLen; omega
                    refine wp_region_held_drew (S := (fun w' => w'.cell? ⟨wr.heap.size, 1, none⟩ = some (.int .i64 (jp : Int)) ∧ w'.cell? ⟨wr.heap.size, 2, none⟩ = some (.slice E2 u2 v2))) (by kernel_rfl) (⟨m1, m2⟩) (fun hHeld => ?_)
                    first
                    | (refine wpAnyH_take (i := 0) (v := ?_) held_at0 (by kernel_rfl) (by kernel_rfl) (by kernel_rfl) (fun _ _ _ h => h) (Or.inl ⟨by rfl, ?_⟩) (by assumption) ?_
                       rotate_left
                       · (intro w_ hSw; (try dsimp only at hSw); go_simp; (try with_reducible rfl))
                       (try simp only [Act.put, List.setIfInBounds_toArray, List.set_cons_zero, List.set_cons_succ]))
                    | (refine wpAnyH_take (i := 0) (v := undef) held_at0 (by kernel_rfl) (by kernel_rfl) (by kernel_rfl) (fun _ _ _ h => h) (Or.inr ⟨by rfl, rfl⟩) (by assumption) ?_
                       (try simp only [Act.put, List.setIfInBounds_toArray, List.set_cons_zero, List.set_cons_succ]))
                    first
                    | (refine wpAnyH_take (i := 1) (v := ?_) held_at1 (by kernel_rfl) (by kernel_rfl) (by kernel_rfl) (fun _ _ _ h => h) (Or.inl ⟨by rfl, ?_⟩) (by assumption) ?_
                       rotate_left
                       · (intro w_ hSw; (try dsimp only at hSw); go_simp; (try with_reducible rfl))
                       (try simp only [Act.put, List.setIfInBounds_toArray, List.set_cons_zero, List.set_cons_succ]))
                    | (refine wpAnyH_take (i := 1) (v := undef) held_at1 (by kernel_rfl) (by kernel_rfl) (by kernel_rfl) (fun _ _ _ h => h) (Or.inr ⟨by rfl, rfl⟩) (by assumption) ?_
                       (try simp only [Act.put, List.setIfInBounds_toArray, List.set_cons_zero, List.set_cons_succ]))
                    first
                    | (refine wpAnyH_take (i := 2) (v := ?_) held_at2 (by kernel_rfl) (by kernel_rfl) (by kernel_rfl) (fun _ _ _ h => h) (Or.inl ⟨by rfl, ?_⟩) (by assumption) ?_
                       rotate_left
                       · (intro w_ hSw; (try dsimp only at hSw); go_simp; (try with_reducible rfl))
                       (try simp only [Act.put, List.setIfInBounds_toArray, List.set_cons_zero, List.set_cons_succ]))
                    | (refine wpAnyH_take (i := 2) (v := undef) held_at2 (by kernel_rfl) (by kernel_rfl) (by kernel_rfl) (fun _ _ _ h => h) (Or.inr ⟨by rfl, rfl⟩) (by assumption) ?_
                       (try simp only [Act.put, List.setIfInBounds_toArray, List.set_cons_zero, List.set_cons_succ]))
                    first
                    | (refine wpAnyH_take (i := 3) (v := ?_) held_at3 (by kernel_rfl) (by kernel_rfl) (by kernel_rfl) (fun _ _ _ h => h) (Or.inl ⟨by rfl, ?_⟩) (by assumption) ?_
                       rotate_left
                       · (intro w_ hSw; (try dsimp only at hSw); go_simp; (try with_reducible rfl))
                       (try simp only [Act.put, List.setIfInBounds_toArray, List.set_cons_zero, List.set_cons_succ]))
                    | (refine wpAnyH_take (i := 3) (v := undef) held_at3 (by kernel_rfl) (by kernel_rfl) (by kernel_rfl) (fun _ _ _ h => h) (Or.inr ⟨by rfl, rfl⟩) (by assumption) ?_
                       (try simp only [Act.put, List.setIfInBounds_toArray, List.set_cons_zero, List.set_cons_succ]))
                    first
                    | (refine wpAnyH_take (i := 5) (v := ?_) held_at5 (by kernel_rfl) (by kernel_rfl) (by kernel_rfl) (fun _ _ _ h => h) (Or.inl ⟨by rfl, ?_⟩) (by assumption) ?_
                       rotate_left
                       · (intro w_ hSw; (try dsimp only at hSw); go_simp; (try with_reducible rfl))
                       (try simp only [Act.put, List.setIfInBounds_toArray, List.set_cons_zero, List.set_cons_succ]))
                    | (refine wpAnyH_take (i := 5) (v := undef) held_at5 (by kernel_rfl) (by kernel_rfl) (by kernel_rfl) (fun _ _ _ h => h) (Or.inr ⟨by rfl, rfl⟩) (by assumption) ?_
                       (try simp only [Act.put, List.setIfInBounds_toArray, List.set_cons_zero, List.set_cons_succ]))
                    first
                    | (refine wpAnyH_take (i := 6) (v := ?_) held_at6 (by kernel_rfl) (by kernel_rfl) (by kernel_rfl) (fun _ _ _ h => h) (Or.inl ⟨by rfl, ?_⟩) (by assumption) ?_
                       rotate_left
                       · (intro w_ hSw; (try dsimp only at hSw); go_simp; (try with_reducible rfl))
                       (try simp only [Act.put, List.setIfInBounds_toArray, List.set_cons_zero, List.set_cons_succ]))
                    | (refine wpAnyH_take (i := 6) (v := undef) held_at6 (by kernel_rfl) (by kernel_rfl) (by kernel_rfl) (fun _ _ _ h => h) (Or.inr ⟨by rfl, rfl⟩) (by assumption) ?_
                       (try simp only [Act.put, List.setIfInBounds_toArray, List.set_cons_zero, List.set_cons_succ]))
                    refine wpAnyH_ready (rs := [4]) (by kernel_rfl) (by simp) ?_
                    refine AllReadyH.cons held_at4 (fun K hK => ?_) AllReadyH.nil
                    (try simp only [List.setIfInBounds_toArray, List.set_cons_zero, List.set_cons_succ])
                    go_simp
                    go_at_call 10
                    refine (HKJ.out _ (by first | exact X9.out | exact X9.out.move (below_drewN (Below.refl _ _) _))).mono ?_
                    rintro e wn ⟨rfl, hb⟩
                    have X10 := Lib.hid (by first | exact X9.out.move hb | exact X9.out.move ((below_drewN (Below.refl _ _) _).trans hb)); have HB10 := Lib.hid (by first | exact HB9.out.trans (hb.mono HB9.out.size) | exact HB9.out.trans (((below_drewN (Below.refl _ _) _).trans hb).mono HB9.out.size)); have HG10 := (by first | exact HG9.out.kept (grown_of_below hb none) (by simp) | exact HG9.out.kept (grown_of_below ((below_drewN (Below.refl _ _) _).trans hb) none) (by simp)); have M10 := Lib.hid (by first | exact M9.out.below hb M9.out.lt | exact M9.out.below ((below_drewN (Below.refl _ _) _).trans hb) M9.out.lt); clear hb m1 m2; have m1 := M10.out.cell 1; have m2 := M10.out.cell 2; simp only [List.getElem?_cons_zero, List.getElem?_cons_succ] at m1 m2
                    refine hK.out _ _ (⟨m1, m2⟩) (fun hHeld => ?_)
                    clear hK K
                    (try simp only [Act.put, List.setIfInBounds_toArray, List.set_cons_zero, List.set_cons_succ])
                    obtain ⟨w11, hput, hset, hg11, hs11⟩ := HG10.put keyFam Tryz.underlying46 HOK.out (.agg #[.int .i64 (jp : Int), .slice E2 u2 v2]) hbd
                    have M11 := Lib.hid (M10.out.grown hg11 (fun e => by injection e with e; omega))
                    have HG11 := Lib.hid (hset.congr HCN.out fun _ _ => rfl)
                    clear hset
                    refine wpAnyH_ready (rs := [7]) (by kernel_rfl) (by simp) ?_
                    refine AllReadyH.cons held_at7 (fun K hK => ?_) AllReadyH.nil
                    (try simp only [List.setIfInBounds_toArray, List.set_cons_zero, List.set_cons_succ])
                    go_simp
                    refine hK.out _ _ (⟨(M11.out.cell 1), (M11.out.cell 2)⟩) (fun hHeld => ?_)
                    clear hK K
                    (try simp only [Act.put, List.setIfInBounds_toArray, List.set_cons_zero, List.set_cons_succ])
                    refine wpAnyH_done (by kernel_rfl) ?_ _
                    have X11 := Lib.hid (X10.out.grown hg11 (by have := X5.out.whole.lt; omega))
                    have HB11 := Lib.hid (HB10.out.grown hg11 HB10.out.size (fun k e => by injection e with e; omega))
                    clear hput hg11 hs11 M11 M10 m1 m2 X10 HB10 HG10 X9 HB9 HG9 M9 HKJ
                    go_wp2
                    go_roundg (gk - 1)
                    case measure => have := Hi.out; omega
                    case rel => exact ⟨i + 1, true, _, _, Lib.hid (by have := Hi.out; omega), by go_num, rfl, HB2, HG11, HNN, HMN, X11, HB11⟩
                · obtain ⟨_, hcy, _, hpre⟩ := HA.out.outs i _ HY.out rfl
                  dsimp only at hcy
                  subst hcy
                  have hbb : bb = false := by
                    rw [HBB.out, List.any_eq_false]
                    intro y hy
                    obtain ⟨t, ht, hty⟩ := mem_take_at hy
                    rw [(hpre t y ht hty).1]; simp
                  subst hbb
                  have hlook := HMD.out.out_has HA.out HY.out rfl
                  dsimp only at hlook
                  obtain ⟨A7, n7, c7, hK7, hn7, hc7, hr7⟩ := (HNW.out _ HOK.out).2 m hlook
                  have HK7 := Lib.hid hK7
                  have HS7 := Lib.hid (HSM.out m A7 n7 c7 hn7 hc7 hr7 true (decide_eq_true rfl))
                  rw [HJP.out] at HS7 HK7
                  have HMN := Lib.hid (HMD.out.out_ HA.out HN1.out HY.out rfl)
                  have HNN := Lib.hid (HNW.out.del HMD.out.nd (m := m))
                  dsimp only at HMN
                  have hdl := delE_len HMD.out.nd m
                  rw [hlook] at hdl
                  simp only [Option.isSome_some, if_true] at hdl
                  clear hlook hK7 hn7 hc7 hr7 hpre HSM
                  go_upto_region 29 with (first | (go_at_call 10; refine (HKJ.out _ X7.out).mono ?_; rintro e w8 ⟨rfl, hb8⟩; refine Hid.out ?_))
                  refine Lib.hid ?_
                  have X8 := Lib.hid (X7.out.move hb8)
                  have HB8 := Lib.hid (HB7.out.trans (hb8.mono HB7.out.size))
                  have HG8 := Lib.hid (HG7.out.kept (grown_of_below hb8 none) (by simp))
                  have M8 := Lib.hid (M7.out.below hb8 M7.out.lt)
                  have hlk := HG8.out.look_ok keyFam Tryz.underlying46 (zeroMemM _) HOK.out
                  rw [HK7.out] at hlk
                  simp only [Option.getD_some, Option.isSome_some] at hlk
                  clear hb8 X7 HB7 HG7 M7 m0 m1 m2 m3 e0 e1 e2 e3
                  go_upto_region 29 with fail
                  have hb9 : Below w8.heap.size w8 (w8.alloc (.cells #[.int .i64 (jp : Int), .slice A7 n7 c7] 33)) := (Below.refl _ w8).alloc (Nat.le_refl _) _
                  have X9 := Lib.hid (X8.out.move hb9)
                  have HB9 := Lib.hid (HB8.out.trans (hb9.mono HB8.out.size))
                  have HG9 := Lib.hid (HG8.out.kept (grown_of_below hb9 none) (by simp))
                  have M9 := Lib.hid (M8.out.below hb9 M8.out.lt)
                  have R9 := Lib.hid (Whole.new w8 w8.heap.size 33 [.int .i64 (jp : Int), .slice A7 n7 c7] rfl)
                  have m0 := M9.out.cell 0; have m1 := M9.out.cell 1; have m2 := M9.out.cell 2; have m3 := M9.out.cell 3; have r0 := R9.out.cell 0; have r1 := R9.out.cell 1
                  simp only [List.getElem?_cons_zero, List.getElem?_cons_succ] at m0 m1 m2 m3 r0 r1
                  clear hb9 X8 HB8 HG8 M8 hlk
                  go_upto_region 31 with (first | (go_at_call 11; refine (HS7.out _ HB9.out).mono ?_; rintro e w10 ⟨rfl, hb10⟩; refine Hid.out ?_))
                  refine Lib.hid ?_
                  have X10 := Lib.hid (X9.out.move hb10)
                  have HB10 := Lib.hid (HB9.out.trans (hb10.mono HB9.out.size))
                  have HG10 := Lib.hid (HG9.out.kept (grown_of_below hb10 none) (by simp))
                  have M10 := Lib.hid (M9.out.below hb10 M9.out.lt)
                  clear hb10 X9 HB9 HG9 M9 R9 m0 m1 m2 m3 r0 r1 HS7
                  have m0 := M10.out.cell 0; have m1 := M10.out.cell 1; have m2 := M10.out.cell 2; have m3 := M10.out.cell 3
                  simp only [List.getElem?_cons_zero, List.getElem?_cons_succ] at m0 m1 m2 m3
                  go_upto_region 31 with fail
                  go_wp2_with (first | (go_at_call 10; refine (HKJ.out _ X10.out).mono ?_; rintro e w11 ⟨rfl, hb11⟩; refine Hid.out ?_))
                  refine Lib.hid ?_
                  have X11 := Lib.hid (X10.out.move hb11)
                  have HB11 := Lib.hid (HB10.out.trans (hb11.mono HB10.out.size))
                  have HG11 := HG10.out.kept (grown_of_below hb11 none) (by simp)
                  obtain ⟨w12, hdrop, hset, hg12, hs12⟩ := HG11.drop keyFam Tryz.underlying46 HOK.out 0
                  have hcnt : (EL.length - if (KL (keyOfM ps m)).isSome = true then 1 else 0) = (delE ps EL m).length := by rw [HK7.out]; simp only [Option.isSome_some, if_true]; omega
                  have HG12 := Lib.hid (hset.congr hcnt fun _ _ => rfl)
                  have X12 := Lib.hid (X11.out.grown hg12 (by have := X5.out.whole.lt; omega))
                  have HB12 := Lib.hid (HB11.out.grown hg12 HB11.out.size (fun k e => by injection e with e; omega))
                  have HB2 : Hid (false = (aL.take (i + 1)).any fun a => !a.out) := Lib.hid (by rw [HNXT.out]; rfl)
                  clear hset hg12 hs12 hb11 HG11 hcnt X10 HB10 HG10 M10 m0 m1 m2 m3
                  go_wp2
                  go_roundg (gk - 1)
                  case measure => have := Hi.out; omega
                  case rel => exact ⟨i + 1, false, _, _, Lib.hid (by have := Hi.out; omega), by go_num, rfl, HB2, HG12, HNN, HMN, X12, HB12⟩
              · obtain rfl : N = i := by have := Hi.out; omega
                have hmd := HMD.out
                rw [HN.out] at hmd
                obtain ⟨hel, hall⟩ := hmd.end_ HA.out HN1.out HN2.out
                rw [HL.out.len] at hel
                have hg := HG.out
                rw [hel] at hg
                have HGQ := Lib.hid hg
                have hln := hg.len_ Tryz.underlying46 3
                have HALL := Lib.hid hall
                have HELN := Lib.hid hel
                clear hmd hel hall hg HG HBB
                go_wp2
                obtain ⟨w8, rfl⟩ : ∃ x, x = wr := ⟨_, rfl⟩
                obtain ⟨gk3, rfl⟩ : ∃ x, x = gk := ⟨_, rfl⟩
                clear hln
                go_loopg [151] q (fun g iv wr => ∃ j : Nat, Hid (j + g = q) ∧ iv = .int .i64 j ∧ Hid (GMap Tryz.prog 34 nsVal nsOk wr wq.heap.size KL q) ∧ Hid (Tx w A n c wr) ∧ Hid (Below w5.heap.size w5 wr))
                case atStart => exact ⟨0, Lib.hid (Nat.zero_add _), rfl, HGQ, XR, HBR⟩
                case round =>
                  obtain ⟨j, Hj, rfl, HG, XQ, HBQ⟩ := hrel
                  clear HGQ XR HBR
                  by_cases hj : j < q
                  · obtain ⟨bx, ox, m, E, u, v0, rfl, hbS, hm, huv, hv, hbo, g0, g1⟩ := (HL.out.under XQ.out.below HS.out).at_ hj
                    have hmok := ckMs_mem (ckSet_zero HC.out).2 m (List.mem_of_getElem? hm)
                    obtain ⟨hok, hsl⟩ := key_ok (ckSet_zero HC.out).1 hmok
                    obtain ⟨A7, n7, c7, hK7, hn7, hc7, hr7⟩ := (HNW.out _ hok).2 m (HALL.out m (List.mem_of_getElem? hm))
                    obtain ⟨jp, hjp⟩ : ∃ x : Nat, m.pl = (x : Int) := ⟨m.pl.toNat, by have := hmok.1; omega⟩
                    have hjn : jp < n := by have := hmok.2.1; have := HT.out.len; omega
                    have hkey : ((pkOf ps (jp : Int)).nm, (pkOf ps (jp : Int)).slot) = keyOfM ps m := by unfold keyOfM; rw [hjp]
                    have hbo5 : RBools w5 (fun k => k < w5.heap.size) E u m.on := Row.more (Row.keep hbo fun p hp => (HBQ.out.cell (p := p) (Nat.lt_of_lt_of_le (HS.out _ hp) X5.out.below.size)).symm) fun k hk => Nat.lt_of_lt_of_le (HS.out _ hk) X5.out.below.size
                    have hsm := fun wx (hb : Below w5.heap.size w5 wx) => rsameM_any m m (fun k => k < w5.heap.size) A7 E n7 c7 u v0 wx (Row.below hr7 hb fun k hk => hk) (Row.below hbo5 hb fun k hk => hk) (Nat.le_trans hn7 hc7) (Nat.le_trans huv hv) (fun k hk => Nat.lt_of_lt_of_le hk hb.size)
                    rw [decide_eq_true (rfl : m = m)] at hsm
                    rw [hjp] at hsl g0 hK7 hsm
                    have HS7 := Lib.hid hsm
                    have HK7 := Lib.hid hK7
                    have HKJ := Lib.hid (fun wx (hX : Tx w A n c wx) => by
                      have h := HK.out jp E u v0 wx hX hjn hsl
                      rw [hkey] at h
                      exact h)
                    have hb1 : Below wr.heap.size wr (wr.alloc (.cells #[.int .i64 (jp : Int), .slice E u v0] 33)) := (Below.refl _ wr).alloc (Nat.le_refl _) _
                    have X7 := Lib.hid (XQ.out.move hb1)
                    have HB7 := Lib.hid (HBQ.out.trans (hb1.mono HBQ.out.size))
                    have HG7 := Lib.hid (HG.out.kept (grown_of_below hb1 none) (by simp))
                    have M7 := Lib.hid (Whole.new wr wr.heap.size 33 [.int .i64 (jp : Int), .slice E u v0] rfl)
                    have hbl : bx < wr.heap.size := Nat.lt_of_lt_of_le (HS.out _ hbS) XQ.out.below.size
                    have hj1 : (j : Int) < q := by omega
                    have hj0 : (0 : Int) ≤ (j : Int) := by omega
                    have HOK := Lib.hid hok
                    have m0 := M7.out.cell 0; have m1 := M7.out.cell 1
                    simp only [List.getElem?_cons_zero, List.getElem?_cons_succ] at m0 m1
                    clear hb1 hbo hmok hsl hkey hm hok hbo5 hsm hK7 hn7 hc7 hr7 hjp XQ HBQ HG
                    go_upto_region 44 with (first | (go_at_call 10; refine (HKJ.out _ X7.out).mono ?_; rintro e w9 ⟨rfl, hb8⟩; refine Hid.out ?_))
                    refine Lib.hid ?_
                    have X8 := Lib.hid (X7.out.move hb8)
                    have HB8 := Lib.hid (HB7.out.trans (hb8.mono HB7.out.size))
                    have HG8 := Lib.hid (HG7.out.kept (grown_of_below hb8 none) (by simp))
                    have M8 := Lib.hid (M7.out.below hb8 M7.out.lt)
                    have hlk := HG8.out.look_ok keyFam Tryz.underlying46 (zeroMemM _) HOK.out
                    rw [HK7.out] at hlk
                    simp only [Option.getD_some, Option.isSome_some] at hlk
                    clear hb8 X7 HB7 HG7 M7 m0 m1 g0 g1
                    go_upto_region 44 with fail
                    have hb9 : Below w9.heap.size w9 (w9.alloc (.cells #[.int .i64 (jp : Int), .slice A7 n7 c7] 33)) := (Below.refl _ w9).alloc (Nat.le_refl _) _
                    have X9 := Lib.hid (X8.out.move hb9)
                    have HB9 := Lib.hid (HB8.out.trans (hb9.mono HB8.out.size))
                    have HG9 := Lib.hid (HG8.out.kept (grown_of_below hb9 none) (by simp))
                    have M9 := Lib.hid (M8.out.below hb9 M8.out.lt)
                    have R9 := Lib.hid (Whole.new w9 w9.heap.size 33 [.int .i64 (jp : Int), .slice A7 n7 c7] rfl)
                    have m0 := M9.out.cell 0; have m1 := M9.out.cell 1; have r0 := R9.out.cell 0; have r1 := R9.out.cell 1
                    simp only [List.getElem?_cons_zero, List.getElem?_cons_succ] at m0 m1 r0 r1
                    clear hb9 X8 HB8 HG8 M8 hlk
                    go_wp2_with (first | (go_at_call 11; refine (HS7.out _ HB9.out).mono ?_; rintro e w10 ⟨rfl, hb10⟩; refine Hid.out ?_))
                    refine Lib.hid ?_
                    have X10 := Lib.hid (X9.out.move hb10)
                    have HB10 := Lib.hid (HB9.out.trans (hb10.mono HB9.out.size))
                    have HG10 := Lib.hid (HG9.out.kept (grown_of_below hb10 none) (by simp))
                    clear hb10 X9 HB9 HG9 M9 R9 m0 m1 r0 r1 HS7
                    go_wp2
                    go_roundg (gk - 1)
                    case measure => have := Hj.out; omega
                    case rel => exact ⟨j + 1, Lib.hid (by have := Hj.out; omega), by go_num, HG10, X10, HB10⟩
                  · obtain rfl : q = j := by have := Hj.out; omega
                    go_wp2
                    go_ret
                    exact ⟨rfl, XQ.out.below⟩
  · have hzb : (z1 == 0) = false := by simpa using hz1
    go_upto_region 3 with (first | (go_at_call 9; refine HO3.out.mono ?_; rintro e w4 ⟨rfl, hb4⟩; refine Hid.out ?_))
    refine Lib.hid ?_
    have X4 := Lib.hid (X3.out.move hb4)
    have HO4 := Lib.hid (Hor.out _ X4.out.below)
    clear hb4 HO3
    go_wp2_with (first | (go_at_call 9; refine HO4.out.mono ?_; rintro e w5 ⟨rfl, hb5⟩; refine Hid.out ?_))
    refine Lib.hid ?_
    have X5 := Lib.hid (X4.out.move hb5)
    clear hb5
    go_wp2
    go_ret
    exact ⟨rfl, X5.out.below⟩
end Go.Proofs.YtpipgffbhpnmkaaGreatDoor
