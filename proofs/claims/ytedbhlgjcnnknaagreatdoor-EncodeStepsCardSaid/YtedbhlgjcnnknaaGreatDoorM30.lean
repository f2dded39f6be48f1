/- Parts of the proof: walks and plain laws, side by side. -/
import Derived.Test.YtedbhlgjcnnknaaGreatDoorM20
import Derived.Test.YtedbhlgjcnnknaaGreatDoorM26
import Derived.Test.YtedbhlgjcnnknaaGreatDoorM27
import Derived.Test.YtedbhlgjcnnknaaGreatDoorM29
import Derived.Test.YtedbhlgjcnnknaaGreatDoorM8
import Derived.Test.YtedbhlgjcnnknaaGreatDoorM19
import Derived.BigQuiet
import Derived.Test.YtedbhlgjcnnknaaGreatDoorRows
import Derived.Test.YtedbhlgjcnnknaaGreatDoorM11
import Derived.ProofKit
import Derived.LaidMore
import Derived.OpenShut
import Derived.Stop.Joined
import Derived.Stop.LaidErr
import Derived.Lib.LaidTab
import Derived.Test.YtedbhlgjcnnknaaGreatDoorM1
import Derived.ChangeOld
import Derived.Lib.SmallJoins
import Derived.Deep.Matrix
import Derived.Deep.Grids
import Derived.Test.YtedbhlgjcnnknaaGreatDoorM9
import Derived.Test.YtedbhlgjcnnknaaGreatDoorM10
set_option linter.unusedVariables false
set_option linter.unusedSimpArgs false
set_option linter.unusedSectionVars false
/- quartermasterlaw.encoded, walked: it returns true. -/
namespace Go.Proofs.YtedbhlgjcnnknaaGreatDoor
open Go.RowKit Qm

def atE : At := ⟨[97], 0, 0, 0, [], false⟩
def wsE : Ws := ⟨[atE], [⟨3, []⟩], [], []⟩
def memE : List Mem := [⟨1, [false]⟩, ⟨3, []⟩]
def bitsE : List Bool := [false, false, true, false, false]
theorem enc_E1 : ckWish smallT wsE = 0 := by decide +kernel
theorem enc_E2 : validE smallT wsE memE = 0 := by decide +kernel
theorem enc_E3 : litL smallT wsE memE = [-1, -2, 3, -4, -5] := by decide +kernel
theorem enc_E4 : setE smallT wsE bitsE = 0 := by decide +kernel
theorem enc_E5 : setV smallT wsE bitsE = memE := by decide +kernel
theorem enc_E6 : manyC smallT = 5 := by decide +kernel
theorem enc_E7 : 5 ≤ encN smallT wsE := by
 unfold encN
 rw [if_pos enc_E1, ← enc_E6]
 exact (encW_ok enc_E1).many
theorem enc_E8 : eqL sameMem memE memE = true := by decide +kernel

structure En (w : World) (T : Nat) (A : Option Addr) (c : Nat) (wx : World) : Prop where
 t : RTree wx (fun i => i < T) A 4 smallT
 tb : Whole wx T 24 [.slice A 4 c]
 a : Whole wx (T + 1) 75 (atRow atE)
 m : Whole wx (T + 1 + 1) 85 [.int .i64 3, .slice none 0 0]
 v : Whole wx (T + 1 + 1 + 1) 30 [.slice (some ⟨T + 1, 0, none⟩) 1 1, .slice (some ⟨T + 1 + 1, 0, none⟩) 1 1, .slice none 0 0, .slice none 0 0]
 bel : Below w.heap.size w wx
section
variable {w : World} {T : Nat} {A : Option Addr} {c : Nat} {wx wy : World}
theorem En.move (h : En w T A c wx) (hb : Below wx.heap.size wx wy) : En w T A c wy :=
 ⟨h.t.under hb (fun k hk => Nat.lt_trans hk h.tb.lt), h.tb.below hb h.tb.lt, h.a.below hb h.a.lt, h.m.below hb h.m.lt, h.v.below hb h.v.lt, h.bel.trans (hb.mono h.bel.size)⟩
theorem En.ws (h : En w T A c wx) : WsAt wx (fun i => i < wx.heap.size) (some ⟨T + 1, 0, none⟩) 1 1 (some ⟨T + 1 + 1, 0, none⟩) 1 1 none 0 0 none 0 0 wsE :=
 ⟨⟨by decide, by decide⟩, ⟨by decide, by decide⟩, ⟨by decide, by decide⟩, ⟨by decide, by decide⟩,
  RSeq.whole [atRow atE] [atE] h.a rfl rfl (fun x hx => by simp at hx; subst hx; rfl) (fun j x y h1 h2 => by
   match j with
   | 0 => simp at h1 h2; subst h1 h2; exact ⟨rfl, by decide, by decide⟩
   | j + 1 => simp at h1) h.a.lt,
  RSeq.whole (α := Mem) (K := 2) (R := RMem wx (fun i => i < wx.heap.size)) (n := 1) [[.int .i64 3, .slice none 0 0]] [⟨3, []⟩] h.m rfl rfl (fun x hx => by simp at hx; subst hx; rfl) (fun j u y g1 g2 => by
   match j with
   | 0 => simp at g1 g2; subst g1 g2; exact ⟨_, _, _, rfl, by decide, by decide, Row.nil_⟩
   | j + 1 => simp at g1) h.m.lt, Row.nil_, RSeq.nil_⟩
theorem En.tr (h : En w T A c wx) : RTree wx (fun i => i < wx.heap.size) A 4 smallT := h.t.more fun k hk => Nat.lt_trans hk h.tb.lt
theorem En.enc (h : En w T A c wx) (hc : 4 ≤ c ∧ c ≤ maxLen) : Calls Tryz.prog 12 #[.agg #[.slice A 4 c], .agg #[.slice (some ⟨T + 1, 0, none⟩) 1 1, .slice (some ⟨T + 1 + 1, 0, none⟩) 1 1, .slice none 0 0, .slice none 0 0]] wx (EncodeP smallT wsE wx) :=
 encode_any smallT wsE (fun i => i < wx.heap.size) A 4 c _ _ _ _ 1 1 1 1 0 0 0 0 wx h.tr hc.1 hc.2 h.ws (fun _ h => h)
theorem En.lit (h : En w T A c wx) (hc : 4 ≤ c ∧ c ≤ maxLen) {B : Option Addr} (hL : RSet wx (fun i => i < wx.heap.size) B 2 memE) : Calls Tryz.prog 13 #[.agg #[.slice A 4 c], .agg #[.slice (some ⟨T + 1, 0, none⟩) 1 1, .slice (some ⟨T + 1 + 1, 0, none⟩) 1 1, .slice none 0 0, .slice none 0 0], .slice B 2 2] wx (LiteralsP smallT wsE memE wx) :=
 literals_any smallT wsE memE (fun i => i < wx.heap.size) A B 4 c 2 2 _ _ _ _ 1 1 1 1 0 0 0 0 wx h.tr hc.1 hc.2 h.ws hL (Nat.le_refl _) (by decide) (fun _ h => h)
theorem En.set (h : En w T A c wx) (hc : 4 ≤ c ∧ c ≤ maxLen) {B : Option Addr} (hM : RBools wx (fun i => i < wx.heap.size) B 5 bitsE) : Calls Tryz.prog 15 #[.agg #[.slice A 4 c], .agg #[.slice (some ⟨T + 1, 0, none⟩) 1 1, .slice (some ⟨T + 1 + 1, 0, none⟩) 1 1, .slice none 0 0, .slice none 0 0], .slice B 5 5] wx (SetP smallT wsE bitsE wx) :=
 eset_any smallT wsE bitsE (fun i => i < wx.heap.size) A B 4 c 5 5 _ _ _ _ 1 1 1 1 0 0 0 0 wx h.tr hc.1 hc.2 h.ws hM (Nat.le_refl _) (by decide) (fun _ h => h)
end
theorem set_memE {wx : World} {b b2 : Nat} {t t2 : TypeId} (h1 : Whole wx b t [.bool false]) (h2 : Whole wx b2 t2 [.int .i64 1, .slice (some ⟨b, 0, none⟩) 1 1, .int .i64 3, .slice none 0 0]) : RSet wx (fun i => i < wx.heap.size) (some ⟨b2, 0, none⟩) 2 memE :=
 RSeq.whole (α := Mem) (K := 2) (R := RMem wx (fun i => i < wx.heap.size)) (n := 2) [[.int .i64 1, .slice (some ⟨b, 0, none⟩) 1 1], [.int .i64 3, .slice none 0 0]] memE h2 rfl rfl (fun x hx => by simp at hx; rcases hx with rfl | rfl <;> rfl) (fun j u y g1 g2 => by
   match j with
   | 0 => simp [memE] at g1 g2; subst g1 g2; exact ⟨_, _, _, rfl, by decide, by decide, h1.bools (xs := [false]) h1.lt rfl⟩
   | 1 => simp [memE] at g1 g2; subst g1 g2; exact ⟨_, _, _, rfl, by decide, by decide, Row.nil_⟩
   | j + 2 => simp at g1) h2.lt
set_option maxRecDepth 100000 in
set_option maxHeartbeats 6400000 in
theorem encoded_any (w : World) (hL : LaidV w) (hM : MaxW w) :
  Calls Tryz.prog 14 #[] w fun e w' => e = .returned (.bool true) ∧ Below w.heap.size w w' := by
 have Hsm := Lib.hid (small_any w hL hM)
 unfold SmallPost at Hsm
 clear hL hM
 go_enter Tryz.func14, Tryz.ntmps14
 go_upto_region 3 with (first | (go_at_call 51; refine Hsm.out.mono ?_; rintro e w1 ⟨A, c, rfl, hT, hc1, hc2, hb1⟩; refine Hid.out ?_))
 refine Lib.hid ?_
 go_upto_region 3 with fail
 have h1 := Whole.new w1 w1.heap.size 24 [.slice A 4 c] rfl
 have h2 := Whole.new (w1.alloc (.cells #[.slice A 4 c] 24)) (w1.heap.size + 1) 75 (atRow atE) (by simp)
 have h3 := Whole.new ((w1.alloc (.cells #[.slice A 4 c] 24)).alloc (.cells (atRow atE).toArray 75)) (w1.heap.size + 1 + 1) 85 [.int .i64 3, .slice none 0 0] (by simp)
 have h4 := Whole.new (((w1.alloc (.cells #[.slice A 4 c] 24)).alloc (.cells (atRow atE).toArray 75)).alloc (.cells #[.int .i64 3, .slice none 0 0] 85)) (w1.heap.size + 1 + 1 + 1) 30 [.slice (some ⟨w1.heap.size + 1, 0, none⟩) 1 1, .slice (some ⟨w1.heap.size + 1 + 1, 0, none⟩) 1 1, .slice none 0 0, .slice none 0 0] (by simp)
 have hbl : Below w1.heap.size w1 ((((w1.alloc (.cells #[.slice A 4 c] 24)).alloc (.cells (atRow atE).toArray 75)).alloc (.cells #[.int .i64 3, .slice none 0 0] 85)).alloc (.cells #[.slice (some ⟨w1.heap.size + 1, 0, none⟩) 1 1, .slice (some ⟨w1.heap.size + 1 + 1, 0, none⟩) 1 1, .slice none 0 0, .slice none 0 0] 30)) := ((((Below.refl _ w1).alloc (Nat.le_refl _) _).alloc (by simp) _).alloc (by simp; omega) _).alloc (by simp; omega) _
 have Y3 : Hid (En w w1.heap.size A c _) := Lib.hid ⟨(hT.under hbl fun k hk => hk.2).more fun k hk => hk.2, ((h1.alloc _).alloc _).alloc _, (h2.alloc _).alloc _, h3.alloc _, h4, hb1.trans (hbl.mono hb1.size)⟩
 unfold atRow atE at Y3
 clear h1 h2 h3 h4 hbl hT hb1
 generalize w1.heap.size = T at Y3 ⊢
 generalize World.alloc (World.alloc (World.alloc (World.alloc w1 _) _) _) _ = w3 at Y3 ⊢
 have HE3 := Lib.hid (Y3.out.enc ⟨hc1, hc2⟩)
 have t0 := Y3.out.tb.cell 0
 have v0 := Y3.out.v.cell 0; have v1 := Y3.out.v.cell 1; have v2 := Y3.out.v.cell 2; have v3 := Y3.out.v.cell 3
 simp only [qgz, qgs] at t0 v0 v1 v2 v3
 have vlt := Y3.out.v.lt
 have tlt := Y3.out.tb.lt
 go_upto_region 4 with (first | (go_at_call 12; refine HE3.out.mono ?_; rintro e w5 ⟨F, cF, rfl, hF1, hF2, hF3, hb5⟩; refine Hid.out ?_))
 refine Lib.hid ?_
 have Y5 := Lib.hid (Y3.out.move hb5)
 clear t0 v0 v1 v2 v3 vlt tlt HE3 Y3 hb5 hF1
 obtain ⟨N5, hN5⟩ : ∃ x, x = encN smallT wsE := ⟨_, rfl⟩
 have HN5 : Hid (5 ≤ N5) := Lib.hid (by rw [hN5]; exact enc_E7)
 rw [← hN5, enc_E1]
 clear hN5
 go_upto_region 4 with fail
 have YF := Lib.hid (Y5.out.move ((Below.refl _ w5).alloc (Nat.le_refl _) (.cells #[.int .i64 (N5 : Int), .slice F (encC smallT wsE).length cF] 33)))
 have HF := Lib.hid (Whole.new w5 w5.heap.size 33 [.int .i64 (N5 : Int), .slice F (encC smallT wsE).length cF] rfl)
 obtain ⟨fb, hfb⟩ : ∃ x, x = w5.heap.size := ⟨_, rfl⟩
 rw [← hfb] at HF ⊢
 clear hfb Y5
 generalize w5.alloc (.cells #[.int .i64 (N5 : Int), .slice F (encC smallT wsE).length cF] 33) = w6 at YF HF ⊢
 have hW1 := Whole.new w6 w6.heap.size 4 [.bool false] rfl
 have hW2 := Whole.new (w6.alloc (.cells #[.bool false] 4)) (w6.heap.size + 1) 85 [.int .i64 1, .slice (some ⟨w6.heap.size, 0, none⟩) 1 1, .int .i64 3, .slice none 0 0] (by simp)
 have hbx : Below w6.heap.size w6 ((w6.alloc (.cells #[.bool false] 4)).alloc (.cells #[.int .i64 1, .slice (some ⟨w6.heap.size, 0, none⟩) 1 1, .int .i64 3, .slice none 0 0] 85)) := ((Below.refl _ _).alloc (Nat.le_refl _) _).alloc (by simp) _
 have Y7 := Lib.hid (YF.out.move hbx)
 have HL7 := Lib.hid (Y7.out.lit ⟨hc1, hc2⟩ (set_memE (hW1.alloc _) hW2))
 have HF7 := Lib.hid (HF.out.below hbx HF.out.lt)
 clear hW1 hW2 hbx HF
 have t0 := YF.out.tb.cell 0
 have v0 := YF.out.v.cell 0; have v1 := YF.out.v.cell 1; have v2 := YF.out.v.cell 2; have v3 := YF.out.v.cell 3
 simp only [qgz, qgs] at t0 v0 v1 v2 v3
 have vlt := YF.out.v.lt
 have tlt := YF.out.tb.lt
 have tlt1 : T < w6.heap.size + 1 := by omega
 have vlt1 : T + 1 + 1 + 1 < w6.heap.size + 1 := by omega
 go_upto_region 5 with (first | (go_at_call 13; refine HL7.out.mono ?_; rintro e w8 ⟨L8, cL, rfl, hL1, hL2, hL3, hb8⟩; refine Hid.out ?_))
 refine Lib.hid ?_
 have Y8 := Lib.hid (Y7.out.move hb8)
 have HF8 := Lib.hid (HF7.out.below hb8 HF7.out.lt)
 rw [enc_E3] at hL1 hL2 ⊢
 rw [enc_E2]
 have HL8 := Lib.hid (hL1.more (S' := fun k => k < w8.heap.size) fun k hk => hk.2)
 clear t0 v0 v1 v2 v3 vlt tlt tlt1 vlt1 HL7 YF Y7 hb8 HF7 hL1
 go_upto_region 5 with fail
 have hW5 := Whole.new w8 w8.heap.size 4 [.bool false, .bool false, .bool true, .bool false, .bool false] rfl
 have hbz : Below w8.heap.size w8 (w8.alloc (.cells #[.bool false, .bool false, .bool true, .bool false, .bool false] 4)) := (Below.refl _ _).alloc (Nat.le_refl _) _
 have Y9 := Lib.hid (Y8.out.move hbz)
 have HF9 := Lib.hid (HF8.out.below hbz HF8.out.lt)
 have HL9 := Lib.hid ((HL8.out.below hbz fun k hk => hk).more (S' := fun k => k < (w8.alloc (.cells #[.bool false, .bool false, .bool true, .bool false, .bool false] 4)).heap.size) fun k hk => Nat.lt_of_lt_of_le hk hbz.size)
 have HS9 := Lib.hid (Y9.out.set ⟨hc1, hc2⟩ (hW5.bools (xs := bitsE) hW5.lt rfl))
 clear hW5 hbz HF8 HL8
 have t0 := Y8.out.tb.cell 0
 have v0 := Y8.out.v.cell 0; have v1 := Y8.out.v.cell 1; have v2 := Y8.out.v.cell 2; have v3 := Y8.out.v.cell 3
 simp only [qgz, qgs] at t0 v0 v1 v2 v3
 have vlt := Y8.out.v.lt
 have tlt := Y8.out.tb.lt
 go_upto_region 6 with (first | (go_at_call 15; refine HS9.out.mono ?_; rintro e w10 ⟨M10, cM, rfl, hM1, hM2, hM3, hb10⟩; refine Hid.out ?_))
 refine Lib.hid ?_
 have Y10 := Lib.hid (Y9.out.move hb10)
 have HF10 := Lib.hid (HF9.out.below hb10 HF9.out.lt)
 have hL10 := HL9.out.below hb10 fun k hk => hk
 rw [enc_E5] at hM1 hM2 ⊢
 rw [show memE.length = 2 from rfl] at hM1 hM2 ⊢
 rw [enc_E4]
 have hal := (Below.refl w10.heap.size w10).alloc (Nat.le_refl _) (.cells #[.int .i64 (-1), .int .i64 (-2), .int .i64 3, .int .i64 (-4), .int .i64 (-5)] 3)
 have hI := Whole.new w10 w10.heap.size 3 [.int .i64 (-1), .int .i64 (-2), .int .i64 3, .int .i64 (-4), .int .i64 (-5)] rfl
 have hEQ := equal_int L8 (some ⟨w10.heap.size, 0, none⟩) 5 5 cL 5 [-1, -2, 3, -4, -5] [-1, -2, 3, -4, -5] _ (fun k => k < (w10.alloc (.cells #[.int .i64 (-1), .int .i64 (-2), .int .i64 3, .int .i64 (-4), .int .i64 (-5)] 3)).heap.size) ((hL10.more (S' := fun k => k < w10.heap.size) fun k hk => Nat.lt_of_lt_of_le hk hb10.size).below hal (fun k hk => hk) |>.more fun k hk => Nat.lt_of_lt_of_le hk hal.size) (hI.ints (xs := [-1, -2, 3, -4, -5]) hI.lt rfl) (by decide) (by decide)
 rw [show (([-1, -2, 3, -4, -5] : List Int) == [-1, -2, 3, -4, -5]) = true from by decide] at hEQ
 have HEQ := Lib.hid hEQ
 have HM := Lib.hid (hM1.more (S' := fun k => k < w10.heap.size) fun k hk => hk.2)
 have Y11 := Lib.hid (Y10.out.move hal)
 have HM11 := Lib.hid ((HM.out.under hal fun k hk => hk).more (S' := fun k => k < (w10.alloc (.cells #[.int .i64 (-1), .int .i64 (-2), .int .i64 3, .int .i64 (-4), .int .i64 (-5)] 3)).heap.size) fun k hk => Nat.lt_of_lt_of_le hk hal.size)
 have f0 := HF10.out.cell 0
 have flt := HF10.out.lt
 have hn5 : (5 : Int) ≤ (N5 : Int) := by have := HN5.out; omega
 simp only [List.getElem?_cons_zero] at f0
 clear t0 v0 v1 v2 v3 vlt tlt HS9 Y8 Y9 HF9 HL9 hb10 hL10 hal hI hEQ hM1 Y10 HM
 go_wp2_with (first | (go_at_call 32; refine HEQ.out.mono ?_; rintro e w12 ⟨rfl, nq, rfl⟩; refine Hid.out ?_))
 refine Lib.hid ?_
 have Y12 := Lib.hid (Y11.out.move (below_drewN (Below.refl _ _) nq))
 have HM12 := Lib.hid ((HM11.out.under (below_drewN (Below.refl _ _) nq) fun k hk => hk).more (S' := fun k => k < (World.drewN (w10.alloc (.cells #[.int .i64 (-1), .int .i64 (-2), .int .i64 3, .int .i64 (-4), .int .i64 (-5)] 3)) nq).heap.size) fun k hk => Nat.lt_of_lt_of_le hk (below_drewN (Below.refl 0 _) nq).size)
 clear Y11 HM11 HEQ f0 flt
 generalize World.drewN (World.alloc w10 _) nq = w12 at Y12 HM12 ⊢
 have hW1 := Whole.new w12 w12.heap.size 4 [.bool false] rfl
 have hW2 := Whole.new (w12.alloc (.cells #[.bool false] 4)) (w12.heap.size + 1) 85 [.int .i64 1, .slice (some ⟨w12.heap.size, 0, none⟩) 1 1, .int .i64 3, .slice none 0 0] (by simp)
 have hbx : Below w12.heap.size w12 ((w12.alloc (.cells #[.bool false] 4)).alloc (.cells #[.int .i64 1, .slice (some ⟨w12.heap.size, 0, none⟩) 1 1, .int .i64 3, .slice none 0 0] 85)) := ((Below.refl _ _).alloc (Nat.le_refl _) _).alloc (by simp) _
 have Y13 := Lib.hid (Y12.out.move hbx)
 have hSS := sameSetr_any memE memE (fun k => k < ((w12.alloc (.cells #[.bool false] 4)).alloc (.cells #[.int .i64 1, .slice (some ⟨w12.heap.size, 0, none⟩) 1 1, .int .i64 3, .slice none 0 0] 85)).heap.size) M10 (some ⟨w12.heap.size + 1, 0, none⟩) 2 cM 2 2 _ ((HM12.out.under hbx fun k hk => hk).more fun k hk => Nat.lt_of_lt_of_le hk hbx.size) (set_memE (hW1.alloc _) hW2) (fun _ h => h) (by decide) (by decide)
 rw [enc_E8] at hSS
 have HSS := Lib.hid hSS
 clear hSS hW1 hW2 hbx
 go_wp2_with (first | (go_at_call 24; refine HSS.out.mono ?_; rintro e w14 ⟨rfl, hb14⟩; refine Hid.out ?_))
 refine Lib.hid ?_
 have Y14 := Lib.hid (Y13.out.move hb14)
 clear hb14
 go_wp2
 go_ret
 exact ⟨rfl, Y14.out.bel⟩
end Go.Proofs.YtedbhlgjcnnknaaGreatDoor

/- quartermasterlaw.EncodeSteps, walked: it returns true. -/
namespace Go.Proofs.YtedbhlgjcnnknaaGreatDoor
open Go.RowKit Qm

theorem enc_solve {ps : List Pk} {v : Ws} (h : ckWish ps v = 0) : solveErr (encN ps v : Int) (encC ps v) ((2 ^ (manyC ps + 1) : Nat) : Int) = 0 := by
 unfold encN encC
 rw [if_pos h, if_pos h]
 exact enc_steps h
set_option maxRecDepth 100000 in
set_option maxHeartbeats 6400000 in
theorem encodeSteps_any (ps : List Pk) (v : Ws) (S : Nat → Prop) (A : Option Addr) (n c : Nat) (A1 A2 A3 A4 : Option Addr) (n1 c1 n2 c2 n3 c3 n4 c4 : Nat) (w : World) (hT : RTree w S A n ps) (hnc : n ≤ c) (hc : c ≤ maxLen) (hV : WsAt w S A1 n1 c1 A2 n2 c2 A3 n3 c3 A4 n4 c4 v) (hS : ∀ k, S k → k < w.heap.size) (hLV : LaidV w) (hM : MaxW w) :
  Calls Tryz.prog 5 #[.agg #[.slice A n c], .agg #[.slice A1 n1 c1, .slice A2 n2 c2, .slice A3 n3 c3, .slice A4 n4 c4]] w fun e w' => e = .returned (.bool true) ∧ Below w.heap.size w w' := by
 have HLV := Lib.hid hLV; have HMV := Lib.hid hM
 have X0 := Lib.hid (Lb.new w A n c [.slice A1 n1 c1, .slice A2 n2 c2, .slice A3 n3 c3, .slice A4 n4 c4])
 have HT := Lib.hid hT; have HS := Lib.hid hS; have HW := Lib.hid hV
 have Hlt := Lib.hid (fun (wx : World) (hb : Below w.heap.size w wx) k hk => Nat.lt_of_lt_of_le (HS.out k hk) hb.size)
 have Hen := Lib.hid (encode_any ps v S A n c A1 A2 A3 A4 n1 c1 n2 c2 n3 c3 n4 c4 _ (HT.out.under X0.out.bel HS.out) hnc hc (HW.out.under X0.out.bel HS.out) (Hlt.out _ X0.out.bel))
 have Hch := Lib.hid (fun (wx : World) (hb : Below w.heap.size w wx) (h0 : ckWish ps v = 0) => rchoices_any ps v S A n c A1 n1 c1 A2 n2 c2 A3 n3 c3 A4 n4 c4 wx (HT.out.under hb HS.out) hnc hc (HW.out.under hb HS.out) (Hlt.out _ hb) h0)
 clear hT hS hV hLV hM
 unfold maxLen at hc
 unfold EncodeP at Hen
 obtain ⟨z, hz⟩ : ∃ z, z = ckWish ps v := ⟨_, rfl⟩
 rw [← hz] at Hen
 have HZ := Lib.hid hz
 clear hz
 go_enter Tryz.func5, Tryz.ntmps5
 go_upto_region 2 with (first | (go_at_call 12; refine Hen.out.mono ?_; rintro e w2 ⟨F, cF, rfl, hF1, hF2, hF3, hb2⟩; refine Hid.out ?_))
 refine Lib.hid ?_
 have X2 := Lib.hid (X0.out.move hb2)
 have HF2 := Lib.hid (hF1.more (S' := fun k => k < w2.heap.size) fun k hk => hk.2)
 clear hb2 X0 Hen hF1
 obtain ⟨NC, hNC⟩ : ∃ x, x = (encC ps v).length := ⟨_, rfl⟩
 rw [← hNC] at HF2 hF2 ⊢
 obtain ⟨NV, hNV⟩ : ∃ x, x = encN ps v := ⟨_, rfl⟩
 rw [← hNV]
 have HNV := Lib.hid hNV
 clear hNC hNV
 go_upto_region 2 with fail
 have hal : Below w2.heap.size w2 (w2.alloc (.cells #[.int .i64 (NV : Int), .slice F NC cF] 33)) := (Below.refl _ _).alloc (Nat.le_refl _) _
 have X3 := Lib.hid (X2.out.move hal)
 have HFB := Lib.hid (Whole.new w2 w2.heap.size 33 [.int .i64 (NV : Int), .slice F NC cF] rfl)
 have HF3 := Lib.hid (HF2.out.below hal fun k hk => hk)
 obtain ⟨fb, hfb⟩ : ∃ x, x = w2.heap.size := ⟨_, rfl⟩
 rw [← hfb] at HFB HF3 ⊢
 clear hal X2 HF2
 generalize w2.alloc (.cells #[.int .i64 (NV : Int), .slice F NC cF] 33) = w3 at X3 HFB HF3 ⊢
 have HFX := Lib.hid hfb
 clear hfb
 by_cases h0 : z = 0
 ·subst h0
  go_upto_region 4 with (first | (go_at_call 14; refine (encoded_any _ (HLV.out.below X3.out.bel) (HMV.out.below X3.out.bel)).mono ?_; rintro e w4 ⟨rfl, hb4⟩; refine Hid.out ?_))
  refine Lib.hid ?_
  have X4 := Lib.hid (X3.out.move hb4)
  have HFB4 := Lib.hid (HFB.out.below hb4 HFB.out.lt)
  have HF4 := Lib.hid (HF3.out.below hb4 fun k hk => Nat.lt_trans hk HFB.out.lt)
  clear hb4 X3 HFB HF3
  go_upto_region 4 with fail
  have HCH := Lib.hid (Hch.out _ X4.out.bel HZ.out.symm)
  have t0 := X4.out.t.cell 0
  have v0 := X4.out.wi.cell 0; have v1 := X4.out.wi.cell 1; have v2 := X4.out.wi.cell 2; have v3 := X4.out.wi.cell 3
  have wlt := X4.out.wi.lt
  have tlt := X4.out.t.lt
  simp only [qgz, qgs] at t0 v0 v1 v2 v3
  go_upto_region 5 with (first | (go_at_call 22; refine HCH.out.mono ?_; rintro e w5 ⟨cz, cob, cg, cmb, clv, cm, hz1, rfl, hoc, hb5⟩; refine Hid.out ?_))
  refine Lib.hid ?_
  have X5 := Lib.hid (X4.out.move hb5)
  have HFB5 := Lib.hid (HFB4.out.below hb5 HFB4.out.lt)
  have HF5 := Lib.hid (HF4.out.below hb5 fun k hk => Nat.lt_trans hk HFB4.out.lt)
  clear t0 v0 v1 v2 v3 wlt tlt X4 HFB4 HF4 hb5 hoc hz1 HCH Hch
  go_upto_region 5 with fail
  have hM14 : manyC ps ≤ 14 := (tree_parts (wish_parts HZ.out.symm).tree).2.1
  have hsl := enc_solve HZ.out.symm
  have hp := pow_le hM14
  have HP := Lib.hid hp
  have hNV : NV ≤ 400 := by
   rw [HNV.out]
   unfold encN
   rw [if_pos HZ.out.symm]; exact (encW_ok HZ.out.symm).n400
  obtain ⟨M, hM⟩ : ∃ x, x = manyC ps := ⟨_, rfl⟩
  rw [← hM] at hM14 hsl hp HP ⊢
  clear hM
  rw [← HNV.out] at hsl
  have hSo := solve_any F NC cF (NV : Int) ((2 ^ (M + 1) : Nat) : Int) (encC ps v) w5.drew (fun k => k < fb) (fun k hk => Nat.lt_trans hk HFB5.out.lt) (HF5.out.keep fun _ _ => rfl) ⟨hF2, hF3⟩ (by omega) (by omega) (by omega) (by omega)
  unfold SolvePost at hSo
  rw [hsl] at hSo
  have HSo := Lib.hid hSo
  have f0 := HFB5.out.cell 0; have f1 := HFB5.out.cell 1
  have flt := HFB5.out.lt
  simp only [qgz, qgs] at f0 f1
  clear hSo hsl
  refine wp_region_held_drew (S := (fun w' => w'.cell? ⟨fb, 0, none⟩ = some (.int .i64 (NV : Int)) ∧ w'.cell? ⟨fb, 1, none⟩ = some (.slice F NC cF))) (by kernel_rfl) (⟨f0, f1⟩) (fun hHeld => ?_)
  first | (refine tkA (v := ?_) held_at0 ?_ ?_; rotate_left; focus ((intro w_ hSw; (try dsimp only at hSw); go_simp; (try with_reducible rfl)); done)) | (refine tkB held_at0 ?_)
  (try simp only [Act.put, qsa, qsz, qss])
  first | (refine tkA (v := ?_) held_at1 ?_ ?_; rotate_left; focus ((intro w_ hSw; (try dsimp only at hSw); go_simp; (try with_reducible rfl)); done)) | (refine tkB held_at1 ?_)
  (try simp only [Act.put, qsa, qsz, qss])
  refine wpAnyH_take (i := 2) (v := .int .i64 ((2 ^ (M + 1) : Nat) : Int)) held_at2 (by kernel_rfl) (by kernel_rfl) (by kernel_rfl) (fun _ _ _ h => h) (Or.inl ⟨by rfl, ?_⟩) (by assumption) ?_
  ·intro w_ hSw
   (try dsimp only at hSw)
   go_simp
   have e : ((2 ^ (M + 1) : Nat) : Int) = 2 * 2 ^ M := by rw [Nat.pow_succ]; push_cast; rw [Int.mul_comm]
   have e2 : (2 : Int) ^ (M + 1) = 2 * 2 ^ M := by rw [Int.pow_succ, Int.mul_comm]
   rw [e2, ← e]
   have hp2 := HP.out
   generalize 2 ^ (M + 1) = y at hp2 ⊢
   exact IntWalk.i64_in _ (by omega)
  (try simp only [Act.put, qsa, qsz, qss])
  refine wpAnyH_ready (rs := [3]) (by kernel_rfl) (by simp) ?_
  refine AllReadyH.cons held_at3 (fun K hK => ?_) AllReadyH.nil
  (try simp only [qsa, qsz, qss])
  go_simp
  go_at_call 26
  refine HSo.out.mono ?_
  rintro e6 w6 ⟨sA, sn, sc, sB, sm, sd, rfl, _, _, _, _, hb6⟩
  have X6 := Lib.hid ((X5.out.move (below_drewN (Below.refl _ w5) 1)).move hb6)
  have HFB6 := Lib.hid ((HFB5.out.drew).below hb6 HFB5.out.lt)
  have u0 := HFB6.out.cell 0; have u1 := HFB6.out.cell 1
  simp only [qgz, qgs] at u0 u1
  refine hK.out _ _ ⟨u0, u1⟩ (fun hHeld => ?_)
  clear hK K
  (try simp only [Act.put, qsa, qsz, qss])
  first | (refine tkA (v := ?_) held_at4 ?_ ?_; rotate_left; focus ((intro w_ hSw; (try dsimp only at hSw); go_simp; (try with_reducible rfl)); done)) | (refine tkB held_at4 ?_)
  (try simp only [Act.put, qsa, qsz, qss])
  first | (refine tkA (v := ?_) held_at5 ?_ ?_; rotate_left; focus ((intro w_ hSw; (try dsimp only at hSw); go_simp; (try with_reducible rfl)); done)) | (refine tkB held_at5 ?_)
  (try simp only [Act.put, qsa, qsz, qss])
  first | (refine tkA (v := ?_) held_at6 ?_ ?_; rotate_left; focus ((intro w_ hSw; (try dsimp only at hSw); go_simp; (try with_reducible rfl)); done)) | (refine tkB held_at6 ?_)
  (try simp only [Act.put, qsa, qsz, qss])
  first | (refine tkA (v := ?_) held_at7 ?_ ?_; rotate_left; focus ((intro w_ hSw; (try dsimp only at hSw); go_simp; (try with_reducible rfl)); done)) | (refine tkB held_at7 ?_)
  (try simp only [Act.put, qsa, qsz, qss])
  refine wpAnyH_done (by kernel_rfl) ?_ _
  clear u0 u1 f0 f1 flt hHeld
  go_wp2
  go_ret
  exact ⟨rfl, X6.out.bel⟩
 ·have h0b : (z != 0) = true := by simpa using h0
  go_upto_region 3 with (first | (go_at_call 14; refine (encoded_any _ (HLV.out.below X3.out.bel) (HMV.out.below X3.out.bel)).mono ?_; rintro e w4 ⟨rfl, hb4⟩; refine Hid.out ?_))
  refine Lib.hid ?_
  have X4 := Lib.hid (X3.out.move hb4)
  clear hb4 X3 HFB HF3
  go_upto_region 3 with fail
  go_wp2_with (first | (go_at_call 14; refine (encoded_any _ (HLV.out.below X4.out.bel) (HMV.out.below X4.out.bel)).mono ?_; rintro e w5 ⟨rfl, hb5⟩; refine Hid.out ?_))
  refine Lib.hid ?_
  have X5 := Lib.hid (X4.out.move hb5)
  clear hb5 X4
  go_wp2
  go_ret
  exact ⟨rfl, X5.out.bel⟩
end Go.Proofs.YtedbhlgjcnnknaaGreatDoor

/- Arguments that can be read as data, opened: atoms, strings; what the listed variables hold. -/
namespace Go.Proofs.YtedbhlgjcnnknaaGreatDoor
open Go.ChangeShapes Go.WideShapes Go.ChangeAt Go.RowKit Qm

section
variable {H : Type} {enc : TypeId × Value → H} {w : World} {base : Nat} {sp : Nat → Bool} {held : Bool}
theorem field_cell {P : Program} {t : TypeId} {fs : Array Field} {fuel : Nat} {cs : List Value} {x : DataW H × List MemPlace} (ht : P.underlying t = some (.struct fs)) (h : DataW.trod enc P w base sp held fuel t cs = some x)
  (i : Nat) {f : Field} (hf : fs[i]? = some f) (hc : P.cellsOf f.type = 1) (hlt : f.offset < P.cellsOf t) : ∃ c n y, cs[f.offset]? = some c ∧ DataW.trod enc P w base sp held n f.type [c] = some y := by
 obtain ⟨xs, n, _, _, hl, hxl, hx⟩ := DataW.trod_struct ht h
 have h1 := hx i f hf
 have hlt' : f.offset < cs.length := by omega
 have hi : i < fs.size := (Array.getElem?_eq_some_iff.1 hf).1
 rw [hc, List.drop_eq_getElem_cons hlt'] at h1
 refine ⟨cs[f.offset], n, xs[i]'(by omega), List.getElem?_eq_getElem hlt', ?_⟩
 rw [List.getElem?_eq_getElem (by omega)] at h1
 have e : (cs[f.offset] :: List.drop (f.offset + 1) cs).take 1 = [cs[f.offset]] := rfl
 rw [e] at h1
 exact h1
def In64 (x : Int) : Prop := -9223372036854775808 ≤ x ∧ x ≤ 9223372036854775807
theorem i64_le {x : Int} (h : (Lit.int .i64 x).wf = true) : In64 x := by
 unfold In64
 simp [Lit.wf, IntKind.min, IntKind.max, IntKind.bits, IntKind.signed] at h; omega
theorem six_of {α : Type} {cs : List α} {a b c d e f : α} (hl : cs.length = 6) (h0 : cs[0]? = some a) (h1 : cs[1]? = some b) (h2 : cs[2]? = some c) (h3 : cs[3]? = some d) (h4 : cs[4]? = some e) (h5 : cs[5]? = some f) : cs = [a, b, c, d, e, f] := by
 match cs, hl with
 | [_, _, _, _, _, _], _ => simp at h0 h1 h2 h3 h4 h5; simp [h0, h1, h2, h3, h4, h5]
theorem str_one {P : Program} {t : TypeId} {n : Nat} {c : Value} {y : DataW H × List MemPlace} (ht : P.underlying t = some .string) (h : DataW.trod enc P w base sp held n t [c] = some y) : ∃ s : ByteArray, c = .string s ∧ s.size ≤ maxLen := by
 obtain ⟨s, e, _, hs⟩ := DataW.trod_string ht h
 simp at e
 exact ⟨s, e, hs⟩
theorem int_oneA {P : Program} {t : TypeId} {n : Nat} {c : Value} {y : DataW H × List MemPlace} (ht : P.underlying t = some (.int .i64)) (h : DataW.trod enc P w base sp held n t [c] = some y) : ∃ x : Int, c = .int .i64 x ∧ In64 x := by
 obtain ⟨x, e, _, hs⟩ := DataW.trod_int ht h
 simp at e
 exact ⟨x, e, i64_le hs⟩
theorem bool_one_ {P : Program} {t : TypeId} {n : Nat} {c : Value} {y : DataW H × List MemPlace} (ht : P.underlying t = some .bool) (h : DataW.trod enc P w base sp held n t [c] = some y) : ∃ x : Bool, c = .bool x := by
 obtain ⟨x, e, _⟩ := DataW.trod_bool ht h
 simp at e
 exact ⟨x, e⟩
theorem atom_cells {fuel : Nat} {cs : List Value} {x : DataW H × List MemPlace} (h : DataW.trod enc Tryz.prog w base sp held fuel 75 cs = some x) :
  ∃ (s f : ByteArray) (op ver slot : Int) (on : Bool), cs = [.string s, .int .i64 op, .int .i64 ver, .int .i64 slot, .string f, .bool on] ∧ s.size ≤ maxLen ∧ f.size ≤ maxLen ∧ In64 op ∧
   In64 ver ∧ In64 slot := by
 have hT := Tryz.underlying75
 have hl : cs.length = 6 := by
  obtain ⟨_, _, _, _, hl, _⟩ := DataW.trod_struct hT h
  rw [hl]; kernel_rfl
 obtain ⟨c0, n0, y0, e0, k0⟩ := field_cell hT h 0 rfl (by kernel_rfl) (of_decide_eq_true (by kernel_rfl))
 obtain ⟨c1, n1, y1, e1, k1⟩ := field_cell hT h 1 rfl (by kernel_rfl) (of_decide_eq_true (by kernel_rfl))
 obtain ⟨c2, n2, y2, e2, k2⟩ := field_cell hT h 2 rfl (by kernel_rfl) (of_decide_eq_true (by kernel_rfl))
 obtain ⟨c3, n3, y3, e3, k3⟩ := field_cell hT h 3 rfl (by kernel_rfl) (of_decide_eq_true (by kernel_rfl))
 obtain ⟨c4, n4, y4, e4, k4⟩ := field_cell hT h 4 rfl (by kernel_rfl) (of_decide_eq_true (by kernel_rfl))
 obtain ⟨c5, n5, y5, e5, k5⟩ := field_cell hT h 5 rfl (by kernel_rfl) (of_decide_eq_true (by kernel_rfl))
 obtain ⟨s, rfl, hs⟩ := str_one Tryz.underlying9 k0
 obtain ⟨op, rfl, ho⟩ := int_oneA Tryz.underlying3 k1
 obtain ⟨ver, rfl, hv⟩ := int_oneA Tryz.underlying3 k2
 obtain ⟨slot, rfl, hsl⟩ := int_oneA Tryz.underlying3 k3
 obtain ⟨f, rfl, hf⟩ := str_one Tryz.underlying9 k4
 obtain ⟨on, rfl⟩ := bool_one_ Tryz.underlying4 k5
 exact ⟨s, f, op, ver, slot, on, six_of hl e0 e1 e2 e3 e4 e5, hs, hf, ho, hv, hsl⟩
end

/-! what the listed variables hold -/
theorem laid_at {P : Program} {w : World} : ∀ {l : List (String × DataW Unit)} {k : Nat} {x : String × DataW Unit}, laidMet P l w → l[k]? = some x → ∃ r, laidMet P (x :: r) w
 | [], _, _, _, h => by simp at h
 | y :: r, 0, x, h, hk => by
  simp only [List.getElem?_cons_zero, Option.some.injEq] at hk
  subst hk
  exact ⟨r, h⟩
 | y :: r, k + 1, x, h, hk => laid_at h.tail (by simpa using hk)
theorem gPow : Tryz.prog.globalNamed "internal/strconv.uint64pow10" = some 1 := by kernel_rfl
theorem gRng : Tryz.prog.globalNamed "strconv.ErrRange" = some 3 := by kernel_rfl
theorem gSyn : Tryz.prog.globalNamed "strconv.ErrSyntax" = some 2 := by kernel_rfl
theorem tPow : (Tryz.prog.globals[1]?).map (·.type) = some 240 := by kernel_rfl
theorem tRng : (Tryz.prog.globals[3]?).map (·.type) = some 176 := by kernel_rfl
theorem tSyn : (Tryz.prog.globals[2]?).map (·.type) = some 176 := by kernel_rfl
theorem rowErr : ∀ u, Tryz.prog.typeName? 3 u = some "*errors.errorString" → u = 263 := fun _ h => typeName_ptr_named (nm := "errors.errorString") (by kernel_rfl) (by kernel_rfl) (by decide) _ h
theorem laidV_of {w : World} {l : List (String × DataW Unit)} (h : laidMet Tryz.prog l w) {i j k : Nat} (hi : l[i]? = some ("internal/strconv.uint64pow10", Rows.laid_internal_strconv_uint64pow10)) (hj : l[j]? = some ("strconv.ErrRange", Rows.laid_strconv_ErrRange)) (hk : l[k]? = some ("strconv.ErrSyntax", Rows.laid_strconv_ErrSyntax)) : LaidV w := by
 obtain ⟨_, h1⟩ := laid_at h hi
 obtain ⟨_, h2⟩ := laid_at h hj
 obtain ⟨_, h3⟩ := laid_at h hk
 obtain ⟨a2, s2, e2, _⟩ := laid_sentinel h2 gRng tRng Tryz.underlying176 rowErr Tryz.underlying263 Tryz.underlying265 rfl rfl Tryz.underlying9 (by kernel_rfl) (by kernel_rfl)
 obtain ⟨a3, s3, e3, _⟩ := laid_sentinel h3 gSyn tSyn Tryz.underlying176 rowErr Tryz.underlying263 Tryz.underlying265 rfl rfl Tryz.underlying9 (by kernel_rfl) (by kernel_rfl)
 exact ⟨⟨_, _, e3⟩, ⟨_, _, e2⟩, Lib.tabIs_of_head gPow tPow Tryz.underlying240 Tryz.underlying213 (by kernel_rfl) (by kernel_rfl) h1⟩
end Go.Proofs.YtedbhlgjcnnknaaGreatDoor

/- Arguments that can be read as data, opened into the words of these proofs. -/
namespace Go.Proofs.YtedbhlgjcnnknaaGreatDoor
open Go.ChangeShapes Go.WideShapes Go.ChangeAt Go.RowKit Go.Joins Go.Deep

theorem spot_add {w : World} {a : Addr} {n : Nat} {f : Nat → Value} (hn : 0 < n) (h : ∀ i, i < n → w.cell? (a.add i) = some (f i)) : ∃ b o, a = ⟨b, o, none⟩ ∧ b < w.heap.size ∧ ∀ j, j < n → w.cell? ⟨b, o + j, none⟩ = some (f j) := by
 obtain ⟨b, o, spot⟩ := a
 have h0 := h 0 hn
 have hs : spot = none := by simpa [Addr.add] using World.cell?_spot h0
 subst hs
 have ha : ∀ j, (⟨b, o, none⟩ : Addr).add j = ⟨b, o + j, none⟩ := by
  intro j; unfold Addr.add; by_cases hj : j = 0 <;> simp [hj]
 refine ⟨b, o, rfl, ?_, fun j hj => by rw [← ha]; exact h j hj⟩
 have := World.block_lt_of_cell? w _ h0
 rw [ha] at this; exact this

theorem row_of_cells {w : World} {a : Addr} {n : Nat} {vs : List Value} (hl : vs.length = n) (h : ∀ i (_ : i < n), w.cell? (a.add i) = vs[i]?) : Row w (fun k => k < w.heap.size) (some a) n vs := by
 refine ⟨hl, fun hn => ?_⟩
 obtain ⟨b, o, rfl, hb, hc⟩ := spot_add (f := fun i => (vs[i]?).getD undef) hn (fun i hi => by rw [h i hi, List.getElem?_eq_getElem (by omega)]; rfl)
 exact ⟨b, o, rfl, hb, fun j hj => by rw [hc j hj, List.getElem?_eq_getElem (by omega)]; rfl⟩

section
variable {H : Type} {enc : TypeId × Value → H} {P : Program} {w : World} {base : Nat} {held : Bool}
end
end Go.Proofs.YtedbhlgjcnnknaaGreatDoor

/- Arguments that can be read as needs, opened. -/
namespace Go.Proofs.YtedbhlgjcnnknaaGreatDoor
open Go.ChangeShapes Go.WideShapes Go.ChangeAt Go.RowKit Qm

theorem flatK {K : Nat} {cs : List (List Value)} (h : ∀ x ∈ cs, x.length = K) : ∀ {j : Nat} {x : List Value}, cs[j]? = some x → ∀ i, i < K → cs.flatten[j * K + i]? = x[i]? := by
 induction cs with
 | nil => intro j x hj; simp at hj
 | cons c r ih =>
  intro j x hj i hi
  have hc := h c (List.mem_cons_self ..)
  rw [List.flatten_cons]
  cases j with
  | zero =>
   simp only [List.getElem?_cons_zero, Option.some.injEq] at hj
   subst hj
   rw [List.getElem?_append_left (by omega)]; congr 1; omega
  | succ j =>
   rw [List.getElem?_cons_succ] at hj
   have he : (j + 1) * K = j * K + K := Nat.succ_mul j K
   rw [List.getElem?_append_right (by omega)]
   rw [← ih (fun y hy => h y (List.mem_cons_of_mem _ hy)) hj i hi]
   congr 1; omega
theorem flatK_len {K : Nat} {cs : List (List Value)} (h : ∀ x ∈ cs, x.length = K) : cs.flatten.length = cs.length * K := by
 induction cs with
 | nil => simp
 | cons c r ih =>
  have hc := h c (List.mem_cons_self ..)
  have := ih fun y hy => h y (List.mem_cons_of_mem _ hy)
  simp only [List.flatten_cons, List.length_append, List.length_cons, Nat.succ_mul]
  omega

section
variable {H : Type} {enc : TypeId × Value → H} {P : Program} {w : World} {base : Nat} {sp : Nat → Bool} {held : Bool}
theorem slice_items {t e : TypeId} {K fuel : Nat} {v : Value} {x : DataW H × List MemPlace} (ht : P.underlying t = some (.slice e)) (hK : P.cellsOf e = K) (hK0 : 0 < K) (h : DataW.trod enc P w base sp held fuel t [v] = some x) :
  ∃ (A : Option Addr) (n c : Nat) (cs : List (List Value)), v = .slice A n c ∧ n ≤ c ∧ c ≤ maxLen ∧ cs.length = n ∧ Row w (fun k => k < w.heap.size) A (n * K) cs.flatten ∧
   ∀ x ∈ cs, x.length = K ∧ ∃ m y, m < fuel ∧ DataW.trod enc P w base sp held m e x = some y := by
 rcases DataW.trod_slice ht h with ⟨hcs, _⟩ | ⟨a, len, cap, elems, rest, n, hfuel, hcs, _, hb, hl, hm, hlen, hel, _, _⟩
 ·simp at hcs
  exact ⟨none, 0, 0, [], hcs, Nat.le_refl _, Nat.zero_le _, rfl, by simpa using Row.nil_, fun x hx => by cases hx⟩
 ·simp at hcs
  subst hcs hK
  have key : ∀ i, i < len → ∃ cs', w.cells? base (a.add (i * P.cellsOf e)) (P.cellsOf e) = some cs' ∧ ∃ y, DataW.trod enc P w base sp held n e cs' = some y := fun i hi => by
   have h1 := hel i hi
   rw [List.getElem?_eq_getElem (by omega)] at h1
   obtain ⟨cs', h2, h3⟩ := Option.bind_eq_some_iff.1 h1
   exact ⟨cs', h2, _, h3⟩
  have hget : ∀ j, j < len → ((List.range len).map fun i => (w.cells? base (a.add (i * P.cellsOf e)) (P.cellsOf e)).getD [])[j]? = some ((w.cells? base (a.add (j * P.cellsOf e)) (P.cellsOf e)).getD []) := fun j hj => by
   rw [List.getElem?_map, List.getElem?_range hj]; rfl
  have hmem : ∀ x ∈ (List.range len).map fun i => (w.cells? base (a.add (i * P.cellsOf e)) (P.cellsOf e)).getD [], x.length = P.cellsOf e ∧ ∃ m y, m < fuel ∧ DataW.trod enc P w base sp held m e x = some y := by
   intro x hx
   obtain ⟨i, hi, rfl⟩ := List.mem_map.1 hx
   rw [List.mem_range] at hi
   obtain ⟨cs', h1, y, h2⟩ := key i hi
   rw [h1]
   exact ⟨(World.cells?_some h1).2.1, n, y, by omega, h2⟩
  refine ⟨some a, len, cap, (List.range len).map fun i => (w.cells? base (a.add (i * P.cellsOf e)) (P.cellsOf e)).getD [], rfl, hl, hm, by simp, ?_, hmem⟩
  refine row_of_cells (by rw [flatK_len fun x hx => (hmem x hx).1]; simp) fun p hp => ?_
  obtain ⟨i, r, hr, rfl⟩ : ∃ i r, r < P.cellsOf e ∧ p = i * P.cellsOf e + r := ⟨p / P.cellsOf e, p % P.cellsOf e, Nat.mod_lt _ hK0, by rw [Nat.mul_comm]; exact (Nat.div_add_mod p _).symm⟩
  have hi : i < len := by
   apply Classical.byContradiction
   intro hni
   have : len * P.cellsOf e ≤ i * P.cellsOf e := Nat.mul_le_mul_right _ (by omega)
   omega
  rw [flatK (fun x hx => (hmem x hx).1) (hget i hi) r hr]
  obtain ⟨cs', h1, _⟩ := key i hi
  rw [h1, ← Go.Deep.add_add]
  exact (World.cells?_some h1).2.2 r hr
end
section
variable {H : Type} {enc : TypeId × Value → H} {w : World} {base : Nat} {sp : Nat → Bool} {held : Bool}
theorem bs_list (s : ByteArray) : s = ⟨s.data.toList.toArray⟩ := by obtain ⟨⟨l⟩⟩ := s; rfl
set_option maxRecDepth 100000 in
theorem need_cells : ∀ (fuel : Nat) (cs : List Value) (x : DataW H × List MemPlace), DataW.trod enc Tryz.prog w base sp held fuel 99 cs = some x →
  ∃ y, RNd w (fun k => k < w.heap.size) cs y := by
 intro fuel
 induction fuel using Nat.strongRecOn with
 | _ fuel ih =>
  intro cs x h
  have hT := Tryz.underlying99
  obtain ⟨xs, n, hfu, _, hlen, hxl, hx⟩ := DataW.trod_struct hT h
  have hl : cs.length = 10 := by rw [hlen]; kernel_rfl
  obtain ⟨c0, n0, y0, e0, k0⟩ := field_cell hT h 0 rfl (by kernel_rfl) (of_decide_eq_true (by kernel_rfl))
  obtain ⟨c7, n7, y7, e7, k7⟩ := field_cell hT h 2 rfl (by kernel_rfl) (of_decide_eq_true (by kernel_rfl))
  obtain ⟨c8, n8, y8, e8, k8⟩ := field_cell hT h 3 rfl (by kernel_rfl) (of_decide_eq_true (by kernel_rfl))
  have h1 := hx 1 _ rfl
  have h4 := hx 4 _ rfl
  have hxs : xs.length = 5 := hxl
  rw [List.getElem?_eq_getElem (by omega)] at h1 h4
  obtain ⟨k, rfl, _⟩ := int_oneA Tryz.underlying3 k0
  obtain ⟨f, rfl, hf⟩ := str_one Tryz.underlying9 k7
  obtain ⟨no, rfl⟩ := bool_one_ Tryz.underlying4 k8
  obtain ⟨s, g, op, ver, slot, on, ea, hs, hg, _, _, _⟩ := atom_cells h1
  match cs, hl with
  | [d0, d1, d2, d3, d4, d5, d6, d7, d8, d9], _ =>
   have h4' : DataW.trod enc Tryz.prog w base sp held n 97 [d9] = some xs[4] := h4
   obtain ⟨A, m, c, rows, rfl, hnc, hc, hrl, hrow, hit⟩ := slice_items Tryz.underlying97 (K := 10) (by kernel_rfl) (by decide) h4'
   have e0' : d0 = .int .i64 k := by simpa using e0
   have e7' : d7 = .string f := by simpa using e7
   have e8' : d8 = .bool no := by simpa using e8
   have ea' : [d1, d2, d3, d4, d5, d6] = [.string s, .int .i64 op, .int .i64 ver, .int .i64 slot, .string g, .bool on] := ea
   simp only [List.cons.injEq, and_true] at ea'
   obtain ⟨rfl, rfl, rfl, rfl, rfl, rfl⟩ := ea'
   subst e0' e7' e8'
   have hkid : ∀ x ∈ rows, ∃ y, RNd w (fun k => k < w.heap.size) x y := fun x hx => by
    obtain ⟨_, m, y, hm, hy⟩ := hit x hx
    exact ih m (by omega) x y hy
   obtain ⟨ks, hkl, hks⟩ : ∃ ks : List Nd, ks.length = rows.length ∧ ∀ (j : Nat) (x : List Value) (y : Nd), rows[j]? = some x → ks[j]? = some y → RNd w (fun k => k < w.heap.size) x y := by
    clear hrow hit hrl
    induction rows with
    | nil => exact ⟨[], rfl, fun j x y h => by simp at h⟩
    | cons r rs ihr =>
     obtain ⟨y, hy⟩ := hkid r (List.mem_cons_self ..)
     obtain ⟨ks, h1, h2⟩ := ihr fun x hx => hkid x (List.mem_cons_of_mem _ hx)
     refine ⟨y :: ks, by simp [h1], fun j x' y' h3 h4 => ?_⟩
     cases j with
     | zero =>
      simp only [List.getElem?_cons_zero, Option.some.injEq] at h3 h4
      subst h3 h4; exact hy
     | succ j => rw [List.getElem?_cons_succ] at h3 h4; exact h2 j x' y' h3 h4
   refine ⟨.mk k ⟨s.data.toList, op, ver, slot, g.data.toList, on⟩ f.data.toList no ks, ?_⟩
   have hr := RNd.shut (w := w) (S := fun k => k < w.heap.size) (k := k) (a := ⟨s.data.toList, op, ver, slot, g.data.toList, on⟩) (f := f.data.toList) (no := no) (ks := ks) hnc hc (by rw [← Lib.size_eq]; exact hs) (by rw [← Lib.size_eq]; exact hg) (by rw [← Lib.size_eq]; exact hf) ⟨rows, by omega, hrl, hrow, hks⟩
   unfold ndRow at hr
   simp only [] at hr
   rw [← bs_list, ← bs_list, ← bs_list] at hr
   exact hr
end
end Go.Proofs.YtedbhlgjcnnknaaGreatDoor

/- Arguments that can be read as trees, opened. -/
namespace Go.Proofs.YtedbhlgjcnnknaaGreatDoor
open Go.ChangeShapes Go.WideShapes Go.ChangeAt Go.RowKit Qm

theorem rows_of {α : Type} {R : List Value → α → Prop} : ∀ {rows : List (List Value)}, (∀ x ∈ rows, ∃ y, R x y) → ∃ ys : List α, ys.length = rows.length ∧ ∀ (j : Nat) (x : List Value) (y : α), rows[j]? = some x → ys[j]? = some y → R x y
 | [], _ => ⟨[], rfl, fun j x y h => by simp at h⟩
 | r :: rs, h => by
  obtain ⟨y, hy⟩ := h r (List.mem_cons_self ..)
  obtain ⟨ks, h1, h2⟩ := rows_of (rows := rs) fun x hx => h x (List.mem_cons_of_mem _ hx)
  refine ⟨y :: ks, by simp [h1], fun j x' y' h3 h4 => ?_⟩
  cases j with
  | zero =>
   simp only [List.getElem?_cons_zero, Option.some.injEq] at h3 h4
   subst h3 h4; exact hy
  | succ j => rw [List.getElem?_cons_succ] at h3 h4; exact h2 j x' y' h3 h4
theorem strs_flat : ∀ {cs : List (List Value)} {ys : List Qm.W}, cs.length = ys.length → (∀ (j : Nat) (x : List Value) (y : Qm.W), cs[j]? = some x → ys[j]? = some y → x = [.string ⟨y.toArray⟩]) → cs.flatten = strs ys
 | [], [], _, _ => rfl
 | [], _ :: _, h, _ => by simp at h
 | _ :: _, [], h, _ => by simp at h
 | r :: rs, y :: ys, h, hR => by
  rw [List.flatten_cons, hR 0 r y rfl rfl, strs_flat (cs := rs) (ys := ys) (by simpa using h) fun j x z h1 h2 => hR (j + 1) x z (by simpa using h1) (by simpa using h2)]; rfl
section
variable {H : Type} {enc : TypeId × Value → H} {w : World} {base : Nat} {sp : Nat → Bool} {held : Bool}
theorem open_seq {α : Type} {R : List Value → α → Prop} {t e : TypeId} {K fuel : Nat} {v : Value} {x : DataW H × List MemPlace} (ht : Tryz.prog.underlying t = some (.slice e)) (hK : Tryz.prog.cellsOf e = K) (hK0 : 0 < K)
  (h : DataW.trod enc Tryz.prog w base sp held fuel t [v] = some x) (hR : ∀ m (x : List Value) y, m < fuel → DataW.trod enc Tryz.prog w base sp held m e x = some y → ∃ z, R x z) :
  ∃ (A : Option Addr) (n c : Nat) (ys : List α), v = .slice A n c ∧ n ≤ c ∧ c ≤ maxLen ∧ RSeq K R w (fun k => k < w.heap.size) A n ys := by
 obtain ⟨A, n, c, cs, rfl, h1, h2, h3, h4, h5⟩ := slice_items ht hK hK0 h
 obtain ⟨ys, k1, k2⟩ := rows_of (R := R) (rows := cs) fun x hx => by
  obtain ⟨_, m, y, hm, hy⟩ := h5 x hx
  exact hR m x y hm hy
 exact ⟨A, n, c, ys, rfl, h1, h2, cs, by omega, h3, h4, fun x hx => (h5 x hx).1, k2⟩
theorem open_words {fuel : Nat} {v : Value} {x : DataW H × List MemPlace} (h : DataW.trod enc Tryz.prog w base sp held fuel 96 [v] = some x) :
  ∃ (A : Option Addr) (n c : Nat) (fs : List Qm.W), v = .slice A n c ∧ n ≤ c ∧ c ≤ maxLen ∧ RWords w (fun k => k < w.heap.size) A n fs := by
 obtain ⟨A, n, c, ys, rfl, h1, h2, cs, hy, hc, hrow, hK, hR⟩ := open_seq (R := fun x (f : Qm.W) => x = [.string ⟨f.toArray⟩] ∧ f.length ≤ maxLen) Tryz.underlying96 (K := 1) (by kernel_rfl) (by decide) h fun m x y _ hxy => by
  obtain ⟨s, e, _, hs⟩ := DataW.trod_string Tryz.underlying9 hxy
  exact ⟨s.data.toList, by rw [e, ← bs_list], by rw [← Lib.size_eq]; exact hs⟩
 refine ⟨A, n, c, ys, rfl, h1, h2, ?_, fun f hf => ?_⟩
 ·have e : cs.flatten = strs ys := strs_flat (by omega) fun j x y h1 h2 => (hR j x y h1 h2).1
  rw [← e]
  simpa using hrow
 ·obtain ⟨j, hj, rfl⟩ := List.mem_iff_getElem.1 hf
  exact (hR j (cs[j]'(by omega)) _ (List.getElem?_eq_getElem (by omega)) (List.getElem?_eq_getElem hj)).2
set_option maxRecDepth 100000 in
theorem package_cells {fuel : Nat} {cs : List Value} {x : DataW H × List MemPlace} (h : DataW.trod enc Tryz.prog w base sp held fuel 101 cs = some x) :
  ∃ p, RPk w (fun k => k < w.heap.size) cs p := by
 have hT := Tryz.underlying101
 obtain ⟨xs, n, hfu, _, hlen, hxl, hx⟩ := DataW.trod_struct hT h
 have hl : cs.length = 14 := by rw [hlen]; kernel_rfl
 obtain ⟨c0, n0, y0, e0, k0⟩ := field_cell hT h 0 rfl (by kernel_rfl) (of_decide_eq_true (by kernel_rfl))
 obtain ⟨c1, n1, y1, e1, k1⟩ := field_cell hT h 1 rfl (by kernel_rfl) (of_decide_eq_true (by kernel_rfl))
 obtain ⟨c2, n2, y2, e2, k2⟩ := field_cell hT h 2 rfl (by kernel_rfl) (of_decide_eq_true (by kernel_rfl))
 obtain ⟨c3, n3, y3, e3, k3⟩ := field_cell hT h 3 rfl (by kernel_rfl) (of_decide_eq_true (by kernel_rfl))
 have h4 := hx 4 _ rfl
 have hxs : xs.length = 5 := hxl
 rw [List.getElem?_eq_getElem (by omega)] at h4
 obtain ⟨s, rfl, hs⟩ := str_one Tryz.underlying9 k0
 obtain ⟨ver, rfl, _⟩ := int_oneA Tryz.underlying3 k1
 obtain ⟨slot, rfl, _⟩ := int_oneA Tryz.underlying3 k2
 obtain ⟨A, m, c, fs, rfl, hm, hc, hfs⟩ := open_words k3
 obtain ⟨nd, hnd⟩ := need_cells _ _ _ h4
 refine ⟨⟨s.data.toList, ver, slot, fs, nd⟩, A, m, c, (cs.drop 4).take 10, ?_, hm, hc, by rw [← Lib.size_eq]; exact hs, hfs, hnd⟩
 match cs, hl with
 | [d0, d1, d2, d3, d4, d5, d6, d7, d8, d9, d10, d11, d12, d13], _ =>
  have e0' : d0 = .string s := by simpa using e0
  have e1' : d1 = .int .i64 ver := by simpa using e1
  have e2' : d2 = .int .i64 slot := by simpa using e2
  have e3' : d3 = .slice A m c := by simpa using e3
  subst e0' e1' e2' e3'
  simp [pkRow, ← bs_list]
set_option maxRecDepth 100000 in
theorem tree_cells {fuel : Nat} {cs : List Value} {x : DataW H × List MemPlace} (h : DataW.trod enc Tryz.prog w base sp held fuel 24 cs = some x) :
  ∃ (A : Option Addr) (n c : Nat) (ps : List Pk), cs = [.slice A n c] ∧ n ≤ c ∧ c ≤ maxLen ∧ RTree w (fun k => k < w.heap.size) A n ps := by
 have hT := Tryz.underlying24
 obtain ⟨xs, n, hfu, _, hlen, hxl, hx⟩ := DataW.trod_struct hT h
 have hl : cs.length = 1 := by rw [hlen]; kernel_rfl
 obtain ⟨c0, n0, y0, e0, k0⟩ := field_cell hT h 0 rfl (by kernel_rfl) (of_decide_eq_true (by kernel_rfl))
 obtain ⟨A, m, c, ps, rfl, hm, hc, hps⟩ := open_seq (R := RPk w (fun k => k < w.heap.size)) Tryz.underlying22 (K := 14) (by kernel_rfl) (by decide) k0 fun m x y _ hxy => package_cells hxy
 refine ⟨A, m, c, ps, ?_, hm, hc, hps⟩
 match cs, hl with
 | [d0], _ => simp at e0; rw [e0]
set_option maxRecDepth 100000 in
theorem open_tree {r : Reach} {b0 : Nat} {v : Value} {d : DataW H} {p : List MemPlace} (hv : Value.okWide Tryz.prog w r b0 24 v) (h : DataW.Trod enc Tryz.prog w base sp held 24 v d p) :
  ∃ (A : Option Addr) (n c : Nat) (ps : List Pk), v = .agg #[.slice A n c] ∧ n ≤ c ∧ c ≤ maxLen ∧ RTree w (fun k => k < w.heap.size) A n ps := by
 obtain ⟨cs, rfl, _⟩ := okWide_struct Tryz.underlying24 hv
 obtain ⟨fuel, hf⟩ := h
 obtain ⟨A, n, c, ps, e, h1, h2, h3⟩ := tree_cells hf
 refine ⟨A, n, c, ps, ?_, h1, h2, h3⟩
 obtain ⟨l⟩ := cs
 simp only [Value.cells] at e
 subst e
 rfl
end
end Go.Proofs.YtedbhlgjcnnknaaGreatDoor
