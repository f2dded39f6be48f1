/- Parts of the proof: walks and plain laws, side by side. -/
import Derived.Test.YtokibfankmjphaaGreatDoorM13
import Derived.Test.YtokibfankmjphaaGreatDoorM16
import Derived.Test.YtokibfankmjphaaGreatDoorRows
import Derived.Test.YtokibfankmjphaaGreatDoorM5
import Derived.ProofKit
import Derived.LaidMore
import Derived.OpenShut
import Derived.Stop.Joined
import Derived.Stop.LaidErr
import Derived.Lib.LaidTab
import Derived.Test.YtokibfankmjphaaGreatDoorM3
import Derived.ChangeOld
import Derived.Lib.SmallJoins
import Derived.Deep.Matrix
import Derived.Deep.Grids
import Derived.Test.YtokibfankmjphaaGreatDoorM1
import Derived.Test.YtokibfankmjphaaGreatDoorM2
import Derived.Test.YtokibfankmjphaaGreatDoorM4
import Derived.Test.YtokibfankmjphaaGreatDoorM6
import Derived.Test.YtokibfankmjphaaGreatDoorM7
import Derived.Test.YtokibfankmjphaaGreatDoorM8
import Derived.Test.YtokibfankmjphaaGreatDoorM9
import Derived.Test.YtokibfankmjphaaGreatDoorM10
import Derived.Test.YtokibfankmjphaaGreatDoorM11
import Derived.Test.YtokibfankmjphaaGreatDoorM12
import Derived.Test.YtokibfankmjphaaGreatDoorM14
import Derived.Test.YtokibfankmjphaaGreatDoorM15
set_option linter.unusedVariables false
set_option linter.unusedSimpArgs false
set_option linter.unusedSectionVars false
/- quartermasterlaw.allowed, walked: it returns true. -/
namespace Go.Proofs.YtokibfankmjphaaGreatDoor
open Go.RowKit Qm

theorem flat_lenG {K : Nat} : ∀ {cs : List (List Value)}, (∀ x ∈ cs, x.length = K) → cs.flatten.length = cs.length * K
  | [], _ => by simp
  | c :: r, h => by
    have := flat_lenG (K := K) (cs := r) fun x hx => h x (List.mem_cons_of_mem _ hx)
    have h0 := h c (List.mem_cons_self ..)
    rw [List.flatten_cons, List.length_append, this, h0, List.length_cons, Nat.succ_mul]; omega
/-- A block that is known whole, read as elements. -/
theorem RSeq.whole {α : Type} {K : Nat} {R : List Value → α → Prop} {w : World} {S : Nat → Prop} {b n : Nat} {t : TypeId} (cs : List (List Value)) (ys : List α) (h : Whole w b t cs.flatten) (hl : ys.length = n) (hn : cs.length = n) (hK : ∀ x ∈ cs, x.length = K)
    (hR : ∀ (j : Nat) (x : List Value) (y : α), cs[j]? = some x → ys[j]? = some y → R x y) (hb : S b) : RSeq K R w S (some ⟨b, 0, none⟩) n ys :=
  ⟨cs, hl, hn, h.row hb (by rw [flat_lenG hK, hn]), hK, hR⟩
def atA : At := ⟨[97], 0, 0, 0, [], false⟩
def wsA : Ws := ⟨[atA], [], [], []⟩
theorem val_A1 : validV smallT wsA [⟨1, [false]⟩] = true := by decide +kernel
theorem val_A2 : validV smallT wsA [⟨1, [true]⟩] = false := by decide +kernel
theorem val_A3 : validV smallT wsA [⟨0, []⟩, ⟨2, []⟩, ⟨3, []⟩] = false := by decide +kernel
theorem err_A1 : validE smallT wsA [⟨1, [false]⟩] = 0 := by decide +kernel
theorem err_A2 : validE smallT wsA [⟨1, [true]⟩] = 0 := by decide +kernel
theorem err_A3 : validE smallT wsA [⟨0, []⟩, ⟨2, []⟩, ⟨3, []⟩] = 0 := by decide +kernel

/-- The tree and the wish of the closed facts. -/
structure Al (w : World) (T : Nat) (A : Option Addr) (c : Nat) (wx : World) : Prop where
  t : RTree wx (fun i => i < T) A 4 smallT
  tb : Whole wx T 24 [.slice A 4 c]
  a : Whole wx (T + 1) 43 (atRow atA)
  v : Whole wx (T + 1 + 1) 30 [.slice (some ⟨T + 1, 0, none⟩) 1 1, .slice none 0 0, .slice none 0 0, .slice none 0 0]
  bel : Below w.heap.size w wx
theorem Al.move {w : World} {T : Nat} {A : Option Addr} {c : Nat} {wx wy : World} (h : Al w T A c wx) (hb : Below wx.heap.size wx wy) : Al w T A c wy :=
  ⟨h.t.under hb (fun k hk => Nat.lt_trans hk h.tb.lt), h.tb.below hb h.tb.lt, h.a.below hb h.a.lt, h.v.below hb h.v.lt, h.bel.trans (hb.mono h.bel.size)⟩
theorem Al.ws {w : World} {T : Nat} {A : Option Addr} {c : Nat} {wx : World} (h : Al w T A c wx) : WsAt wx (fun i => i < wx.heap.size) (some ⟨T + 1, 0, none⟩) 1 1 none 0 0 none 0 0 none 0 0 wsA :=
  ⟨⟨by decide, by decide⟩, ⟨by decide, by decide⟩, ⟨by decide, by decide⟩, ⟨by decide, by decide⟩,
    RSeq.whole [atRow atA] [atA] h.a rfl rfl (fun x hx => by simp at hx; subst hx; rfl) (fun j x y h1 h2 => by
      match j with
      | 0 => simp at h1 h2; subst h1 h2; exact ⟨rfl, by decide, by decide⟩
      | j + 1 => simp at h1) h.a.lt, RSet.nil_, Row.nil_, RSeq.nil_⟩
theorem Al.valid {w : World} {T : Nat} {A : Option Addr} {c : Nat} {wx : World} (h : Al w T A c wx) (hc : 4 ≤ c ∧ c ≤ maxLen) {B : Option Addr} {q : Nat} {l : List Mem} (hq : q ≤ maxLen) (hL : RSet wx (fun i => i < wx.heap.size) B q l) :
    Calls Tryz.prog 5 #[.agg #[.slice A 4 c], .agg #[.slice (some ⟨T + 1, 0, none⟩) 1 1, .slice none 0 0, .slice none 0 0, .slice none 0 0], .slice B q q] wx fun e w' => e = .returned (.tuple #[.bool (validV smallT wsA l), .int .i64 (validE smallT wsA l)]) ∧ Below wx.heap.size wx w' :=
  valid_any smallT wsA l (fun i => i < wx.heap.size) A B 4 c q q (some ⟨T + 1, 0, none⟩) none none none 1 1 0 0 0 0 0 0 wx (h.t.more fun k hk => Nat.lt_trans hk h.tb.lt) hc.1 hc.2 h.ws hL (Nat.le_refl _) hq (fun _ h => h)
theorem set_one {wx : World} {b b2 : Nat} {t t2 : TypeId} {x : Bool} (h1 : Whole wx b t [.bool x]) (h2 : Whole wx b2 t2 [.int .i64 1, .slice (some ⟨b, 0, none⟩) 1 1]) : RSet wx (fun i => i < wx.heap.size) (some ⟨b2, 0, none⟩) 1 [⟨1, [x]⟩] :=
  RSeq.whole (α := Mem) (K := 2) (R := RMem wx (fun i => i < wx.heap.size)) (n := 1) [[.int .i64 1, .slice (some ⟨b, 0, none⟩) 1 1]] [⟨1, [x]⟩] h2 rfl rfl (fun x hx => by simp at hx; subst hx; rfl) (fun j u y g1 g2 => by
      match j with
      | 0 => simp at g1 g2; subst g1 g2; exact ⟨_, _, _, rfl, by decide, by decide, h1.bools (xs := [x]) h1.lt rfl⟩
      | j + 1 => simp at g1) h2.lt
theorem set_three {wx : World} {b2 : Nat} {t2 : TypeId} (h2 : Whole wx b2 t2 [.int .i64 0, .slice none 0 0, .int .i64 2, .slice none 0 0, .int .i64 3, .slice none 0 0]) : RSet wx (fun i => i < wx.heap.size) (some ⟨b2, 0, none⟩) 3 [⟨0, []⟩, ⟨2, []⟩, ⟨3, []⟩] :=
  RSeq.whole (α := Mem) (K := 2) (R := RMem wx (fun i => i < wx.heap.size)) (n := 3) [[.int .i64 0, .slice none 0 0], [.int .i64 2, .slice none 0 0], [.int .i64 3, .slice none 0 0]] [⟨0, []⟩, ⟨2, []⟩, ⟨3, []⟩] h2 rfl rfl (fun x hx => by simp at hx; rcases hx with rfl | rfl | rfl <;> rfl) (fun j u y g1 g2 => by
      match j with
      | 0 => simp at g1 g2; subst g1 g2; exact ⟨_, _, _, rfl, by decide, by decide, Row.nil_⟩
      | 1 => simp at g1 g2; subst g1 g2; exact ⟨_, _, _, rfl, by decide, by decide, Row.nil_⟩
      | 2 => simp at g1 g2; subst g1 g2; exact ⟨_, _, _, rfl, by decide, by decide, Row.nil_⟩
      | j + 3 => simp at g1) h2.lt
set_option maxRecDepth 100000 in
set_option maxHeartbeats 3200000 in
theorem allowed_any (w : World) (hL : LaidV w) (hM : MaxW w) :
    Calls Tryz.prog 6 #[] w fun e w' => e = .returned (.bool true) ∧ Below w.heap.size w w' := by
  have Hsm := Lib.hid (small_any w hL hM)
  unfold SmallPost at Hsm
  clear hL hM
  go_enter Tryz.func6, Tryz.ntmps6
  go_upto_region 3 with (first | (go_at_call 16; refine Hsm.out.mono ?_; rintro e w1 ⟨A, c, rfl, hT, hc1, hc2, hb1⟩; refine Hid.out ?_))
  refine Lib.hid ?_
  go_upto_region 3 with fail
  have h1 := Whole.new w1 w1.heap.size 24 [.slice A 4 c] rfl
  have h2 := Whole.new (w1.alloc (.cells #[.slice A 4 c] 24)) (w1.heap.size + 1) 43 (atRow atA) (by simp)
  have h3 := Whole.new ((w1.alloc (.cells #[.slice A 4 c] 24)).alloc (.cells (atRow atA).toArray 43)) (w1.heap.size + 1 + 1) 30 [.slice (some ⟨w1.heap.size + 1, 0, none⟩) 1 1, .slice none 0 0, .slice none 0 0, .slice none 0 0] (by simp)
  have hbl : Below w1.heap.size w1 (((w1.alloc (.cells #[.slice A 4 c] 24)).alloc (.cells (atRow atA).toArray 43)).alloc (.cells #[.slice (some ⟨w1.heap.size + 1, 0, none⟩) 1 1, .slice none 0 0, .slice none 0 0, .slice none 0 0] 30)) := (((Below.refl _ _).alloc (Nat.le_refl _) _).alloc (by simp) _).alloc (by simp; omega) _
  have Y3 : Hid (Al w w1.heap.size A c _) := Lib.hid ⟨(hT.under hbl fun k hk => hk.2).more fun k hk => hk.2, (h1.alloc _).alloc _, h2.alloc _, h3, hb1.trans (hbl.mono hb1.size)⟩
  unfold atRow atA at Y3
  clear h1 h2 h3 hbl hT hb1
  generalize w1.heap.size = T at Y3 ⊢
  generalize World.alloc (World.alloc (World.alloc w1 _) _) _ = w3 at Y3 ⊢
  have hW1 := Whole.new w3 w3.heap.size 4 [.bool false] rfl
  have hW2 := Whole.new (w3.alloc (.cells #[.bool false] 4)) (w3.heap.size + 1) 51 [.int .i64 1, .slice (some ⟨w3.heap.size, 0, none⟩) 1 1] (by simp)
  have hbx : Below w3.heap.size w3 ((w3.alloc (.cells #[.bool false] 4)).alloc (.cells #[.int .i64 1, .slice (some ⟨w3.heap.size, 0, none⟩) 1 1] 51)) := ((Below.refl _ _).alloc (Nat.le_refl _) _).alloc (by simp) _
  have Y4 := Lib.hid (Y3.out.move hbx)
  have hva := Y4.out.valid ⟨hc1, hc2⟩ (by decide) (set_one (hW1.alloc _) hW2)
  rw [val_A1, err_A1] at hva
  have Hva := Lib.hid hva; clear hva hW1 hW2 hbx
  have t0 := Y3.out.tb.cell 0
  have v0 := Y3.out.v.cell 0; have v1 := Y3.out.v.cell 1; have v2 := Y3.out.v.cell 2; have v3 := Y3.out.v.cell 3
  simp only [List.getElem?_cons_zero, List.getElem?_cons_succ] at t0 v0 v1 v2 v3
  have vlt := Y3.out.v.lt
  have tlt := Y3.out.tb.lt
  have tlt1 : T < w3.heap.size + 1 := by omega
  have vlt1 : T + 1 + 1 < w3.heap.size + 1 := by omega
  go_upto_region 4 with (first | (go_at_call 5; refine Hva.out.mono ?_; rintro e w5 ⟨rfl, hb5⟩; refine Hid.out ?_))
  refine Lib.hid ?_
  have Y5 := Lib.hid (Y4.out.move hb5)
  clear hb5 t0 v0 v1 v2 v3 vlt tlt tlt1 vlt1 Y3 Y4 Hva
  go_upto_region 4 with fail
  have hW1 := Whole.new w5 w5.heap.size 4 [.bool true] rfl
  have hW2 := Whole.new (w5.alloc (.cells #[.bool true] 4)) (w5.heap.size + 1) 51 [.int .i64 1, .slice (some ⟨w5.heap.size, 0, none⟩) 1 1] (by simp)
  have hbx : Below w5.heap.size w5 ((w5.alloc (.cells #[.bool true] 4)).alloc (.cells #[.int .i64 1, .slice (some ⟨w5.heap.size, 0, none⟩) 1 1] 51)) := ((Below.refl _ _).alloc (Nat.le_refl _) _).alloc (by simp) _
  have Y6 := Lib.hid (Y5.out.move hbx)
  have hva := Y6.out.valid ⟨hc1, hc2⟩ (by decide) (set_one (hW1.alloc _) hW2)
  rw [val_A2, err_A2] at hva
  have Hva := Lib.hid hva; clear hva hW1 hW2 hbx
  have t0 := Y5.out.tb.cell 0
  have v0 := Y5.out.v.cell 0; have v1 := Y5.out.v.cell 1; have v2 := Y5.out.v.cell 2; have v3 := Y5.out.v.cell 3
  simp only [List.getElem?_cons_zero, List.getElem?_cons_succ] at t0 v0 v1 v2 v3
  have vlt := Y5.out.v.lt
  have tlt := Y5.out.tb.lt
  have tlt1 : T < w5.heap.size + 1 := by omega
  have vlt1 : T + 1 + 1 < w5.heap.size + 1 := by omega
  go_upto_region 5 with (first | (go_at_call 5; refine Hva.out.mono ?_; rintro e w7 ⟨rfl, hb7⟩; refine Hid.out ?_))
  refine Lib.hid ?_
  have Y7 := Lib.hid (Y6.out.move hb7)
  clear hb7 t0 v0 v1 v2 v3 vlt tlt tlt1 vlt1 Y5 Y6 Hva
  go_upto_region 5 with fail
  have hW2 := Whole.new w7 w7.heap.size 51 [.int .i64 0, .slice none 0 0, .int .i64 2, .slice none 0 0, .int .i64 3, .slice none 0 0] rfl
  have Y8 := Lib.hid (Y7.out.move ((Below.refl _ w7).alloc (Nat.le_refl _) (.cells #[.int .i64 0, .slice none 0 0, .int .i64 2, .slice none 0 0, .int .i64 3, .slice none 0 0] 51)))
  have hva := Y8.out.valid ⟨hc1, hc2⟩ (by decide) (set_three hW2)
  rw [val_A3, err_A3] at hva
  have Hva := Lib.hid hva; clear hva hW2
  have t0 := Y7.out.tb.cell 0
  have v0 := Y7.out.v.cell 0; have v1 := Y7.out.v.cell 1; have v2 := Y7.out.v.cell 2; have v3 := Y7.out.v.cell 3
  simp only [List.getElem?_cons_zero, List.getElem?_cons_succ] at t0 v0 v1 v2 v3
  have vlt := Y7.out.v.lt
  have tlt := Y7.out.tb.lt
  go_wp2_with (first | (go_at_call 5; refine Hva.out.mono ?_; rintro e w9 ⟨rfl, hb9⟩; refine Hid.out ?_))
  refine Lib.hid ?_
  have Y9 := Lib.hid (Y8.out.move hb9)
  clear hb9
  go_wp2
  go_ret
  exact ⟨rfl, Y9.out.bel⟩
end Go.Proofs.YtokibfankmjphaaGreatDoor

/- ValidLess, walked: it returns true. -/
namespace Go.Proofs.YtokibfankmjphaaGreatDoor
open Go.RowKit Qm

theorem ckWishR_zero {ps : List Pk} {v : Ws} (h : ckWishR ps v = 0) : ckMask ps none v.ms = 0 := by
  unfold ckWishR at h
  split at h
  · cases h
  · split at h
    · rename_i h1; exact absurd h h1
    · split at h
      · rename_i h2; exact absurd h h2
      · rename_i h2; simpa using h2
theorem validE_zero {ps : List Pk} {v : Ws} {l : List Mem} (h : validE ps v l = 0) : ckSet ps l = 0 ∧ ckMask ps none v.ms = 0 := by
  unfold validE at h
  by_cases h0 : ckWish ps v = 0
  · rw [if_neg (by simpa using h0)] at h
    refine ⟨h, ?_⟩
    unfold ckWish at h0
    by_cases h1 : ckSet ps v.ins = 0
    · rw [if_neg (by simpa using h1)] at h0; exact ckWishR_zero h0
    · rw [if_pos h1] at h0; exact absurd h0 h1
  · rw [if_pos h0] at h; exact absurd h h0
theorem ckSet_nil {ps : List Pk} {l : List Mem} (h : ckSet ps l = 0) : ckSet ps [] = 0 := by
  unfold ckSet
  rw [if_neg (by simpa using (ckSet_zero h).1)]; rfl
theorem ckWish_masked {ps : List Pk} {l : List Mem} {ms : List Int} (h : ckSet ps l = 0) (hm : ckMask ps none ms = 0) : ckWish ps ⟨[], [], ms, []⟩ = 0 := by
  unfold ckWish
  rw [if_neg (by simpa using ckSet_nil h)]
  unfold ckWishR
  simp [ckAts, hm, ckOn]
theorem validE_less {ps : List Pk} {l k : List Mem} {ms : List Int} (h : ckSet ps l = 0) (hm : ckMask ps none ms = 0) (hk : ckSet ps k = 0) : validE ps ⟨[], [], ms, []⟩ k = 0 := by
  unfold validE
  rw [if_neg (by simpa using ckWish_masked h hm)]; exact hk
set_option maxRecDepth 100000 in
set_option maxHeartbeats 6400000 in
theorem validLess_any (ps : List Pk) (v : Ws) (l : List Mem) (S : Nat → Prop) (A B : Option Addr) (n c q d : Nat) (A1 A2 A3 A4 : Option Addr) (n1 c1 n2 c2 n3 c3 n4 c4 : Nat) (w : World) (hT : RTree w S A n ps) (hnc : n ≤ c) (hc : c ≤ maxLen) (hV : WsAt w S A1 n1 c1 A2 n2 c2 A3 n3 c3 A4 n4 c4 v) (hL : RSet w S B q l) (hqd : q ≤ d) (hd : d ≤ maxLen) (hS : ∀ k, S k → k < w.heap.size) (hLV : LaidV w) (hM : MaxW w) :
    Calls Tryz.prog 3 #[.agg #[.slice A n c], .agg #[.slice A1 n1 c1, .slice A2 n2 c2, .slice A3 n3 c3, .slice A4 n4 c4], .slice B q d] w fun e w' => e = .returned (.bool true) ∧ Below w.heap.size w w' := by
  have HLV := Lib.hid hLV; have HMV := Lib.hid hM
  have X0 := Lib.hid (Wb.new w A n c [.slice A1 n1 c1, .slice A2 n2 c2, .slice A3 n3 c3, .slice A4 n4 c4])
  have Hll := Lib.hid hL.len
  have Hlt := Lib.hid (fun (wx : World) (hb : Below w.heap.size w wx) k hk => Nat.lt_of_lt_of_le (hS k hk) hb.size)
  have Hva := Lib.hid (fun (wx : World) (hb : Below w.heap.size w wx) => valid_any ps v l S A B n c q d A1 A2 A3 A4 n1 c1 n2 c2 n3 c3 n4 c4 wx (hT.under hb hS) hnc hc (hV.under hb hS) (hL.under hb hS) hqd hd (Hlt.out _ hb))
  have Hvb := Lib.hid (fun (wx : World) (hb : Below w.heap.size w wx) => valid_any ps ⟨[], [], [], []⟩ l S A B n c q d none none none none 0 0 0 0 0 0 0 0 wx (hT.under hb hS) hnc hc ⟨⟨by decide, by decide⟩, ⟨by decide, by decide⟩, ⟨by decide, by decide⟩, ⟨by decide, by decide⟩, RSeq.nil_, RSet.nil_, Row.nil_, RSeq.nil_⟩ (hL.under hb hS) hqd hd (Hlt.out _ hb))
  have Hvm := Lib.hid (fun (wx : World) (hb : Below w.heap.size w wx) => valid_any ps ⟨[], [], v.ms, []⟩ [] S A none n c 0 0 none none A3 none 0 0 0 0 n3 c3 0 0 wx (hT.under hb hS) hnc hc ⟨⟨by decide, by decide⟩, ⟨by decide, by decide⟩, hV.h3, ⟨by decide, by decide⟩, RSeq.nil_, RSet.nil_, Row.below hV.ms hb hS, RSeq.nil_⟩ RSet.nil_ (Nat.le_refl _) (by decide) (Hlt.out _ hb))
  have Hho := Lib.hid (fun (k : Nat) (wx : World) (hb : Below w.heap.size w wx) => vholds_any ps l k S A B n c q d wx (hT.under hb hS) hnc hc (hL.under hb hS) hqd hd (Hlt.out _ hb))
  have hV1 : Hid (validE ps v l = 0 → validV ps v l = validP ps v.ts v.ms l) := Lib.hid fun h => by unfold validV; rw [decide_eq_true h, Bool.true_and]
  clear hT hS hL hV hLV hM
  unfold maxLen at hd
  by_cases e0 : validE ps v l = 0
  · obtain ⟨hcs, hcm⟩ := validE_zero e0
    have hE1 : validE ps ⟨[], [], [], []⟩ l = 0 := validE_less hcs rfl hcs
    have hE2 : validE ps ⟨[], [], v.ms, []⟩ [] = 0 := validE_less hcs hcm (ckSet_nil hcs)
    have hB1 : validV ps ⟨[], [], [], []⟩ l = validP ps [] [] l := by unfold validV; rw [decide_eq_true hE1, Bool.true_and]
    have hB2 : validV ps ⟨[], [], v.ms, []⟩ [] = true := by unfold validV; rw [decide_eq_true hE2, Bool.true_and]; exact validP_none
    have hHE : ∀ k : Nat, k < q → holdsE ps l k = 0 ∧ holdsV ps l k = holdsAt ps l k := fun k hk => by
      have he : holdsE ps l k = 0 := by
        unfold holdsE
        rw [if_neg (by simpa using hcs), if_neg (by have := Hll.out; omega)]
      exact ⟨he, by unfold holdsV; rw [decide_eq_true he, Bool.true_and, Int.toNat_natCast]⟩
    rw [e0, hV1.out e0] at Hva
    rw [hE1, hB1] at Hvb
    rw [hE2, hB2] at Hvm
    have HPB := Lib.hid (fun h => validP_less (ps := ps) (ts := v.ts) (ms := v.ms) (l := l) h)
    have HPH := Lib.hid (fun h k hk => validP_holds (ps := ps) (ts := []) (ms := []) (l := l) h (k := k) hk)
    generalize validP ps v.ts v.ms l = ok at Hva HPB
    generalize validP ps [] [] l = bare at Hvb HPB HPH
    have HHE := Lib.hid hHE
    clear hE1 hE2 hB1 hB2 hHE hcs hcm e0 hV1
    have Hok : Hid (ok = true → bare = true) := Lib.hid HPB.out
    clear HPB
    go_enter Tryz.func3, Tryz.ntmps3
    go_wp2_with (first | (go_at_call 5; refine (Hva.out _ X0.out.bel).mono ?_; rintro e w2 ⟨rfl, hb2⟩; refine Hid.out ?_))
    refine Lib.hid ?_
    have X2 := Lib.hid (X0.out.move hb2)
    clear hb2 X0 Hva
    go_wp2_with (first | (go_at_call 6; refine (allowed_any _ (HLV.out.below X2.out.bel) (HMV.out.below X2.out.bel)).mono ?_; rintro e w3 ⟨rfl, hb3⟩; refine Hid.out ?_))
    refine Lib.hid ?_
    have X3 := Lib.hid (X2.out.move hb3)
    clear hb3 X2
    have t0 := X3.out.t.cell 0
    simp only [List.getElem?_cons_zero] at t0
    go_upto_region 5 with (first | (go_at_call 5; refine (Hvb.out _ X3.out.bel).mono ?_; rintro e w4 ⟨rfl, hb4⟩; refine Hid.out ?_))
    refine Lib.hid ?_
    have X4 := Lib.hid (X3.out.move hb4)
    clear hb4 X3 Hvb t0
    go_upto_region 5 with fail
    have key : Hid (ok = false ∨ bare = true) := Lib.hid (by cases ok; exact .inl rfl; exact .inr (Hok.out rfl))
    cases bare
    · obtain rfl : ok = false := by rcases key.out with h | h; exact h; cases h
      clear key Hok HPH
      go_wp2
      go_loopg [46] q (fun g iv wr => ∃ k : Nat, Hid (k + g = q) ∧ iv = .int .i64 k ∧ Hid (Wb w A n c [.slice A1 n1 c1, .slice A2 n2 c2, .slice A3 n3 c3, .slice A4 n4 c4] wr))
      case atStart => exact ⟨0, Lib.hid (Nat.zero_add _), rfl, X4⟩
      case round =>
        obtain ⟨k, Hk, rfl, XR⟩ := hrel
        clear X4
        have t0 := XR.out.t.cell 0
        have v2 := XR.out.v.cell 2
        simp only [List.getElem?_cons_zero, List.getElem?_cons_succ] at t0 v2
        by_cases hk : k < q
        · have hh := Hho.out k _ XR.out.bel
          rw [(HHE.out k hk).1, (HHE.out k hk).2] at hh
          generalize holdsAt ps l k = hv at hh
          have Hh := Lib.hid hh; clear hh
          go_wp2_with (first | (go_at_call 7; refine Hh.out.mono ?_; rintro e w5 ⟨rfl, hb5⟩; refine Hid.out ?_))
          refine Lib.hid ?_
          have X5 := Lib.hid (XR.out.move hb5)
          clear hb5 t0 v2
          go_wp2
          go_roundg (gk - 1)
          case measure => have := Hk.out; omega
          case rel => exact ⟨k + 1, Lib.hid (by have := Hk.out; omega), by go_num, X5⟩
        · obtain rfl : q = k := by have := Hk.out; omega
          go_wp2_with (first | (go_at_call 5; refine (Hvm.out _ XR.out.bel).mono ?_; rintro e w6 ⟨rfl, hb6⟩; refine Hid.out ?_))
          refine Lib.hid ?_
          have X6 := Lib.hid (XR.out.move hb6)
          clear hb6 t0 v2
          go_wp2
          go_ret
          exact ⟨rfl, X6.out.bel⟩
    · have HPH2 := Lib.hid (HPH.out rfl)
      clear key Hok HPH
      cases ok
      ·
        go_wp2
        go_loopg [46] q (fun g iv wr => ∃ k : Nat, Hid (k + g = q) ∧ iv = .int .i64 k ∧ Hid (Wb w A n c [.slice A1 n1 c1, .slice A2 n2 c2, .slice A3 n3 c3, .slice A4 n4 c4] wr))
        case atStart => exact ⟨0, Lib.hid (Nat.zero_add _), rfl, X4⟩
        case round =>
          obtain ⟨k, Hk, rfl, XR⟩ := hrel
          clear X4
          have t0 := XR.out.t.cell 0
          have v2 := XR.out.v.cell 2
          simp only [List.getElem?_cons_zero, List.getElem?_cons_succ] at t0 v2
          by_cases hk : k < q
          · have hh := Hho.out k _ XR.out.bel
            rw [(HHE.out k hk).1, (HHE.out k hk).2] at hh
            rw [HPH2.out k (by have := Hll.out; omega)] at hh
            have Hh := Lib.hid hh; clear hh
            go_wp2_with (first | (go_at_call 7; refine Hh.out.mono ?_; rintro e w5 ⟨rfl, hb5⟩; refine Hid.out ?_))
            refine Lib.hid ?_
            have X5 := Lib.hid (XR.out.move hb5)
            clear hb5 t0 v2
            go_wp2
            go_roundg (gk - 1)
            case measure => have := Hk.out; omega
            case rel => exact ⟨k + 1, Lib.hid (by have := Hk.out; omega), by go_num, X5⟩
          · obtain rfl : q = k := by have := Hk.out; omega
            go_wp2_with (first | (go_at_call 5; refine (Hvm.out _ XR.out.bel).mono ?_; rintro e w6 ⟨rfl, hb6⟩; refine Hid.out ?_))
            refine Lib.hid ?_
            have X6 := Lib.hid (XR.out.move hb6)
            clear hb6 t0 v2
            go_wp2
            go_ret
            exact ⟨rfl, X6.out.bel⟩
      ·
        go_wp2
        go_loopg [46] q (fun g iv wr => ∃ k : Nat, Hid (k + g = q) ∧ iv = .int .i64 k ∧ Hid (Wb w A n c [.slice A1 n1 c1, .slice A2 n2 c2, .slice A3 n3 c3, .slice A4 n4 c4] wr))
        case atStart => exact ⟨0, Lib.hid (Nat.zero_add _), rfl, X4⟩
        case round =>
          obtain ⟨k, Hk, rfl, XR⟩ := hrel
          clear X4
          have t0 := XR.out.t.cell 0
          have v2 := XR.out.v.cell 2
          simp only [List.getElem?_cons_zero, List.getElem?_cons_succ] at t0 v2
          by_cases hk : k < q
          · have hh := Hho.out k _ XR.out.bel
            rw [(HHE.out k hk).1, (HHE.out k hk).2] at hh
            rw [HPH2.out k (by have := Hll.out; omega)] at hh
            have Hh := Lib.hid hh; clear hh
            go_wp2_with (first | (go_at_call 7; refine Hh.out.mono ?_; rintro e w5 ⟨rfl, hb5⟩; refine Hid.out ?_))
            refine Lib.hid ?_
            have X5 := Lib.hid (XR.out.move hb5)
            clear hb5 t0 v2
            go_wp2
            go_roundg (gk - 1)
            case measure => have := Hk.out; omega
            case rel => exact ⟨k + 1, Lib.hid (by have := Hk.out; omega), by go_num, X5⟩
          · obtain rfl : q = k := by have := Hk.out; omega
            go_wp2_with (first | (go_at_call 5; refine (Hvm.out _ XR.out.bel).mono ?_; rintro e w6 ⟨rfl, hb6⟩; refine Hid.out ?_))
            refine Lib.hid ?_
            have X6 := Lib.hid (XR.out.move hb6)
            clear hb6 t0 v2
            go_wp2
            go_ret
            exact ⟨rfl, X6.out.bel⟩
  · have e1 : (validE ps v l != 0) = true := by simpa using e0
    generalize validE ps v l = z at Hva e1
    clear e0 hV1
    go_enter Tryz.func3, Tryz.ntmps3
    go_wp2_with (first | (go_at_call 5; refine (Hva.out _ X0.out.bel).mono ?_; rintro e w2 ⟨rfl, hb2⟩; refine Hid.out ?_))
    refine Lib.hid ?_
    have X2 := Lib.hid (X0.out.move hb2)
    clear hb2 X0 Hva
    go_wp2_with (first | (go_at_call 6; refine (allowed_any _ (HLV.out.below X2.out.bel) (HMV.out.below X2.out.bel)).mono ?_; rintro e w3 ⟨rfl, hb3⟩; refine Hid.out ?_))
    refine Lib.hid ?_
    have X3 := Lib.hid (X2.out.move hb3)
    clear hb3 X2
    go_wp2_with (first | (go_at_call 6; refine (allowed_any _ (HLV.out.below X3.out.bel) (HMV.out.below X3.out.bel)).mono ?_; rintro e w4 ⟨rfl, hb4⟩; refine Hid.out ?_))
    refine Lib.hid ?_
    have X4 := Lib.hid (X3.out.move hb4)
    clear hb4
    go_wp2
    go_ret
    exact ⟨rfl, X4.out.bel⟩
end Go.Proofs.YtokibfankmjphaaGreatDoor

/- Arguments that can be read as data, opened: atoms, strings; what the listed variables hold. -/
namespace Go.Proofs.YtokibfankmjphaaGreatDoor
open Go.ChangeShapes Go.WideShapes Go.ChangeAt Go.RowKit Qm

section
variable {H : Type} {enc : TypeId × Value → H} {w : World} {base : Nat} {sp : Nat → Bool} {held : Bool}
/-- One cell's field of a struct. -/
theorem field_cell {P : Program} {t : TypeId} {fs : Array Field} {fuel : Nat} {cs : List Value} {x : DataW H × List MemPlace} (ht : P.underlying t = some (.struct fs)) (h : DataW.trod enc P w base sp held fuel t cs = some x)
    (i : Nat) {f : Field} (hf : fs[i]? = some f) (hc : P.cellsOf f.type = 1) (hlt : f.offset < P.cellsOf t) : ∃ c n y, cs[f.offset]? = some c ∧ DataW.trod enc P w base sp held n f.type [c] = some y := by
  obtain ⟨xs, n, _, _, hl, hxl, hx⟩ := DataW.trod_struct ht h
  have h1 := hx i f hf
  have hlt' : f.offset < cs.length := by omega
  have hi : i < fs.size := (Array.getElem?_eq_some_iff.1 hf).1
  rw [hc, List.drop_eq_getElem_cons hlt'] at h1
  refine ⟨cs[f.offset], n, xs[i]'(by omega), List.getElem?_eq_getElem hlt', ?_⟩
  rw [List.getElem?_eq_getElem (by omega)] at h1
  have e : (cs[f.offset] :: List.drop (f.offset + 1) cs).take 1 = [cs[f.offset]] := rfl
  rw [e] at h1
  exact h1
def In64 (x : Int) : Prop := -9223372036854775808 ≤ x ∧ x ≤ 9223372036854775807
theorem i64_le {x : Int} (h : (Lit.int .i64 x).wf = true) : In64 x := by
  unfold In64
  simp [Lit.wf, IntKind.min, IntKind.max, IntKind.bits, IntKind.signed] at h; omega
theorem six_of {α : Type} {cs : List α} {a b c d e f : α} (hl : cs.length = 6) (h0 : cs[0]? = some a) (h1 : cs[1]? = some b) (h2 : cs[2]? = some c) (h3 : cs[3]? = some d) (h4 : cs[4]? = some e) (h5 : cs[5]? = some f) : cs = [a, b, c, d, e, f] := by
  match cs, hl with
  | [_, _, _, _, _, _], _ => simp at h0 h1 h2 h3 h4 h5; simp [h0, h1, h2, h3, h4, h5]
theorem str_one {P : Program} {t : TypeId} {n : Nat} {c : Value} {y : DataW H × List MemPlace} (ht : P.underlying t = some .string) (h : DataW.trod enc P w base sp held n t [c] = some y) : ∃ s : ByteArray, c = .string s ∧ s.size ≤ maxLen := by
  obtain ⟨s, e, _, hs⟩ := DataW.trod_string ht h
  simp at e
  exact ⟨s, e, hs⟩
theorem int_one {P : Program} {t : TypeId} {n : Nat} {c : Value} {y : DataW H × List MemPlace} (ht : P.underlying t = some (.int .i64)) (h : DataW.trod enc P w base sp held n t [c] = some y) : ∃ x : Int, c = .int .i64 x ∧ In64 x := by
  obtain ⟨x, e, _, hs⟩ := DataW.trod_int ht h
  simp at e
  exact ⟨x, e, i64_le hs⟩
theorem bool_one_ {P : Program} {t : TypeId} {n : Nat} {c : Value} {y : DataW H × List MemPlace} (ht : P.underlying t = some .bool) (h : DataW.trod enc P w base sp held n t [c] = some y) : ∃ x : Bool, c = .bool x := by
  obtain ⟨x, e, _⟩ := DataW.trod_bool ht h
  simp at e
  exact ⟨x, e⟩
/-- An atom's six cells. -/
theorem atom_cells {fuel : Nat} {cs : List Value} {x : DataW H × List MemPlace} (h : DataW.trod enc Tryz.prog w base sp held fuel 43 cs = some x) :
    ∃ (s f : ByteArray) (op ver slot : Int) (on : Bool), cs = [.string s, .int .i64 op, .int .i64 ver, .int .i64 slot, .string f, .bool on] ∧ s.size ≤ maxLen ∧ f.size ≤ maxLen ∧ In64 op ∧
      In64 ver ∧ In64 slot := by
  have hT := Tryz.underlying43
  have hl : cs.length = 6 := by
    obtain ⟨_, _, _, _, hl, _⟩ := DataW.trod_struct hT h
    rw [hl]; kernel_rfl
  obtain ⟨c0, n0, y0, e0, k0⟩ := field_cell hT h 0 rfl (by kernel_rfl) (of_decide_eq_true (by kernel_rfl))
  obtain ⟨c1, n1, y1, e1, k1⟩ := field_cell hT h 1 rfl (by kernel_rfl) (of_decide_eq_true (by kernel_rfl))
  obtain ⟨c2, n2, y2, e2, k2⟩ := field_cell hT h 2 rfl (by kernel_rfl) (of_decide_eq_true (by kernel_rfl))
  obtain ⟨c3, n3, y3, e3, k3⟩ := field_cell hT h 3 rfl (by kernel_rfl) (of_decide_eq_true (by kernel_rfl))
  obtain ⟨c4, n4, y4, e4, k4⟩ := field_cell hT h 4 rfl (by kernel_rfl) (of_decide_eq_true (by kernel_rfl))
  obtain ⟨c5, n5, y5, e5, k5⟩ := field_cell hT h 5 rfl (by kernel_rfl) (of_decide_eq_true (by kernel_rfl))
  obtain ⟨s, rfl, hs⟩ := str_one Tryz.underlying9 k0
  obtain ⟨op, rfl, ho⟩ := int_one Tryz.underlying3 k1
  obtain ⟨ver, rfl, hv⟩ := int_one Tryz.underlying3 k2
  obtain ⟨slot, rfl, hsl⟩ := int_one Tryz.underlying3 k3
  obtain ⟨f, rfl, hf⟩ := str_one Tryz.underlying9 k4
  obtain ⟨on, rfl⟩ := bool_one_ Tryz.underlying4 k5
  exact ⟨s, f, op, ver, slot, on, six_of hl e0 e1 e2 e3 e4 e5, hs, hf, ho, hv, hsl⟩
set_option maxRecDepth 100000 in
/-- An atom, by value. -/
theorem open_atom {r : Reach} {b0 : Nat} {v : Value} {d : DataW H} {p : List MemPlace} (hv : Value.okWide Tryz.prog w r b0 43 v) (h : DataW.Trod enc Tryz.prog w base sp held 43 v d p) :
    ∃ (s f : ByteArray) (op ver slot : Int) (on : Bool), v = atv s op ver slot f on ∧ s.size ≤ maxLen ∧ f.size ≤ maxLen ∧ In64 op ∧
      In64 ver ∧ In64 slot := by
  obtain ⟨cs, rfl, _⟩ := okWide_struct Tryz.underlying43 hv
  obtain ⟨fuel, hf⟩ := h
  obtain ⟨s, f, op, ver, slot, on, e, hh⟩ := atom_cells hf
  have e' : cs.toList = [.string s, .int .i64 op, .int .i64 ver, .int .i64 slot, .string f, .bool on] := by simpa [Value.cells] using e
  refine ⟨s, f, op, ver, slot, on, ?_, hh⟩
  obtain ⟨l⟩ := cs
  simp only at e'
  subst e'
  rfl
end

/-! what the listed variables hold -/
theorem laid_at {P : Program} {w : World} : ∀ {l : List (String × DataW Unit)} {k : Nat} {x : String × DataW Unit}, laidMet P l w → l[k]? = some x → ∃ r, laidMet P (x :: r) w
  | [], _, _, _, h => by simp at h
  | y :: r, 0, x, h, hk => by
    simp only [List.getElem?_cons_zero, Option.some.injEq] at hk
    subst hk
    exact ⟨r, h⟩
  | y :: r, k + 1, x, h, hk => laid_at h.tail (by simpa using hk)
theorem gPow : Tryz.prog.globalNamed "internal/strconv.uint64pow10" = some 1 := by kernel_rfl
theorem gRng : Tryz.prog.globalNamed "strconv.ErrRange" = some 5 := by kernel_rfl
theorem gSyn : Tryz.prog.globalNamed "strconv.ErrSyntax" = some 4 := by kernel_rfl
theorem tPow : (Tryz.prog.globals[1]?).map (·.type) = some 150 := by kernel_rfl
theorem tRng : (Tryz.prog.globals[5]?).map (·.type) = some 107 := by kernel_rfl
theorem tSyn : (Tryz.prog.globals[4]?).map (·.type) = some 107 := by kernel_rfl
theorem rowErr : ∀ u, Tryz.prog.typeName? 3 u = some "*errors.errorString" → u = 188 := fun _ h => typeName_ptr_named (nm := "errors.errorString") (by kernel_rfl) (by kernel_rfl) (by decide) _ h
theorem laidV_of {w : World} {l : List (String × DataW Unit)} (h : laidMet Tryz.prog l w) {i j k : Nat} (hi : l[i]? = some ("internal/strconv.uint64pow10", Rows.laid_internal_strconv_uint64pow10)) (hj : l[j]? = some ("strconv.ErrRange", Rows.laid_strconv_ErrRange)) (hk : l[k]? = some ("strconv.ErrSyntax", Rows.laid_strconv_ErrSyntax)) : LaidV w := by
  obtain ⟨_, h1⟩ := laid_at h hi
  obtain ⟨_, h2⟩ := laid_at h hj
  obtain ⟨_, h3⟩ := laid_at h hk
  obtain ⟨a2, s2, e2, _⟩ := laid_sentinel h2 gRng tRng Tryz.underlying107 rowErr Tryz.underlying188 Tryz.underlying190 rfl rfl Tryz.underlying9 (by kernel_rfl) (by kernel_rfl)
  obtain ⟨a3, s3, e3, _⟩ := laid_sentinel h3 gSyn tSyn Tryz.underlying107 rowErr Tryz.underlying188 Tryz.underlying190 rfl rfl Tryz.underlying9 (by kernel_rfl) (by kernel_rfl)
  exact ⟨⟨_, _, e3⟩, ⟨_, _, e2⟩, Lib.tabIs_of_head gPow tPow Tryz.underlying150 Tryz.underlying123 (by kernel_rfl) (by kernel_rfl) h1⟩
end Go.Proofs.YtokibfankmjphaaGreatDoor

/- Arguments that can be read as data, opened into the words of these proofs. -/
namespace Go.Proofs.YtokibfankmjphaaGreatDoor
open Go.ChangeShapes Go.WideShapes Go.ChangeAt Go.RowKit Go.Joins Go.Deep

theorem spot_add {w : World} {a : Addr} {n : Nat} {f : Nat → Value} (hn : 0 < n) (h : ∀ i, i < n → w.cell? (a.add i) = some (f i)) : ∃ b o, a = ⟨b, o, none⟩ ∧ b < w.heap.size ∧ ∀ j, j < n → w.cell? ⟨b, o + j, none⟩ = some (f j) := by
  obtain ⟨b, o, spot⟩ := a
  have h0 := h 0 hn
  have hs : spot = none := by simpa [Addr.add] using World.cell?_spot h0
  subst hs
  have ha : ∀ j, (⟨b, o, none⟩ : Addr).add j = ⟨b, o + j, none⟩ := by
    intro j; unfold Addr.add; by_cases hj : j = 0 <;> simp [hj]
  refine ⟨b, o, rfl, ?_, fun j hj => by rw [← ha]; exact h j hj⟩
  have := World.block_lt_of_cell? w _ h0
  rw [ha] at this; exact this

theorem row_of_cells {w : World} {a : Addr} {n : Nat} {vs : List Value} (hl : vs.length = n) (h : ∀ i (_ : i < n), w.cell? (a.add i) = vs[i]?) : Row w (fun k => k < w.heap.size) (some a) n vs := by
  refine ⟨hl, fun hn => ?_⟩
  obtain ⟨b, o, rfl, hb, hc⟩ := spot_add (f := fun i => (vs[i]?).getD undef) hn (fun i hi => by rw [h i hi, List.getElem?_eq_getElem (by omega)]; rfl)
  exact ⟨b, o, rfl, hb, fun j hj => by rw [hc j hj, List.getElem?_eq_getElem (by omega)]; rfl⟩

section
variable {H : Type} {enc : TypeId × Value → H} {P : Program} {w : World} {base : Nat} {held : Bool}
def InI64 (xs : List Int) : Prop := ∀ x ∈ xs, -9223372036854775808 ≤ x ∧ x ≤ 9223372036854775807
theorem i64_bd {x : Int} (h : (Lit.int .i64 x).wf = true) : -9223372036854775808 ≤ x ∧ x ≤ 9223372036854775807 := by
  simp [Lit.wf, IntKind.min, IntKind.max, IntKind.bits, IntKind.signed] at h; omega
/-- a slice of ints -/
theorem rints_of_trod {t e : TypeId} {fuel : Nat} {v : Value} {x : DataW H × List MemPlace} (ht : P.underlying t = some (.slice e)) (he : P.underlying e = some (.int .i64)) (hc : P.cellsOf e = 1)
    (h : DataW.trod enc P w base (fun _ => true) held fuel t [v] = some x) : ∃ (A : Option Addr) (n c : Nat) (xs : List Int), v = .slice A n c ∧ n ≤ c ∧ c ≤ maxLen ∧ RInts w (fun k => k < w.heap.size) A n xs ∧ InI64 xs := by
  rcases open_ints ht he hc h with ⟨hcs, _⟩ | ⟨a, len, cap, zs, hcs, _, hl, hm, hz, _, hcell, hwf⟩
  · simp at hcs
    exact ⟨none, 0, 0, [], hcs, Nat.le_refl _, Nat.zero_le _, RInts.nil_, fun x hx => by simp at hx⟩
  · simp at hcs hz
    refine ⟨some a, len, cap, zs.take len, hcs, hl, hm, row_of_cells (by simp; omega) (fun i hi => ?_), fun x hx => i64_bd (hwf x (List.mem_of_mem_take hx))⟩
    rw [hcell i (by omega), List.getElem?_map, List.getElem?_take_of_lt hi, List.getD_eq_getElem?_getD, List.getElem?_eq_getElem (by omega)]; rfl
/-- a slice of bools -/
theorem rbools_of_trod {t e : TypeId} {fuel : Nat} {v : Value} {x : DataW H × List MemPlace} (ht : P.underlying t = some (.slice e)) (he : P.underlying e = some .bool) (hc : P.cellsOf e = 1)
    (h : DataW.trod enc P w base (fun _ => true) held fuel t [v] = some x) : ∃ (A : Option Addr) (n c : Nat) (xs : List Bool), v = .slice A n c ∧ n ≤ c ∧ c ≤ maxLen ∧ RBools w (fun k => k < w.heap.size) A n xs := by
  rcases open_bools ht he hc h with ⟨hcs, _⟩ | ⟨a, len, cap, Bf, hcs, _, hl, hm, _, hcell⟩
  · simp at hcs
    exact ⟨none, 0, 0, [], hcs, Nat.le_refl _, Nat.zero_le _, ⟨rfl, fun h => absurd h (by omega)⟩⟩
  · simp at hcs
    refine ⟨some a, len, cap, (List.range len).map Bf, hcs, hl, hm, row_of_cells (by simp) (fun i hi => ?_)⟩
    rw [hcell i (by omega), List.getElem?_map, List.getElem?_map, List.getElem?_range hi]; rfl
/-- a slice of slices of ints -/
theorem rclauses_of_trod {t e q : TypeId} {fuel : Nat} {v : Value} {x : DataW H × List MemPlace} (ht : P.underlying t = some (.slice e)) (he : P.underlying e = some (.slice q)) (hq : P.underlying q = some (.int .i64)) (hc : P.cellsOf e = 1) (hcq : P.cellsOf q = 1)
    (h : DataW.trod enc P w base (fun _ => true) held fuel t [v] = some x) : ∃ (A : Option Addr) (n c : Nat) (cs : List (List Int)), v = .slice A n c ∧ n ≤ c ∧ c ≤ maxLen ∧ RClauses w (fun k => k < w.heap.size) A n cs ∧ ∀ c ∈ cs, InI64 c := by
  rcases open_int_rows ht he hq hc hcq h with ⟨hcs, _⟩ | ⟨a, len, cap, A, L, C, Z, hcs, _, hl, hm, _, hr⟩
  · simp at hcs
    exact ⟨none, 0, 0, [], hcs, Nat.le_refl _, Nat.zero_le _, RClauses.nil_, fun x hx => by simp at hx⟩
  · simp at hcs
    refine ⟨some a, len, cap, (List.range len).map (fun r => (Z r).take (L r)), hcs, hl, hm, ⟨(List.range len).map (fun r => (A r, L r, C r)), row_of_cells (by simp) (fun i hi => ?_), by simp, fun j hh c h1 h2 => ?_⟩, fun c hc => ?_⟩
    · rw [(hr i (by omega)).1, List.getElem?_map, List.getElem?_map, List.getElem?_range hi]; rfl
    · rw [List.getElem?_map] at h1 h2
      by_cases hj : j < len
      · rw [List.getElem?_range hj] at h1 h2
        simp at h1 h2
        subst h1 h2
        obtain ⟨h3, h4, h5, h6, h7, h8, h9⟩ := hr j (by omega)
        refine ⟨?_, h4, h5⟩
        cases hA : A j with
        | none =>
          have h0 : L j = 0 := by have := h8 hA; omega
          show RInts w _ none (L j) _
          rw [h0]; exact RInts.nil_
        | some a' =>
          show RInts w _ (some a') (L j) _
          exact row_of_cells (by simp; omega) (fun i hi => by
            rw [(h9 a' hA).2 i (by omega), List.getElem?_map, List.getElem?_take_of_lt hi, List.getD_eq_getElem?_getD, List.getElem?_eq_getElem (by omega)]; rfl)
      · rw [List.getElem?_eq_none (by simp; omega)] at h1; cases h1
    · obtain ⟨r, hr', rfl⟩ := List.mem_map.1 hc
      rw [List.mem_range] at hr'
      exact fun x hx => i64_bd ((hr r (by omega)).2.2.2.2.1 x (List.mem_of_mem_take hx))
end
end Go.Proofs.YtokibfankmjphaaGreatDoor

/- Arguments that can be read as needs, opened. -/
namespace Go.Proofs.YtokibfankmjphaaGreatDoor
open Go.ChangeShapes Go.WideShapes Go.ChangeAt Go.RowKit Qm

theorem flatK {K : Nat} {cs : List (List Value)} (h : ∀ x ∈ cs, x.length = K) : ∀ {j : Nat} {x : List Value}, cs[j]? = some x → ∀ i, i < K → cs.flatten[j * K + i]? = x[i]? := by
  induction cs with
  | nil => intro j x hj; simp at hj
  | cons c r ih =>
    intro j x hj i hi
    have hc := h c (List.mem_cons_self ..)
    rw [List.flatten_cons]
    cases j with
    | zero =>
      simp only [List.getElem?_cons_zero, Option.some.injEq] at hj
      subst hj
      rw [List.getElem?_append_left (by omega)]; congr 1; omega
    | succ j =>
      rw [List.getElem?_cons_succ] at hj
      have he : (j + 1) * K = j * K + K := Nat.succ_mul j K
      rw [List.getElem?_append_right (by omega)]
      rw [← ih (fun y hy => h y (List.mem_cons_of_mem _ hy)) hj i hi]
      congr 1; omega
theorem flatK_len {K : Nat} {cs : List (List Value)} (h : ∀ x ∈ cs, x.length = K) : cs.flatten.length = cs.length * K := by
  induction cs with
  | nil => simp
  | cons c r ih =>
    have hc := h c (List.mem_cons_self ..)
    have := ih fun y hy => h y (List.mem_cons_of_mem _ hy)
    simp only [List.flatten_cons, List.length_append, List.length_cons, Nat.succ_mul]
    omega

section
variable {H : Type} {enc : TypeId × Value → H} {P : Program} {w : World} {base : Nat} {sp : Nat → Bool} {held : Bool}
/-- A slice whose elements have K cells: its rows, each read with less fuel. -/
theorem slice_items {t e : TypeId} {K fuel : Nat} {v : Value} {x : DataW H × List MemPlace} (ht : P.underlying t = some (.slice e)) (hK : P.cellsOf e = K) (hK0 : 0 < K) (h : DataW.trod enc P w base sp held fuel t [v] = some x) :
    ∃ (A : Option Addr) (n c : Nat) (cs : List (List Value)), v = .slice A n c ∧ n ≤ c ∧ c ≤ maxLen ∧ cs.length = n ∧ Row w (fun k => k < w.heap.size) A (n * K) cs.flatten ∧
      ∀ x ∈ cs, x.length = K ∧ ∃ m y, m < fuel ∧ DataW.trod enc P w base sp held m e x = some y := by
  rcases DataW.trod_slice ht h with ⟨hcs, _⟩ | ⟨a, len, cap, elems, rest, n, hfuel, hcs, _, hb, hl, hm, hlen, hel, _, _⟩
  · simp at hcs
    exact ⟨none, 0, 0, [], hcs, Nat.le_refl _, Nat.zero_le _, rfl, by simpa using Row.nil_, fun x hx => by cases hx⟩
  · simp at hcs
    subst hcs hK
    have key : ∀ i, i < len → ∃ cs', w.cells? base (a.add (i * P.cellsOf e)) (P.cellsOf e) = some cs' ∧ ∃ y, DataW.trod enc P w base sp held n e cs' = some y := fun i hi => by
      have h1 := hel i hi
      rw [List.getElem?_eq_getElem (by omega)] at h1
      obtain ⟨cs', h2, h3⟩ := Option.bind_eq_some_iff.1 h1
      exact ⟨cs', h2, _, h3⟩
    have hget : ∀ j, j < len → ((List.range len).map fun i => (w.cells? base (a.add (i * P.cellsOf e)) (P.cellsOf e)).getD [])[j]? = some ((w.cells? base (a.add (j * P.cellsOf e)) (P.cellsOf e)).getD []) := fun j hj => by
      rw [List.getElem?_map, List.getElem?_range hj]; rfl
    have hmem : ∀ x ∈ (List.range len).map fun i => (w.cells? base (a.add (i * P.cellsOf e)) (P.cellsOf e)).getD [], x.length = P.cellsOf e ∧ ∃ m y, m < fuel ∧ DataW.trod enc P w base sp held m e x = some y := by
      intro x hx
      obtain ⟨i, hi, rfl⟩ := List.mem_map.1 hx
      rw [List.mem_range] at hi
      obtain ⟨cs', h1, y, h2⟩ := key i hi
      rw [h1]
      exact ⟨(World.cells?_some h1).2.1, n, y, by omega, h2⟩
    refine ⟨some a, len, cap, (List.range len).map fun i => (w.cells? base (a.add (i * P.cellsOf e)) (P.cellsOf e)).getD [], rfl, hl, hm, by simp, ?_, hmem⟩
    refine row_of_cells (by rw [flatK_len fun x hx => (hmem x hx).1]; simp) fun p hp => ?_
    obtain ⟨i, r, hr, rfl⟩ : ∃ i r, r < P.cellsOf e ∧ p = i * P.cellsOf e + r := ⟨p / P.cellsOf e, p % P.cellsOf e, Nat.mod_lt _ hK0, by rw [Nat.mul_comm]; exact (Nat.div_add_mod p _).symm⟩
    have hi : i < len := by
      apply Classical.byContradiction
      intro hni
      have : len * P.cellsOf e ≤ i * P.cellsOf e := Nat.mul_le_mul_right _ (by omega)
      omega
    rw [flatK (fun x hx => (hmem x hx).1) (hget i hi) r hr]
    obtain ⟨cs', h1, _⟩ := key i hi
    rw [h1, ← Go.Deep.add_add]
    exact (World.cells?_some h1).2.2 r hr
end
section
variable {H : Type} {enc : TypeId × Value → H} {w : World} {base : Nat} {sp : Nat → Bool} {held : Bool}
theorem bs_list (s : ByteArray) : s = ⟨s.data.toList.toArray⟩ := by obtain ⟨⟨l⟩⟩ := s; rfl
set_option maxRecDepth 100000 in
theorem need_cells : ∀ (fuel : Nat) (cs : List Value) (x : DataW H × List MemPlace), DataW.trod enc Tryz.prog w base sp held fuel 46 cs = some x →
    ∃ y, RNd w (fun k => k < w.heap.size) cs y := by
  intro fuel
  induction fuel using Nat.strongRecOn with
  | _ fuel ih =>
    intro cs x h
    have hT := Tryz.underlying46
    obtain ⟨xs, n, hfu, _, hlen, hxl, hx⟩ := DataW.trod_struct hT h
    have hl : cs.length = 10 := by rw [hlen]; kernel_rfl
    obtain ⟨c0, n0, y0, e0, k0⟩ := field_cell hT h 0 rfl (by kernel_rfl) (of_decide_eq_true (by kernel_rfl))
    obtain ⟨c7, n7, y7, e7, k7⟩ := field_cell hT h 2 rfl (by kernel_rfl) (of_decide_eq_true (by kernel_rfl))
    obtain ⟨c8, n8, y8, e8, k8⟩ := field_cell hT h 3 rfl (by kernel_rfl) (of_decide_eq_true (by kernel_rfl))
    have h1 := hx 1 _ rfl
    have h4 := hx 4 _ rfl
    have hxs : xs.length = 5 := hxl
    rw [List.getElem?_eq_getElem (by omega)] at h1 h4
    obtain ⟨k, rfl, _⟩ := int_one Tryz.underlying3 k0
    obtain ⟨f, rfl, hf⟩ := str_one Tryz.underlying9 k7
    obtain ⟨no, rfl⟩ := bool_one_ Tryz.underlying4 k8
    obtain ⟨s, g, op, ver, slot, on, ea, hs, hg, _, _, _⟩ := atom_cells h1
    match cs, hl with
    | [d0, d1, d2, d3, d4, d5, d6, d7, d8, d9], _ =>
      have h4' : DataW.trod enc Tryz.prog w base sp held n 44 [d9] = some xs[4] := h4
      obtain ⟨A, m, c, rows, rfl, hnc, hc, hrl, hrow, hit⟩ := slice_items Tryz.underlying44 (K := 10) (by kernel_rfl) (by decide) h4'
      have e0' : d0 = .int .i64 k := by simpa using e0
      have e7' : d7 = .string f := by simpa using e7
      have e8' : d8 = .bool no := by simpa using e8
      have ea' : [d1, d2, d3, d4, d5, d6] = [.string s, .int .i64 op, .int .i64 ver, .int .i64 slot, .string g, .bool on] := ea
      simp only [List.cons.injEq, and_true] at ea'
      obtain ⟨rfl, rfl, rfl, rfl, rfl, rfl⟩ := ea'
      subst e0' e7' e8'
      have hkid : ∀ x ∈ rows, ∃ y, RNd w (fun k => k < w.heap.size) x y := fun x hx => by
        obtain ⟨_, m, y, hm, hy⟩ := hit x hx
        exact ih m (by omega) x y hy
      obtain ⟨ks, hkl, hks⟩ : ∃ ks : List Nd, ks.length = rows.length ∧ ∀ (j : Nat) (x : List Value) (y : Nd), rows[j]? = some x → ks[j]? = some y → RNd w (fun k => k < w.heap.size) x y := by
        clear hrow hit hrl
        induction rows with
        | nil => exact ⟨[], rfl, fun j x y h => by simp at h⟩
        | cons r rs ihr =>
          obtain ⟨y, hy⟩ := hkid r (List.mem_cons_self ..)
          obtain ⟨ks, h1, h2⟩ := ihr fun x hx => hkid x (List.mem_cons_of_mem _ hx)
          refine ⟨y :: ks, by simp [h1], fun j x' y' h3 h4 => ?_⟩
          cases j with
          | zero =>
            simp only [List.getElem?_cons_zero, Option.some.injEq] at h3 h4
            subst h3 h4; exact hy
          | succ j => rw [List.getElem?_cons_succ] at h3 h4; exact h2 j x' y' h3 h4
      refine ⟨.mk k ⟨s.data.toList, op, ver, slot, g.data.toList, on⟩ f.data.toList no ks, ?_⟩
      have hr := RNd.shut (w := w) (S := fun k => k < w.heap.size) (k := k) (a := ⟨s.data.toList, op, ver, slot, g.data.toList, on⟩) (f := f.data.toList) (no := no) (ks := ks) hnc hc (by rw [← Lib.size_eq]; exact hs) (by rw [← Lib.size_eq]; exact hg) (by rw [← Lib.size_eq]; exact hf) ⟨rows, by omega, hrl, hrow, hks⟩
      unfold ndRow at hr
      simp only [] at hr
      rw [← bs_list, ← bs_list, ← bs_list] at hr
      exact hr
set_option maxRecDepth 100000 in
/-- A need, by value. -/
theorem open_need {r : Reach} {b0 : Nat} {v : Value} {d : DataW H} {p : List MemPlace} (hv : Value.okWide Tryz.prog w r b0 46 v) (h : DataW.Trod enc Tryz.prog w base sp held 46 v d p) :
    ∃ (x : List Value) (y : Nd), v = .agg x.toArray ∧ RNd w (fun k => k < w.heap.size) x y := by
  obtain ⟨cs, rfl, _⟩ := okWide_struct Tryz.underlying46 hv
  obtain ⟨fuel, hf⟩ := h
  obtain ⟨y, hy⟩ := need_cells fuel _ _ hf
  refine ⟨cs.toList, y, by simp, ?_⟩
  simpa [Value.cells] using hy
end
end Go.Proofs.YtokibfankmjphaaGreatDoor

/- Arguments that can be read as trees, opened. -/
namespace Go.Proofs.YtokibfankmjphaaGreatDoor
open Go.ChangeShapes Go.WideShapes Go.ChangeAt Go.RowKit Qm

theorem rows_of {α : Type} {R : List Value → α → Prop} : ∀ {rows : List (List Value)}, (∀ x ∈ rows, ∃ y, R x y) → ∃ ys : List α, ys.length = rows.length ∧ ∀ (j : Nat) (x : List Value) (y : α), rows[j]? = some x → ys[j]? = some y → R x y
  | [], _ => ⟨[], rfl, fun j x y h => by simp at h⟩
  | r :: rs, h => by
    obtain ⟨y, hy⟩ := h r (List.mem_cons_self ..)
    obtain ⟨ks, h1, h2⟩ := rows_of (rows := rs) fun x hx => h x (List.mem_cons_of_mem _ hx)
    refine ⟨y :: ks, by simp [h1], fun j x' y' h3 h4 => ?_⟩
    cases j with
    | zero =>
      simp only [List.getElem?_cons_zero, Option.some.injEq] at h3 h4
      subst h3 h4; exact hy
    | succ j => rw [List.getElem?_cons_succ] at h3 h4; exact h2 j x' y' h3 h4
theorem strs_flat : ∀ {cs : List (List Value)} {ys : List Qm.W}, cs.length = ys.length → (∀ (j : Nat) (x : List Value) (y : Qm.W), cs[j]? = some x → ys[j]? = some y → x = [.string ⟨y.toArray⟩]) → cs.flatten = strs ys
  | [], [], _, _ => rfl
  | [], _ :: _, h, _ => by simp at h
  | _ :: _, [], h, _ => by simp at h
  | r :: rs, y :: ys, h, hR => by
    rw [List.flatten_cons, hR 0 r y rfl rfl, strs_flat (cs := rs) (ys := ys) (by simpa using h) fun j x z h1 h2 => hR (j + 1) x z (by simpa using h1) (by simpa using h2)]; rfl
section
variable {H : Type} {enc : TypeId × Value → H} {w : World} {base : Nat} {sp : Nat → Bool} {held : Bool}
/-- A slice of structs, each of which opens. -/
theorem open_seq {α : Type} {R : List Value → α → Prop} {t e : TypeId} {K fuel : Nat} {v : Value} {x : DataW H × List MemPlace} (ht : Tryz.prog.underlying t = some (.slice e)) (hK : Tryz.prog.cellsOf e = K) (hK0 : 0 < K)
    (h : DataW.trod enc Tryz.prog w base sp held fuel t [v] = some x) (hR : ∀ m (x : List Value) y, m < fuel → DataW.trod enc Tryz.prog w base sp held m e x = some y → ∃ z, R x z) :
    ∃ (A : Option Addr) (n c : Nat) (ys : List α), v = .slice A n c ∧ n ≤ c ∧ c ≤ maxLen ∧ RSeq K R w (fun k => k < w.heap.size) A n ys := by
  obtain ⟨A, n, c, cs, rfl, h1, h2, h3, h4, h5⟩ := slice_items ht hK hK0 h
  obtain ⟨ys, k1, k2⟩ := rows_of (R := R) (rows := cs) fun x hx => by
    obtain ⟨_, m, y, hm, hy⟩ := h5 x hx
    exact hR m x y hm hy
  exact ⟨A, n, c, ys, rfl, h1, h2, cs, by omega, h3, h4, fun x hx => (h5 x hx).1, k2⟩
theorem open_words {fuel : Nat} {v : Value} {x : DataW H × List MemPlace} (h : DataW.trod enc Tryz.prog w base sp held fuel 41 [v] = some x) :
    ∃ (A : Option Addr) (n c : Nat) (fs : List Qm.W), v = .slice A n c ∧ n ≤ c ∧ c ≤ maxLen ∧ RWords w (fun k => k < w.heap.size) A n fs := by
  obtain ⟨A, n, c, ys, rfl, h1, h2, cs, hy, hc, hrow, hK, hR⟩ := open_seq (R := fun x (f : Qm.W) => x = [.string ⟨f.toArray⟩] ∧ f.length ≤ maxLen) Tryz.underlying41 (K := 1) (by kernel_rfl) (by decide) h fun m x y _ hxy => by
    obtain ⟨s, e, _, hs⟩ := DataW.trod_string Tryz.underlying9 hxy
    exact ⟨s.data.toList, by rw [e, ← bs_list], by rw [← Lib.size_eq]; exact hs⟩
  refine ⟨A, n, c, ys, rfl, h1, h2, ?_, fun f hf => ?_⟩
  · have e : cs.flatten = strs ys := strs_flat (by omega) fun j x y h1 h2 => (hR j x y h1 h2).1
    rw [← e]
    simpa using hrow
  · obtain ⟨j, hj, rfl⟩ := List.mem_iff_getElem.1 hf
    exact (hR j (cs[j]'(by omega)) _ (List.getElem?_eq_getElem (by omega)) (List.getElem?_eq_getElem hj)).2
set_option maxRecDepth 100000 in
theorem package_cells {fuel : Nat} {cs : List Value} {x : DataW H × List MemPlace} (h : DataW.trod enc Tryz.prog w base sp held fuel 48 cs = some x) :
    ∃ p, RPk w (fun k => k < w.heap.size) cs p := by
  have hT := Tryz.underlying48
  obtain ⟨xs, n, hfu, _, hlen, hxl, hx⟩ := DataW.trod_struct hT h
  have hl : cs.length = 14 := by rw [hlen]; kernel_rfl
  obtain ⟨c0, n0, y0, e0, k0⟩ := field_cell hT h 0 rfl (by kernel_rfl) (of_decide_eq_true (by kernel_rfl))
  obtain ⟨c1, n1, y1, e1, k1⟩ := field_cell hT h 1 rfl (by kernel_rfl) (of_decide_eq_true (by kernel_rfl))
  obtain ⟨c2, n2, y2, e2, k2⟩ := field_cell hT h 2 rfl (by kernel_rfl) (of_decide_eq_true (by kernel_rfl))
  obtain ⟨c3, n3, y3, e3, k3⟩ := field_cell hT h 3 rfl (by kernel_rfl) (of_decide_eq_true (by kernel_rfl))
  have h4 := hx 4 _ rfl
  have hxs : xs.length = 5 := hxl
  rw [List.getElem?_eq_getElem (by omega)] at h4
  obtain ⟨s, rfl, hs⟩ := str_one Tryz.underlying9 k0
  obtain ⟨ver, rfl, _⟩ := int_one Tryz.underlying3 k1
  obtain ⟨slot, rfl, _⟩ := int_one Tryz.underlying3 k2
  obtain ⟨A, m, c, fs, rfl, hm, hc, hfs⟩ := open_words k3
  obtain ⟨nd, hnd⟩ := need_cells _ _ _ h4
  refine ⟨⟨s.data.toList, ver, slot, fs, nd⟩, A, m, c, (cs.drop 4).take 10, ?_, hm, hc, by rw [← Lib.size_eq]; exact hs, hfs, hnd⟩
  match cs, hl with
  | [d0, d1, d2, d3, d4, d5, d6, d7, d8, d9, d10, d11, d12, d13], _ =>
    have e0' : d0 = .string s := by simpa using e0
    have e1' : d1 = .int .i64 ver := by simpa using e1
    have e2' : d2 = .int .i64 slot := by simpa using e2
    have e3' : d3 = .slice A m c := by simpa using e3
    subst e0' e1' e2' e3'
    simp [pkRow, ← bs_list]
set_option maxRecDepth 100000 in
theorem tree_cells {fuel : Nat} {cs : List Value} {x : DataW H × List MemPlace} (h : DataW.trod enc Tryz.prog w base sp held fuel 24 cs = some x) :
    ∃ (A : Option Addr) (n c : Nat) (ps : List Pk), cs = [.slice A n c] ∧ n ≤ c ∧ c ≤ maxLen ∧ RTree w (fun k => k < w.heap.size) A n ps := by
  have hT := Tryz.underlying24
  obtain ⟨xs, n, hfu, _, hlen, hxl, hx⟩ := DataW.trod_struct hT h
  have hl : cs.length = 1 := by rw [hlen]; kernel_rfl
  obtain ⟨c0, n0, y0, e0, k0⟩ := field_cell hT h 0 rfl (by kernel_rfl) (of_decide_eq_true (by kernel_rfl))
  obtain ⟨A, m, c, ps, rfl, hm, hc, hps⟩ := open_seq (R := RPk w (fun k => k < w.heap.size)) Tryz.underlying22 (K := 14) (by kernel_rfl) (by decide) k0 fun m x y _ hxy => package_cells hxy
  refine ⟨A, m, c, ps, ?_, hm, hc, hps⟩
  match cs, hl with
  | [d0], _ => simp at e0; rw [e0]
set_option maxRecDepth 100000 in
/-- A tree, by value. -/
theorem open_tree {r : Reach} {b0 : Nat} {v : Value} {d : DataW H} {p : List MemPlace} (hv : Value.okWide Tryz.prog w r b0 24 v) (h : DataW.Trod enc Tryz.prog w base sp held 24 v d p) :
    ∃ (A : Option Addr) (n c : Nat) (ps : List Pk), v = .agg #[.slice A n c] ∧ n ≤ c ∧ c ≤ maxLen ∧ RTree w (fun k => k < w.heap.size) A n ps := by
  obtain ⟨cs, rfl, _⟩ := okWide_struct Tryz.underlying24 hv
  obtain ⟨fuel, hf⟩ := h
  obtain ⟨A, n, c, ps, e, h1, h2, h3⟩ := tree_cells hf
  refine ⟨A, n, c, ps, ?_, h1, h2, h3⟩
  obtain ⟨l⟩ := cs
  simp only [Value.cells] at e
  subst e
  rfl
end
end Go.Proofs.YtokibfankmjphaaGreatDoor
