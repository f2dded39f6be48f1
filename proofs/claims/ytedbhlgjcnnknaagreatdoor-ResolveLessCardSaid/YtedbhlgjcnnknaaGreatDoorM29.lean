/- Parts of the proof: walks and plain laws, side by side. -/
import Derived.Test.YtedbhlgjcnnknaaGreatDoorM28
import Derived.Test.YtedbhlgjcnnknaaGreatDoorM27
import Derived.Test.YtedbhlgjcnnknaaGreatDoorM26
import Derived.Test.YtedbhlgjcnnknaaGreatDoorM1
import Derived.Test.YtedbhlgjcnnknaaGreatDoorProg
import Derived.Test.YtedbhlgjcnnknaaGreatDoorM19
import Derived.Deep.RegionHeld3
import Derived.Laws.EntriesVeiled
import Derived.Test.YtedbhlgjcnnknaaGreatDoorM22
import Derived.Test.YtedbhlgjcnnknaaGreatDoorM6
import Derived.Test.YtedbhlgjcnnknaaGreatDoorShelf
import Derived.Test.YtedbhlgjcnnknaaGreatDoorM23
import Derived.Test.YtedbhlgjcnnknaaGreatDoorM17
import Derived.Test.YtedbhlgjcnnknaaGreatDoorM5
import Derived.Test.YtedbhlgjcnnknaaGreatDoorM20
import Derived.Test.YtedbhlgjcnnknaaGreatDoorM18
import Derived.Test.YtedbhlgjcnnknaaGreatDoorM7
import Derived.Maps.AppendAt
import Derived.Lib.SliceRun
import Derived.Deep.DeepCutAuto
import Derived.WalkSpells
import Derived.WalkLawsBesides
import Derived.Laws.IdiomCopy
import Derived.Deep.RegionLaw
set_option linter.unusedVariables false
set_option linter.unusedSimpArgs false
set_option linter.unusedSectionVars false
namespace Go.Proofs.YtedbhlgjcnnknaaGreatDoor
/- quartermasterlaw.resolved, walked: it returns true. -/
section
open Go.RowKit Qm

structure Re (w : World) (T : Nat) (A : Option Addr) (c : Nat) (ab : Nat) (ta : At) (KA : Option Addr) (kn : Nat) (ks : List Int) (wx : World) : Prop where
 t : RTree wx (fun i => i < T) A 4 smallT
 tb : Whole wx T 24 [.slice A 4 c]
 a : Whole wx ab 75 (atRow ta)
 m : Whole wx (T + 1 + 1) 85 [.int .i64 3, .slice none 0 0]
 v : Whole wx (T + 1 + 1 + 1) 30 [.slice (some ⟨ab, 0, none⟩) 1 1, .slice (some ⟨T + 1 + 1, 0, none⟩) 1 1, .slice KA kn kn, .slice none 0 0]
 k : RInts wx (fun i => T + 1 + 1 + 1 < i ∧ i < wx.heap.size) KA kn ks
 ok : (ta.nm.length ≤ maxLen ∧ ta.fl.length ≤ maxLen) ∧ kn ≤ maxLen ∧ ab ≠ T + 1 + 1 + 1
 bel : Below w.heap.size w wx
 hT : w.heap.size ≤ T
section
variable {w : World} {T : Nat} {A : Option Addr} {c : Nat} {ab : Nat} {ta : At} {KA : Option Addr} {kn : Nat} {ks : List Int} {wx wy : World}
theorem Re.move (h : Re w T A c ab ta KA kn ks wx) (hb : Below wx.heap.size wx wy) : Re w T A c ab ta KA kn ks wy :=
 ⟨h.t.under hb (fun k hk => Nat.lt_trans hk h.tb.lt), h.tb.below hb h.tb.lt, h.a.below hb h.a.lt, h.m.below hb h.m.lt, h.v.below hb h.v.lt, (h.k.below hb fun k hk => hk.2).more fun k hk => ⟨hk.1, ql hk.2 hb.size⟩, h.ok, h.bel.trans (hb.mono h.bel.size), h.hT⟩
theorem Re.ws (h : Re w T A c ab ta KA kn ks wx) : WsAt wx (fun i => i < wx.heap.size) (some ⟨ab, 0, none⟩) 1 1 (some ⟨T + 1 + 1, 0, none⟩) 1 1 KA kn kn none 0 0 ⟨[ta], [⟨3, []⟩], ks, []⟩ :=
 ⟨⟨by decide, by decide⟩, ⟨by decide, by decide⟩, ⟨qr _, h.ok.2.1⟩, ⟨by decide, by decide⟩,
  RSeq.whole [atRow ta] [ta] h.a rfl rfl (fun x hx => by simp at hx; subst hx; rfl) (fun j x y h1 h2 => by
   match j with
   | 0 => simp at h1 h2; subst h1 h2; exact ⟨rfl, h.ok.1.1, h.ok.1.2⟩
   | j + 1 => simp at h1) h.a.lt,
  RSeq.whole (α := Mem) (K := 2) (R := RMem wx (fun i => i < wx.heap.size)) (n := 1) [[.int .i64 3, .slice none 0 0]] [⟨3, []⟩] h.m rfl rfl (fun x hx => by simp at hx; subst hx; rfl) (fun j u y g1 g2 => by
   match j with
   | 0 => simp at g1 g2; subst g1 g2; exact ⟨_, _, _, rfl, by decide, by decide, Row.nil_⟩
   | j + 1 => simp at g1) h.m.lt, h.k.more fun k hk => hk.2, RSeq.nil_⟩
theorem Re.tr (h : Re w T A c ab ta KA kn ks wx) : RTree wx (fun i => i < wx.heap.size) A 4 smallT := h.t.more fun k hk => Nat.lt_trans hk h.tb.lt
theorem Re.res (h : Re w T A c ab ta KA kn ks wx) (hc : 4 ≤ c ∧ c ≤ maxLen) : Calls Tryz.prog 27 #[.agg #[.slice A 4 c], .agg #[.slice (some ⟨ab, 0, none⟩) 1 1, .slice (some ⟨T + 1 + 1, 0, none⟩) 1 1, .slice KA kn kn, .slice none 0 0], .int .i64 40000] wx (ResolveP smallT ⟨[ta], [⟨3, []⟩], ks, []⟩ 40000 wx) :=
 resolve_any smallT ⟨[ta], [⟨3, []⟩], ks, []⟩ 40000 (fun i => i < wx.heap.size) A 4 c _ _ _ _ 1 1 1 1 kn kn 0 0 wx h.tr hc.1 hc.2 h.ws (fun _ h => h) (by decide) (by decide)
theorem Re.unm (h : Re w T A c ab ta KA kn ks wx) (hc : 4 ≤ c ∧ c ≤ maxLen) : Calls Tryz.prog 28 #[.agg #[.slice A 4 c], .agg #[.slice (some ⟨ab, 0, none⟩) 1 1, .slice (some ⟨T + 1 + 1, 0, none⟩) 1 1, .slice KA kn kn, .slice none 0 0], .int .i64 40000] wx (UnmaskP smallT ⟨[ta], [⟨3, []⟩], ks, []⟩ wx) :=
 unmask_any smallT ⟨[ta], [⟨3, []⟩], ks, []⟩ (fun i => i < wx.heap.size) A 4 c _ _ _ _ 1 1 1 1 kn kn 0 0 wx h.tr hc.1 hc.2 h.ws (fun _ h => h)
theorem size_set (w : World) (p : Addr) (u : Value) : (w.setCell p u).heap.size = w.heap.size := by simp [World.setCell]
theorem Re.target (h : Re w T A c ab ta KA kn ks wx) {tb : At} (ht : tb.nm.length ≤ maxLen ∧ tb.fl.length ≤ maxLen) :
  Re w T A c wx.heap.size tb KA kn ks ((wx.setCell ⟨T + 1 + 1 + 1, 0, none⟩ (.slice (some ⟨wx.heap.size, 0, none⟩) 1 1)).alloc (.cells (atRow tb).toArray 75)) := by
 have hsz := size_set wx ⟨T + 1 + 1 + 1, 0, none⟩ (.slice (some ⟨wx.heap.size, 0, none⟩) 1 1)
 have far : Far (fun i => i = T + 1 + 1 + 1) wx ((wx.setCell ⟨T + 1 + 1 + 1, 0, none⟩ (.slice (some ⟨wx.heap.size, 0, none⟩) 1 1)).alloc (.cells (atRow tb).toArray 75)) :=
  (Far.set_ (D := fun i => i = T + 1 + 1 + 1) rfl 0 _).trans (Far.of_below _ ((Below.refl _ _).alloc (qr _) _)) fun _ _ h => h
 have hTl := h.tb.lt
 have hvl := h.v.lt
 refine ⟨h.t.keep fun p hp => far.cell (by omega) (by show ¬ (p.block = T + 1 + 1 + 1); omega), far.whole h.tb (by show ¬ (T = T + 1 + 1 + 1); omega), Whole.new _ wx.heap.size 75 (atRow tb) hsz.symm, far.whole h.m (by show ¬ (T + 1 + 1 = T + 1 + 1 + 1); omega), (h.v.set_ 0 (.slice (some ⟨wx.heap.size, 0, none⟩) 1 1)).alloc _, ?_, ⟨ht, h.ok.2.1, by omega⟩, (h.bel.setCell (p := ⟨T + 1 + 1 + 1, 0, none⟩) (by show w.heap.size ≤ T + 1 + 1 + 1; have := h.hT; omega) _).alloc (by rw [hsz]; exact h.bel.size) _, h.hT⟩
 exact (far.ints h.k fun i hi => ⟨hi.2, by show ¬ (i = T + 1 + 1 + 1); omega⟩).more fun i hi => ⟨hi.1, ql hi.2 far.size⟩
theorem Re.masked (h : Re w T A c ab ta KA kn ks wx) {xs : List Int} {n : Nat} (hn : xs.length = n) (hm : n ≤ maxLen) :
  Re w T A c ab ta (some ⟨wx.heap.size, 0, none⟩) n xs ((wx.setCell ⟨T + 1 + 1 + 1, 2, none⟩ (.slice (some ⟨wx.heap.size, 0, none⟩) n n)).alloc (.cells (xs.map (Value.int .i64)).toArray 3)) := by
 have hsz := size_set wx ⟨T + 1 + 1 + 1, 2, none⟩ (.slice (some ⟨wx.heap.size, 0, none⟩) n n)
 have far : Far (fun i => i = T + 1 + 1 + 1) wx ((wx.setCell ⟨T + 1 + 1 + 1, 2, none⟩ (.slice (some ⟨wx.heap.size, 0, none⟩) n n)).alloc (.cells (xs.map (Value.int .i64)).toArray 3)) :=
  (Far.set_ (D := fun i => i = T + 1 + 1 + 1) rfl 2 _).trans (Far.of_below _ ((Below.refl _ _).alloc (qr _) _)) fun _ _ h => h
 have hTl := h.tb.lt
 have hvl := h.v.lt
 have hw := Whole.new (wx.setCell ⟨T + 1 + 1 + 1, 2, none⟩ (.slice (some ⟨wx.heap.size, 0, none⟩) n n)) wx.heap.size 3 (xs.map (Value.int .i64)) hsz.symm
 exact ⟨h.t.keep fun p hp => far.cell (by omega) (by show ¬ (p.block = T + 1 + 1 + 1); omega), far.whole h.tb (by show ¬ (T = T + 1 + 1 + 1); omega), far.whole h.a (by show ¬ (ab = T + 1 + 1 + 1); exact h.ok.2.2), far.whole h.m (by show ¬ (T + 1 + 1 = T + 1 + 1 + 1); omega), (h.v.set_ 2 (.slice (some ⟨wx.heap.size, 0, none⟩) n n)).alloc _, hw.ints (xs := xs) ⟨by omega, hw.lt⟩ hn, ⟨h.ok.1, hm, h.ok.2.2⟩, (h.bel.setCell (p := ⟨T + 1 + 1 + 1, 2, none⟩) (by show w.heap.size ≤ T + 1 + 1 + 1; have := h.hT; omega) _).alloc (by rw [hsz]; exact h.bel.size) _, h.hT⟩
theorem set_far {B : Option Addr} {n : Nat} {l : List Mem} (h : RSet wx (fun k => T + 1 + 1 + 1 < k ∧ k < wx.heap.size) B n l) (F : Far (fun i => i = T + 1 + 1 + 1) wx wy) : RSet wy (fun k => T + 1 + 1 + 1 < k ∧ k < wy.heap.size) B n l :=
 RSet.more (fun k hk => ⟨hk.1, ql hk.2 F.size⟩) (RSet.keep h fun p hp => F.cell hp.2 (by show ¬ (p.block = T + 1 + 1 + 1); omega))
end
theorem set_two {wx : World} {b b2 : Nat} {t t2 : TypeId} {x : Bool} {p q : Int} (h1 : Whole wx b t [.bool x]) (h2 : Whole wx b2 t2 [.int .i64 p, .slice (some ⟨b, 0, none⟩) 1 1, .int .i64 q, .slice none 0 0]) : RSet wx (fun i => i < wx.heap.size) (some ⟨b2, 0, none⟩) 2 [⟨p, [x]⟩, ⟨q, []⟩] :=
 RSeq.whole (α := Mem) (K := 2) (R := RMem wx (fun i => i < wx.heap.size)) (n := 2) [[.int .i64 p, .slice (some ⟨b, 0, none⟩) 1 1], [.int .i64 q, .slice none 0 0]] [⟨p, [x]⟩, ⟨q, []⟩] h2 rfl rfl (fun x hx => by simp at hx; rcases hx with rfl | rfl <;> rfl) (fun j u y g1 g2 => by
   match j with
   | 0 => simp at g1 g2; subst g1 g2; exact ⟨_, _, _, rfl, by decide, by decide, h1.bools (xs := [x]) h1.lt rfl⟩
   | 1 => simp at g1 g2; subst g1 g2; exact ⟨_, _, _, rfl, by decide, by decide, Row.nil_⟩
   | j + 2 => simp at g1) h2.lt
set_option maxRecDepth 100000 in
set_option maxHeartbeats 6400000 in
theorem resolved_any (w : World) (hL : LaidV w) (hM : MaxW w) :
  Calls Tryz.prog 29 #[] w fun e w' => e = .returned (.bool true) ∧ Below w.heap.size w w' := by
 have Hsm := qh (small_any w hL hM)
 unfold SmallPost at Hsm
 clear hL hM
 go_enter Tryz.func29, Tryz.ntmps29
 go_upto_region 3 with (first | (go_at_call 51; refine Hsm.out.mono ?_; rintro e w1 ⟨A, c, rfl, hT, hc1, hc2, hb1⟩; refine Hid.out ?_))
 refine qh ?_
 go_upto_region 3 with fail
 have h1 := Whole.new w1 w1.heap.size 24 [.slice A 4 c] rfl
 have h2 := Whole.new (w1.alloc (.cells #[.slice A 4 c] 24)) (w1.heap.size + 1) 75 (atRow atR1) (by simp)
 have h3 := Whole.new ((w1.alloc (.cells #[.slice A 4 c] 24)).alloc (.cells (atRow atR1).toArray 75)) (w1.heap.size + 1 + 1) 85 [.int .i64 3, .slice none 0 0] (by simp)
 have h4 := Whole.new (((w1.alloc (.cells #[.slice A 4 c] 24)).alloc (.cells (atRow atR1).toArray 75)).alloc (.cells #[.int .i64 3, .slice none 0 0] 85)) (w1.heap.size + 1 + 1 + 1) 30 [.slice (some ⟨w1.heap.size + 1, 0, none⟩) 1 1, .slice (some ⟨w1.heap.size + 1 + 1, 0, none⟩) 1 1, .slice none 0 0, .slice none 0 0] (by simp)
 have hbl : Below w1.heap.size w1 ((((w1.alloc (.cells #[.slice A 4 c] 24)).alloc (.cells (atRow atR1).toArray 75)).alloc (.cells #[.int .i64 3, .slice none 0 0] 85)).alloc (.cells #[.slice (some ⟨w1.heap.size + 1, 0, none⟩) 1 1, .slice (some ⟨w1.heap.size + 1 + 1, 0, none⟩) 1 1, .slice none 0 0, .slice none 0 0] 30)) := ((((Below.refl _ w1).alloc (qr _) _).alloc (by simp) _).alloc (by simp; omega) _).alloc (by simp; omega) _
 have Y3 : Hid (Re w w1.heap.size A c (w1.heap.size + 1) atR1 none 0 [] _) := qh ⟨(hT.under hbl fun k hk => hk.2).more fun k hk => hk.2, ((h1.alloc _).alloc _).alloc _, (h2.alloc _).alloc _, h3.alloc _, h4, RInts.nil_, ⟨⟨by decide, by decide⟩, Nat.zero_le _, by omega⟩, hb1.trans (hbl.mono hb1.size), hb1.size⟩
 rw [show (atRow atR1).toArray = (#[.string ⟨#[97]⟩, .int .i64 0, .int .i64 0, .int .i64 0, .string ⟨#[]⟩, .bool false] : Array Value) from rfl] at Y3
 clear h1 h2 h3 h4 hbl hT hb1
 generalize w1.heap.size = T at Y3 ⊢
 generalize World.alloc (World.alloc (World.alloc (World.alloc w1 _) _) _) _ = w3 at Y3 ⊢
 have HR3 : Hid (Calls Tryz.prog 27 _ w3 (ResolveP smallT wsR1 40000 w3)) := qh (Y3.out.res ⟨hc1, hc2⟩)
 have t0 := Y3.out.tb.cell 0
 have v0 := Y3.out.v.cell 0; have v1 := Y3.out.v.cell 1; have v2 := Y3.out.v.cell 2; have v3 := Y3.out.v.cell 3
 have y0 := Y3.out.v.free 0; have y2 := Y3.out.v.free 2
 simp only [qgz, qgs] at t0 v0 v1 v2 v3
 have vlt := Y3.out.v.lt
 have tlt := Y3.out.tb.lt
 go_upto_region 4 with (first | (go_at_call 27; refine HR3.out.mono ?_; rintro e w5 ⟨Aa, na, ca, Ba, ka, da, rfl, hSa, ha1, ha2, -, -, -, hb5⟩; rw [res_R1.1]; refine Hid.out ?_))
 refine qh ?_
 rw [res_R1.2] at hSa
 obtain rfl : 2 = na := hSa.len
 have Y5 := qh (Y3.out.move hb5)
 have hvl3 := Y3.out.v.lt
 have SA5 := qh (hSa.more (S' := fun k => T + 1 + 1 + 1 < k ∧ k < w5.heap.size) fun k hk => ⟨by omega, hk.2⟩)
 clear t0 v0 v1 v2 v3 y0 y2 vlt tlt HR3 Y3 hb5 hSa hvl3
 have t0 := Y5.out.tb.cell 0
 have v0 := Y5.out.v.cell 0; have v1 := Y5.out.v.cell 1; have v2 := Y5.out.v.cell 2; have v3 := Y5.out.v.cell 3
 have y0 := Y5.out.v.free 0; have y2 := Y5.out.v.free 2
 simp only [qgz, qgs] at t0 v0 v1 v2 v3
 have vlt := Y5.out.v.lt
 have tlt := Y5.out.tb.lt
 go_upto_region 5 with fail
 have Y6 := Y5.out.target (tb := atR2) ⟨by decide, by decide⟩
 have F6 : Far (fun i => i = T + 1 + 1 + 1) w5 ((w5.setCell ⟨T + 1 + 1 + 1, 0, none⟩ (.slice (some ⟨w5.heap.size, 0, none⟩) 1 1)).alloc (.cells (atRow atR2).toArray 75)) :=
  (Far.set_ (D := fun i => i = T + 1 + 1 + 1) rfl 0 _).trans (Far.of_below _ ((Below.refl _ _).alloc (qr _) _)) fun _ _ h => h
 have Y6 := qh Y6
 have F6 := qh F6
 rw [show (atRow atR2).toArray = (#[.string ⟨#[97]⟩, .int .i64 0, .int .i64 0, .int .i64 0, .string ⟨#[120]⟩, .bool true] : Array Value) from rfl] at Y6 F6
 have SA6 := qh (set_far SA5.out F6.out)
 clear t0 v0 v1 v2 v3 y0 y2 vlt tlt F6 SA5 Y5
 generalize World.alloc (World.setCell w5 _ _) _ = w6 at Y6 SA6 ⊢
 generalize w5.heap.size = ab at Y6 ⊢
 have HR6 : Hid (Calls Tryz.prog 27 _ w6 (ResolveP smallT wsR2 40000 w6)) := qh (Y6.out.res ⟨hc1, hc2⟩)
 have t0 := Y6.out.tb.cell 0
 have v0 := Y6.out.v.cell 0; have v1 := Y6.out.v.cell 1; have v2 := Y6.out.v.cell 2; have v3 := Y6.out.v.cell 3
 have y0 := Y6.out.v.free 0; have y2 := Y6.out.v.free 2
 simp only [qgz, qgs] at t0 v0 v1 v2 v3
 have vlt := Y6.out.v.lt
 have tlt := Y6.out.tb.lt
 go_upto_region 6 with (first | (go_at_call 27; refine HR6.out.mono ?_; rintro e w7 ⟨Ab, nb, cb, Bb, kb, db, rfl, hSb, hb1, hb2, -, -, -, hb7⟩; rw [res_R2.1]; refine Hid.out ?_))
 refine qh ?_
 rw [res_R2.2] at hSb
 obtain rfl : 2 = nb := hSb.len
 have Y7 := qh (Y6.out.move hb7)
 have hvl6 := Y6.out.v.lt
 have SA7 := qh ((SA6.out.under hb7 fun k hk => hk.2).more (S' := fun k => T + 1 + 1 + 1 < k ∧ k < w7.heap.size) fun k hk => ⟨hk.1, ql hk.2 hb7.size⟩)
 have SB7 := qh (hSb.more (S' := fun k => T + 1 + 1 + 1 < k ∧ k < w7.heap.size) fun k hk => ⟨by omega, hk.2⟩)
 clear t0 v0 v1 v2 v3 y0 y2 vlt tlt HR6 Y6 hb7 hSb hvl6 SA6
 have t0 := Y7.out.tb.cell 0
 have v0 := Y7.out.v.cell 0; have v1 := Y7.out.v.cell 1; have v2 := Y7.out.v.cell 2; have v3 := Y7.out.v.cell 3
 have y0 := Y7.out.v.free 0; have y2 := Y7.out.v.free 2
 simp only [qgz, qgs] at t0 v0 v1 v2 v3
 have vlt := Y7.out.v.lt
 have tlt := Y7.out.tb.lt
 go_upto_region 7 with fail
 have Y8 := qh (Y7.out.masked (xs := [0, 2]) (n := 2) rfl (by decide))
 have F8 : Hid (Far (fun i => i = T + 1 + 1 + 1) w7 ((w7.setCell ⟨T + 1 + 1 + 1, 2, none⟩ (.slice (some ⟨w7.heap.size, 0, none⟩) 2 2)).alloc (.cells (([0, 2] : List Int).map (Value.int .i64)).toArray 3))) :=
  qh ((Far.set_ (D := fun i => i = T + 1 + 1 + 1) rfl 2 _).trans (Far.of_below _ ((Below.refl _ _).alloc (qr _) _)) fun _ _ h => h)
 rw [show (([0, 2] : List Int).map (Value.int .i64)).toArray = (#[.int .i64 0, .int .i64 2] : Array Value) from rfl] at Y8 F8
 have SA8 := qh (set_far SA7.out F8.out)
 have SB8 := qh (set_far SB7.out F8.out)
 clear t0 v0 v1 v2 v3 y0 y2 vlt tlt F8 SA7 SB7 Y7
 generalize World.alloc (World.setCell w7 _ _) _ = w8 at Y8 SA8 SB8 ⊢
 generalize w7.heap.size = kb2 at Y8 ⊢
 have HR8 : Hid (Calls Tryz.prog 27 _ w8 (ResolveP smallT wsR3 40000 w8)) := qh (Y8.out.res ⟨hc1, hc2⟩)
 have t0 := Y8.out.tb.cell 0
 have v0 := Y8.out.v.cell 0; have v1 := Y8.out.v.cell 1; have v2 := Y8.out.v.cell 2; have v3 := Y8.out.v.cell 3
 have y0 := Y8.out.v.free 0; have y2 := Y8.out.v.free 2
 simp only [qgz, qgs] at t0 v0 v1 v2 v3
 have vlt := Y8.out.v.lt
 have tlt := Y8.out.tb.lt
 go_upto_region 8 with (first | (go_at_call 27; refine HR8.out.mono ?_; rintro e w9 ⟨Ac, nc, cc, Bc, kc, dc, rfl, -, -, -, hPc, -, -, hb9⟩; rw [res_R3]; refine Hid.out ?_))
 refine qh ?_
 have Y9 := qh (Y8.out.move hb9)
 have hkc : 0 < kc := by have := prf_R3; rw [hPc.len] at this; exact this
 have SA9 := qh ((SA8.out.under hb9 fun k hk => hk.2).more (S' := fun k => k < w9.heap.size) fun k hk => ql hk.2 hb9.size)
 have SB9 := qh ((SB8.out.under hb9 fun k hk => hk.2).more (S' := fun k => k < w9.heap.size) fun k hk => ql hk.2 hb9.size)
 clear t0 v0 v1 v2 v3 y0 y2 vlt tlt HR8 Y8 hb9 hPc SA8 SB8
 have HU9 : Hid (Calls Tryz.prog 28 _ w9 (UnmaskP smallT wsR3 w9)) := qh (Y9.out.unm ⟨hc1, hc2⟩)
 have t0 := Y9.out.tb.cell 0
 have v0 := Y9.out.v.cell 0; have v1 := Y9.out.v.cell 1; have v2 := Y9.out.v.cell 2; have v3 := Y9.out.v.cell 3
 have y0 := Y9.out.v.free 0; have y2 := Y9.out.v.free 2
 simp only [qgz, qgs] at t0 v0 v1 v2 v3
 have vlt := Y9.out.v.lt
 have tlt := Y9.out.tb.lt
 go_upto_region 9 with (first | (go_at_call 28; refine HU9.out.mono ?_; rintro e w10 ⟨Ad, nd, cd, rfl, hId, hd1, hd2, hb10⟩; rw [unm_R3.1]; refine Hid.out ?_))
 refine qh ?_
 rw [unm_R3.2] at hId
 obtain rfl : 1 = nd := hId.len
 have B10 := qh (Y9.out.bel.trans (hb10.mono Y9.out.bel.size))
 have SA10 := qh ((SA9.out.under hb10 fun k hk => hk).more (S' := fun k => k < w10.heap.size) fun k hk => ql hk hb10.size)
 have SB10 := qh ((SB9.out.under hb10 fun k hk => hk).more (S' := fun k => k < w10.heap.size) fun k hk => ql hk hb10.size)
 have ID10 := qh (hId.more (S' := fun k => k < w10.heap.size) fun k hk => hk.2)
 have hkc1 : (0 : Int) < kc := by omega
 clear t0 v0 v1 v2 v3 y0 y2 vlt tlt HU9 Y9 hb10 hId SA9 SB9
 have hW1 := Whole.new w10 w10.heap.size 4 [.bool false] rfl
 have hW2 := Whole.new (w10.alloc (.cells #[.bool false] 4)) (w10.heap.size + 1) 85 [.int .i64 1, .slice (some ⟨w10.heap.size, 0, none⟩) 1 1, .int .i64 3, .slice none 0 0] (by simp)
 have hbx : Below w10.heap.size w10 ((w10.alloc (.cells #[.bool false] 4)).alloc (.cells #[.int .i64 1, .slice (some ⟨w10.heap.size, 0, none⟩) 1 1, .int .i64 3, .slice none 0 0] 85)) := ((Below.refl _ _).alloc (qr _) _).alloc (by simp) _
 have hSS := sameSetr_any memR1 memR1 (fun k => k < ((w10.alloc (.cells #[.bool false] 4)).alloc (.cells #[.int .i64 1, .slice (some ⟨w10.heap.size, 0, none⟩) 1 1, .int .i64 3, .slice none 0 0] 85)).heap.size) Aa (some ⟨w10.heap.size + 1, 0, none⟩) 2 ca 2 2 _ ((SA10.out.under hbx fun k hk => hk).more fun k hk => ql hk hbx.size) (set_two (hW1.alloc _) hW2) (fun _ h => h) (by decide) (by decide)
 rw [eq_R1] at hSS
 have HSS := qh hSS
 have B11 := qh (B10.out.trans (hbx.mono B10.out.size))
 have SB11 := qh ((SB10.out.under hbx fun k hk => hk).more (S' := fun k => k < ((w10.alloc (.cells #[.bool false] 4)).alloc (.cells #[.int .i64 1, .slice (some ⟨w10.heap.size, 0, none⟩) 1 1, .int .i64 3, .slice none 0 0] 85)).heap.size) fun k hk => ql hk hbx.size)
 have ID11 := qh ((ID10.out.below hbx fun k hk => hk).more (S' := fun k => k < ((w10.alloc (.cells #[.bool false] 4)).alloc (.cells #[.int .i64 1, .slice (some ⟨w10.heap.size, 0, none⟩) 1 1, .int .i64 3, .slice none 0 0] 85)).heap.size) fun k hk => ql hk hbx.size)
 clear hSS hW1 hW2 hbx SA10 SB10 ID10 B10
 go_wp2_with (first | (go_at_call 24; refine HSS.out.mono ?_; rintro e w12 ⟨rfl, hb12⟩; refine Hid.out ?_))
 refine qh ?_
 have B12 := qh (B11.out.trans (hb12.mono B11.out.size))
 have SB12 := qh ((SB11.out.under hb12 fun k hk => hk).more (S' := fun k => k < w12.heap.size) fun k hk => ql hk hb12.size)
 have ID12 := qh ((ID11.out.below hb12 fun k hk => hk).more (S' := fun k => k < w12.heap.size) fun k hk => ql hk hb12.size)
 clear hb12 B11 SB11 ID11 HSS
 have hW1 := Whole.new w12 w12.heap.size 4 [.bool true] rfl
 have hW2 := Whole.new (w12.alloc (.cells #[.bool true] 4)) (w12.heap.size + 1) 85 [.int .i64 1, .slice (some ⟨w12.heap.size, 0, none⟩) 1 1, .int .i64 2, .slice none 0 0] (by simp)
 have hbx : Below w12.heap.size w12 ((w12.alloc (.cells #[.bool true] 4)).alloc (.cells #[.int .i64 1, .slice (some ⟨w12.heap.size, 0, none⟩) 1 1, .int .i64 2, .slice none 0 0] 85)) := ((Below.refl _ _).alloc (qr _) _).alloc (by simp) _
 have hSS := sameSetr_any memR2 memR2 (fun k => k < ((w12.alloc (.cells #[.bool true] 4)).alloc (.cells #[.int .i64 1, .slice (some ⟨w12.heap.size, 0, none⟩) 1 1, .int .i64 2, .slice none 0 0] 85)).heap.size) Ab (some ⟨w12.heap.size + 1, 0, none⟩) 2 cb 2 2 _ ((SB12.out.under hbx fun k hk => hk).more fun k hk => ql hk hbx.size) (set_two (hW1.alloc _) hW2) (fun _ h => h) (by decide) (by decide)
 rw [eq_R2] at hSS
 have HSS := qh hSS
 have B13 := qh (B12.out.trans (hbx.mono B12.out.size))
 have ID13 := qh ((ID12.out.below hbx fun k hk => hk).more (S' := fun k => k < ((w12.alloc (.cells #[.bool true] 4)).alloc (.cells #[.int .i64 1, .slice (some ⟨w12.heap.size, 0, none⟩) 1 1, .int .i64 2, .slice none 0 0] 85)).heap.size) fun k hk => ql hk hbx.size)
 clear hSS hW1 hW2 hbx SB12 ID12 B12
 go_wp2_with (first | (go_at_call 24; refine HSS.out.mono ?_; rintro e w14 ⟨rfl, hb14⟩; refine Hid.out ?_))
 refine qh ?_
 have B14 := qh (B13.out.trans (hb14.mono B13.out.size))
 have ID14 := qh ((ID13.out.below hb14 fun k hk => hk).more (S' := fun k => k < w14.heap.size) fun k hk => ql hk hb14.size)
 clear hb14 B13 ID13 HSS
 have hal := (Below.refl w14.heap.size w14).alloc (qr _) (.cells #[.int .i64 2] 3)
 have hI := Whole.new w14 w14.heap.size 3 [.int .i64 2] rfl
 have hEQ := equal_int Ad (some ⟨w14.heap.size, 0, none⟩) 1 1 cd 1 [2] [2] _ (fun k => k < (w14.alloc (.cells #[.int .i64 2] 3)).heap.size) ((ID14.out.below hal (fun k hk => hk)).more fun k hk => ql hk hal.size) (hI.ints (xs := [2]) hI.lt rfl) (by decide) (by decide)
 rw [show (([2] : List Int) == [2]) = true from by decide] at hEQ
 have HEQ := qh hEQ
 have B15 := qh (B14.out.trans (hal.mono B14.out.size))
 clear hal hI hEQ ID14 B14
 go_wp2_with (first | (go_at_call 32; refine HEQ.out.mono ?_; rintro e w16 ⟨rfl, nq, rfl⟩; refine Hid.out ?_))
 refine qh ?_
 have B16 := qh (below_drewN B15.out nq)
 clear B15 HEQ
 go_wp2
 go_ret
 exact ⟨rfl, B16.out⟩
end
/- What is wrong with a wish is never that there is none. No program in sight. -/
section
open Go.RowKit Qm

def Ck6 (z : Int) : Prop := 0 ≤ z ∧ z ≤ 6
theorem ckAtom_6 (a : At) : Ck6 (ckAtom a) := by unfold ckAtom Ck6; repeat' split; all_goals omega
theorem ckAts_6 : ∀ (ts : List At), Ck6 (ckAts ts)
 | [] => by unfold ckAts Ck6; omega
 | a :: r => by
  rw [ckAts]; split
  ·exact ckAtom_6 a
  ·exact ckAts_6 r
theorem ckKids_6 : ∀ {ks : List Nd}, (∀ x ∈ ks, Ck6 (ckNd x)) → Ck6 (ckKids ks)
 | [], _ => by unfold ckKids Ck6; omega
 | x :: r, h => by
  rw [ckKids]; split
  ·exact ckKids_6 fun y hy => h y (List.mem_cons_of_mem _ hy)
  ·exact h x (List.mem_cons_self ..)
theorem ckNd_6 (y : Nd) : Ck6 (ckNd y) := by
 refine Nd.ind (P := fun y => Ck6 (ckNd y)) (fun k a f no ks ih => ?_) y
 rw [ckNd]
 repeat' split
 all_goals first | exact ckAtom_6 a | exact ckKids_6 ih | (unfold Ck6; omega)
theorem ckFlags_6 : ∀ (fs : List Qm.W) (p : Option Qm.W), Ck6 (ckFlags p fs)
 | [], p => by unfold ckFlags Ck6; omega
 | f :: r, p => by
  rw [ckFlags]; repeat' split
  all_goals first | exact ckFlags_6 r _ | (unfold Ck6; omega)
theorem ckPk_6 (p : Pk) : Ck6 (ckPk p) := by
 unfold ckPk ckNeed
 repeat' split
 all_goals first | exact ckFlags_6 _ _ | exact ckNd_6 _ | (unfold Ck6; omega)
theorem ckT_6 : ∀ (ps : List Pk) (q : Option Pk) (n : Nat), Ck6 (ckT q n ps)
 | [], q, n => by unfold ckT Ck6; omega
 | p :: r, q, n => by
  rw [ckT]; repeat' split
  all_goals first | exact ckPk_6 _ | exact ckT_6 r _ _ | (unfold Ck6; omega)
theorem ckMs_6 : ∀ (ps : List Pk) (l : List Mem) (q : Option Int), Ck6 (ckMs ps q l)
 | ps, [], q => by unfold ckMs Ck6; omega
 | ps, m :: r, q => by
  rw [ckMs]; repeat' split
  all_goals first | exact ckMs_6 ps r _ | (unfold Ck6; omega)
theorem ckMask_6 : ∀ (ps : List Pk) (l : List Int) (q : Option Int), Ck6 (ckMask ps q l)
 | ps, [], q => by unfold ckMask Ck6; omega
 | ps, m :: r, q => by
  rw [ckMask]; repeat' split
  all_goals first | exact ckMask_6 ps r _ | (unfold Ck6; omega)
theorem ckOn_6 : ∀ (ps : List Pk) (l : List (Int × Int)) (q : Option (Int × Int)), Ck6 (ckOn ps q l)
 | ps, [], q => by unfold ckOn Ck6; omega
 | ps, m :: r, q => by
  rw [ckOn]; repeat' split
  all_goals first | exact ckOn_6 ps r _ | (unfold Ck6; omega)
theorem ckTree_6 (ps : List Pk) : Ck6 (ckTree ps) := by
 unfold ckTree; split
 ·unfold Ck6; omega
 ·exact ckT_6 _ _ _
theorem ckSet_6 (ps : List Pk) (l : List Mem) : Ck6 (ckSet ps l) := by
 unfold ckSet; split
 ·exact ckTree_6 _
 ·exact ckMs_6 _ _ _
theorem ckWish_6 (ps : List Pk) (v : Ws) : Ck6 (ckWish ps v) := by
 unfold ckWish ckWishR
 repeat' split
 all_goals first | exact ckSet_6 _ _ | exact ckAts_6 _ | exact ckMask_6 _ _ _ | exact ckOn_6 _ _ _ | (unfold Ck6; omega)
theorem resE_is (ps : List Pk) (v : Ws) : (ckWish ps v = 0 ∧ (resE ps v 40000 = 0 ∨ resE ps v 40000 = 7)) ∨ (ckWish ps v ≠ 0 ∧ resE ps v 40000 = ckWish ps v ∧ resE ps v 40000 ≠ 0 ∧ resE ps v 40000 ≠ 7) := by
 by_cases h : ckWish ps v = 0
 ·rcases res_max h with ⟨h1, _⟩ | ⟨h1, _⟩
  ·exact .inl ⟨h, .inl h1⟩
  ·exact .inl ⟨h, .inr h1⟩
 ·have e := (res_bad (s := 40000) h).1
  have := ckWish_6 ps v
  unfold Ck6 at this
  exact .inr ⟨h, e, by omega, by omega⟩
end
/- quartermasterlaw.at, walked: an index in range. -/
section
open Go.RowKit

end
/- valid.holds, walked. -/
section
open Go.RowKit Qm

structure Hb (w : World) (A : Option Addr) (n c : Nat) (B : Option Addr) (q d k : Nat) (nr : List Value) (wx : World) : Prop where
 t : Whole wx w.heap.size 24 [.slice A n c]
 l : Whole wx (w.heap.size + 1) 26 [.slice B q d]
 k : Whole wx (w.heap.size + 1 + 1) 3 [.int .i64 (k : Int)]
 n : Whole wx (w.heap.size + 1 + 1 + 1) 99 nr
 e : Whole wx (w.heap.size + 1 + 1 + 1 + 1) 164 [.func (.func 112) #[] #[.pointer (some ⟨w.heap.size, 0, none⟩), .pointer (some ⟨w.heap.size + 1, 0, none⟩), .pointer (some ⟨w.heap.size + 1 + 1, 0, none⟩)]]
 bel : Below w.heap.size w wx
end
/- valid.Holds, walked. -/
section
open Go.RowKit Qm

end
/- slices.Contains of ints. (Of the shelf: Tryz.slices_Contains_int Tryz.slices_Contains_int_empty) -/
section
open Go.RowKit

end
/- valid.valid, walked. -/
section
open Go.RowKit Qm

end
/- valid.Valid, walked. -/
section
open Go.RowKit Qm

end
/- Walk: rup.Refutes. -/
section
open Go.RowKit
end
/- ResolveProves, walked: it returns true. -/
section
open Go.RowKit Qm

theorem sameMem_iff (x y : Mem) : sameMem x y = true ↔ x = y := by
 obtain ⟨p, o⟩ := x; obtain ⟨q, r⟩ := y
 unfold sameMem
 rw [Bool.and_eq_true, decide_eq_true_eq, beq_iff_eq, Mem.mk.injEq]
theorem eqL_self (l : List Mem) : eqL sameMem l l = true := (eqL_iff sameMem_iff).2 rfl
end
/- Flags gathered into a wish's list: what the loop of two laws keeps. -/
section
open Go.RowKit Qm

def pairsV (xs : List (Int × Int)) : List Value := xs.flatMap fun p => [.int .i64 p.1, .int .i64 p.2]
structure Ro (B0 : Nat) (wb : Nat) (a0 a1 a2 ov : Value) (xs : List (Int × Int)) (w wr : World) : Prop where
 b : Below B0 w wr
 wi : Whole wr wb 30 [a0, a1, a2, ov]
 o : wr.ownsRow (wb + 1) 86 2 ov xs.length (pairsV xs)
 hb : B0 ≤ wb
section
variable {B0 wb : Nat} {a0 a1 a2 ov : Value} {xs : List (Int × Int)} {w wr wy : World}
end
end
/- ResolveNothing, walked: it returns true. -/
section
open Go.RowKit Qm

structure Tn (w : World) (A : Option Addr) (n c : Nat) (wx : World) : Prop where
 t : Whole wx w.heap.size 24 [.slice A n c]
 bel : Below w.heap.size w wx
section
variable {w : World} {A : Option Addr} {n c : Nat} {wx wy : World}
end
end
/- slices.DeleteFunc of ints, of a slice that is owned. -/
section
open Go.RowKit

theorem Far.cells_ {D : Nat → Prop} {b : Nat} (hb : D b) : ∀ (vs : List Value) (o : Nat) (w : World), Far D w (w.setCells b o vs)
 | [], _, w => Far.refl _ _
 | v :: r, o, w => (Far.set_ hb o v).trans (Far.cells_ hb r (o + 1) _) fun _ _ h => h
structure Del (p : Int → Bool) (xs ys : List Int) (i j : Nat) : Prop where
 len : ys.length = xs.length
 lt : i < j
 le : j ≤ xs.length
 front : ys.take i = (xs.take j).filter (fun x => !p x)
 rest : ys.drop j = xs.drop j
section
variable {p : Int → Bool} {xs ys : List Int} {i j : Nat}
end
end
/- slices.Delete of one element, of atoms and of ints that are owned. -/
section
open Go.RowKit

theorem own_wholeK {w : World} {base size : Nat} {e : TypeId} {v : Value} {n : Nat} {vs : List Value} (h : w.ownsRow base e size v n vs) (hn : 0 < n) : ∃ g c sp, v = .slice (some ⟨g, 0, none⟩) n c ∧ base ≤ g ∧ n ≤ c ∧ c ≤ maxLen ∧ vs.length = n * size ∧ Whole w g e (vs ++ sp) := by
 rcases h.2 with ⟨_, h0⟩ | ⟨g, cap, cur, rfl, hb, hh, hc, hm, hs, ht⟩
 ·omega
 ·refine ⟨g, cap, cur.toList.drop (n * size), rfl, hb, hc, hm, ?_, ?_⟩
  ·rw [← ht, List.length_take, Array.length_toList, hs]
   exact Nat.min_eq_left (Nat.mul_le_mul_right _ hc)
  ·unfold Whole
   rw [hh, ← ht, List.take_append_drop]
theorem run_clear_cells {P : Program} (w : World) (t e : TypeId) (z : Value) (K : Nat) (ht : P.underlying t = some (.slice e)) (hv : ∀ w, (zeroValue e).run P w = .ok z w) (hz : z.cells.size = K) (h1 : ∀ u ∈ z.cells.toList, u.oneCell' = true) (b o n c : Nat) (hn : 0 < n)
  (hc : ∀ j, j < n * K → (w.cell? ⟨b, o + j, none⟩).isSome = true) (hf : ∀ j, j < n * K → w.frozen? ⟨b, o + j, none⟩ = false) :
  ∃ zs : List Value, zs.length = n * K ∧ ∀ ty, (Builtin.clear_ #[t] ty #[.slice (some ⟨b, o, none⟩) n c]).run P w = .ok (.tuple #[]) (w.setCells b o zs) := by
 have hl : (Builtin.zeroCells z.cells n).toList.length = n * K := by unfold Builtin.zeroCells; simp [hz]
 refine ⟨(Builtin.zeroCells z.cells n).toList, hl, fun ty => ?_⟩
 have hst := run_storeCells_cells (P := P) b o (Builtin.zeroCells z.cells n).toList 0 w (by rw [hl]; simpa using hc) (by rw [hl]; simpa using hf) (by
  intro u hu
  unfold Builtin.zeroCells at hu
  simp only [Array.toList_map, Array.toList_range, List.mem_map, List.mem_range] at hu
  obtain ⟨i, hi, rfl⟩ := hu
  have hp : 0 < z.cells.size := Nat.pos_of_ne_zero fun h => by rw [h] at hi; omega
  have hm := Nat.mod_lt i hp
  rw [getElem!_pos z.cells _ hm]
  exact h1 _ (by simp))
 simp only [Nat.add_zero] at hst
 obtain ⟨m, rfl⟩ : ∃ m, n = m + 1 := ⟨n - 1, by omega⟩
 simp only [Builtin.clear_]
 simp [run_underlying ht, hv, hst]
theorem atom_infoD : (Tryz.prog.info? 75).map (fun i => (i.zero, i.size, i.bytes)) = some (some (.agg #[.string ⟨#[]⟩, .int .i64 0, .int .i64 0, .int .i64 0, .string ⟨#[]⟩, .bool false]), 6, 64) := by kernel_rfl
theorem int_infoD : (Tryz.prog.info? 3).map (fun i => (i.zero, i.size, i.bytes)) = some (some (.int .i64 0), 1, 8) := by kernel_rfl
set_option maxRecDepth 100000 in
set_option maxHeartbeats 3200000 in
theorem deleteA_any (A : Option Addr) (n c : Nat) (vs : List Value) (k k1 base : Nat) (w : World) (hown : w.ownsRow base 75 6 (.slice A n c) n vs) (hk : k < n) (hkk : k1 = k + 1) (hone : ∀ u ∈ vs, u.oneCell' = true) :
  Calls Tryz.prog 37 #[.slice A n c, .int .i64 k, .int .i64 k1] w fun e w' => e = .returned (.slice A (n - 1) c) ∧ Row w' (fun i => (Value.slice A n c).ownBlock = some i) A ((n - 1) * 6) (vs.take (k * 6) ++ vs.drop (k1 * 6)) ∧ n - 1 ≤ c ∧ c ≤ maxLen ∧ Far (fun i => (Value.slice A n c).ownBlock = some i) w w' := by
 obtain ⟨g, c2, sp, hv, hg, hnc, hc, hl, hW⟩ := own_wholeK hown (by omega)
 injection hv with e1 _ e2
 subst e1 e2
 obtain ⟨i0, hi0, hz0, hz1, hz2⟩ := info_parts atom_infoD
 have HW := qh hW; have HL := qh hl; have HONE := qh hone
 have hget : ∀ j, j < n * 6 → w.cell? ⟨g, j, none⟩ = vs[j]? := fun j hj => by rw [hW.cell, List.getElem?_append_left (by omega)]
 have HGET := qh hget
 obtain ⟨news, hnews⟩ : ∃ news, news = vs.drop (k1 * 6) := ⟨_, rfl⟩
 have hnl : news.length = (n - k1) * 6 := by rw [hnews, List.length_drop, hl, Nat.sub_mul]
 have HNW := qh hnews; have HNL := qh hnl
 unfold maxLen at hc
 clear hown hone hget hW
 go_enter Tryz.func37, Tryz.ntmps37
 have hk1 : ((k : Int) == (k1 : Int)) = false := by rw [beq_eq_false_iff_ne]; omega
 have hkl : k ≤ k1 := by omega
 have hkc : k ≤ c := by omega
 have hk1c : k1 ≤ c := by omega
 have hk1n : k1 ≤ n := by omega
 have HKK := qh hkk; clear hkk
 go_upto_region 5 with fail
 obtain ⟨A2, hA2, hsrc⟩ : ∃ A2 : Addr, (if c = k1 then some (⟨g, 0, none⟩ : Addr) else some ⟨g, k1 * 6, none⟩) = some A2 ∧ Hid (∀ t u, news[t]? = some u → w.drew.cell? (A2.add t) = some u) := by
  by_cases hck : c = k1
  ·have hnews0 : news = [] := List.length_eq_zero_iff.1 (by rw [HNL.out, show n - k1 = 0 by have := HKK.out; omega, Nat.zero_mul])
   exact ⟨⟨g, 0, none⟩, by rw [if_pos hck], qh fun t u hu => by rw [hnews0] at hu; cases hu⟩
  ·refine ⟨⟨g, k1 * 6, none⟩, by rw [if_neg hck], qh fun t u hu => ?_⟩
   have ht := (List.getElem?_eq_some_iff.1 hu).1
   rw [HNL.out] at ht
   have hadd : (⟨g, k1 * 6, none⟩ : Addr).add t = ⟨g, k1 * 6 + t, none⟩ := by unfold Addr.add; split <;> simp_all
   rw [hadd]
   show w.cell? _ = _
   rw [HGET.out _ (by omega), ← hu, HNW.out, List.getElem?_drop]
 have hkn : k + (n - k1) = n - 1 := by have := HKK.out; omega
 have s2 : Hid (∀ u ∈ news, u.oneCell' = true) := qh fun u hu => HONE.out u (by rw [HNW.out] at hu; exact List.mem_of_mem_drop hu)
 have s3 : Hid (∀ t, t < news.length → (w.drew.cell? ⟨g, 0 + k * 6 + t, none⟩).isSome = true ∧ w.drew.frozen? ⟨g, 0 + k * 6 + t, none⟩ = false) := qh (fun t ht => by
  rw [HNL.out] at ht
  have hlt : 0 + k * 6 + t < n * 6 := by omega
  refine ⟨?_, HW.out.free _⟩
  show (w.cell? _).isSome = true
  rw [HGET.out _ hlt, List.getElem?_eq_getElem (by rw [HL.out]; exact hlt)]; rfl)
 have s1 : Hid (news.length = (n - k1) * 6) := HNL
 obtain ⟨W1, hW1⟩ : ∃ W1, W1 = w.drew.setCells g (0 + k * 6) news := ⟨_, rfl⟩
 have hfar1 : Far (fun i => (Value.slice (some ⟨g, 0, none⟩) n c).ownBlock = some i) w W1 := by
  rw [hW1]; exact (Far.drewN (Far.refl _ w) 1).trans (Far.cells_ (D := fun k => k = g) rfl _ _ _) fun k _ hk => by rw [hk]; rfl
 have hlow : ∀ j, j < k * 6 → W1.cell? ⟨g, j, none⟩ = vs[j]? := fun j hj => by
  rw [hW1, World.cell?_setCells_out g _ _ _ _ (fun _ _ => .inl (by show j < 0 + k * 6; omega))]
  exact HGET.out j (by omega)
 have hmid : ∀ j, j < news.length → W1.cell? ⟨g, k * 6 + j, none⟩ = news[j]? := fun j hj => by
  have h := World.cell?_setCells_in g news (0 + k * 6) w.drew (fun t ht => (s3.out t ht).1) j hj
  rw [Nat.zero_add] at h
  rw [hW1, Nat.zero_add, h, List.getElem?_eq_getElem hj]
 have hold : ∀ j, k * 6 + news.length ≤ j → j < n * 6 → W1.cell? ⟨g, j, none⟩ = vs[j]? := fun j hj hj2 => by
  rw [hW1, World.cell?_setCells_out g _ _ _ _ (fun _ _ => .inr (by show 0 + k * 6 + news.length ≤ j; omega))]
  exact HGET.out j hj2
 have hfree : ∀ j, W1.frozen? ⟨g, j, none⟩ = false := fun j => by rw [hW1, World.frozen?_setCells]; exact HW.out.free j
 obtain ⟨zs, hzs, hclr⟩ := run_clear_cells (P := Tryz.prog) W1 25 75 (.agg #[.string ⟨#[]⟩, .int .i64 0, .int .i64 0, .int .i64 0, .string ⟨#[]⟩, .bool false]) 6 Tryz.underlying25 (fun w => by kernel_rfl) rfl (by decide) g ((k + (n - k1)) * 6) (n - (k + (n - k1))) (c - (k + (n - k1))) (by omega)
  (fun j hj => by
   have h1 := HNL.out
   rw [hold _ (by omega) (by omega), List.getElem?_eq_getElem (by rw [HL.out]; omega)]; rfl)
  (fun j hj => hfree _)
 have HFAR1 := qh hfar1; have HLOW := qh hlow; have HMID := qh hmid; have HCLR := qh hclr; have HZS := qh hzs
 have HWD : Hid (W1 = w.drew.setCells g (0 + k * 6) news) := qh hW1
 clear hfar1 hlow hmid hclr hzs hold hfree hW1 hl hnews hnl
 (try simp only [Nat.mul_one] at hA2)
 go_region_law (refine step_append_room rfl (.tmp 22) (.tmp 25) 25 rfl 75 i0 6 Tryz.underlying25 hi0 hz1 g 0 k c (by simp [Act.eval, Act.put]) A2 (n - k1) (c - k1) news (by simp [Act.eval, Act.put]; try (simpa using hA2)) s1.out hsrc.out s2.out (by omega) s3.out ?_; rw [← HWD.out])
 have hclr := HCLR.out
 simp only [hkn, Nat.mul_one] at hclr
 have hkx : n - 1 < c := by omega
 have hkx2 : n - 1 ≤ n := by omega
 have hkx3 : n - 1 ≤ c := by omega
 have hrow : Row (W1.setCells g ((n - 1) * 6) zs) (fun i => (Value.slice (some ⟨g, 0, none⟩) n c).ownBlock = some i) (some ⟨g, 0, none⟩) ((n - 1) * 6) (vs.take (k * 6) ++ vs.drop (k1 * 6)) := by
  have hll := HL.out
  have hkk := HKK.out
  have htl : (vs.take (k * 6)).length = k * 6 := by rw [List.length_take]; omega
  refine ⟨by rw [List.length_append, htl, List.length_drop]; omega, fun _ => ⟨g, 0, rfl, rfl, fun j hj => ?_⟩⟩
  rw [Nat.zero_add, World.cell?_setCells_out g _ _ _ _ (fun _ _ => .inl hj)]
  by_cases hjk : j < k * 6
  ·rw [HLOW.out j hjk, List.getElem?_append_left (by omega), List.getElem?_take_of_lt hjk]
  ·have h := HMID.out (j - k * 6) (by rw [HNL.out]; omega)
   rw [show k * 6 + (j - k * 6) = j by omega] at h
   rw [h, List.getElem?_append_right (by omega), htl, HNW.out]
 have hfar : Far (fun i => (Value.slice (some ⟨g, 0, none⟩) n c).ownBlock = some i) w (W1.setCells g ((n - 1) * 6) zs) := HFAR1.out.trans (Far.cells_ (D := fun k => k = g) rfl _ _ _) fun k _ hk => by rw [hk]; rfl
 have HROW := qh hrow; have HFAR := qh hfar
 clear hrow hfar
 go_wp2
 go_ret
 exact ⟨rfl, by simpa using HROW.out, by unfold maxLen; omega, by simpa using HFAR.out⟩
set_option maxRecDepth 100000 in
set_option maxHeartbeats 3200000 in
theorem deleteI_any (A : Option Addr) (n c : Nat) (vs : List Value) (k k1 base : Nat) (w : World) (hown : w.ownsRow base 3 1 (.slice A n c) n vs) (hk : k < n) (hkk : k1 = k + 1) (hone : ∀ u ∈ vs, u.oneCell' = true) :
  Calls Tryz.prog 38 #[.slice A n c, .int .i64 k, .int .i64 k1] w fun e w' => e = .returned (.slice A (n - 1) c) ∧ Row w' (fun i => (Value.slice A n c).ownBlock = some i) A ((n - 1) * 1) (vs.take (k * 1) ++ vs.drop (k1 * 1)) ∧ n - 1 ≤ c ∧ c ≤ maxLen ∧ Far (fun i => (Value.slice A n c).ownBlock = some i) w w' := by
 obtain ⟨g, c2, sp, hv, hg, hnc, hc, hl, hW⟩ := own_wholeK hown (by omega)
 injection hv with e1 _ e2
 subst e1 e2
 obtain ⟨i0, hi0, hz0, hz1, hz2⟩ := info_parts int_infoD
 have HW := qh hW; have HL := qh hl; have HONE := qh hone
 have hget : ∀ j, j < n * 1 → w.cell? ⟨g, j, none⟩ = vs[j]? := fun j hj => by rw [hW.cell, List.getElem?_append_left (by omega)]
 have HGET := qh hget
 obtain ⟨news, hnews⟩ : ∃ news, news = vs.drop (k1 * 1) := ⟨_, rfl⟩
 have hnl : news.length = (n - k1) * 1 := by rw [hnews, List.length_drop, hl, Nat.sub_mul]
 have HNW := qh hnews; have HNL := qh hnl
 unfold maxLen at hc
 clear hown hone hget hW
 go_enter Tryz.func38, Tryz.ntmps38
 have hk1 : ((k : Int) == (k1 : Int)) = false := by rw [beq_eq_false_iff_ne]; omega
 have hkl : k ≤ k1 := by omega
 have hkc : k ≤ c := by omega
 have hk1c : k1 ≤ c := by omega
 have hk1n : k1 ≤ n := by omega
 have HKK := qh hkk; clear hkk
 go_upto_region 5 with fail
 obtain ⟨A2, hA2, hsrc⟩ : ∃ A2 : Addr, (if c = k1 then some (⟨g, 0, none⟩ : Addr) else some ⟨g, k1 * 1, none⟩) = some A2 ∧ Hid (∀ t u, news[t]? = some u → w.drew.cell? (A2.add t) = some u) := by
  by_cases hck : c = k1
  ·have hnews0 : news = [] := List.length_eq_zero_iff.1 (by rw [HNL.out, show n - k1 = 0 by have := HKK.out; omega, Nat.zero_mul])
   exact ⟨⟨g, 0, none⟩, by rw [if_pos hck], qh fun t u hu => by rw [hnews0] at hu; cases hu⟩
  ·refine ⟨⟨g, k1 * 1, none⟩, by rw [if_neg hck], qh fun t u hu => ?_⟩
   have ht := (List.getElem?_eq_some_iff.1 hu).1
   rw [HNL.out] at ht
   have hadd : (⟨g, k1 * 1, none⟩ : Addr).add t = ⟨g, k1 * 1 + t, none⟩ := by unfold Addr.add; split <;> simp_all
   rw [hadd]
   show w.cell? _ = _
   rw [HGET.out _ (by omega), ← hu, HNW.out, List.getElem?_drop]
 have hkn : k + (n - k1) = n - 1 := by have := HKK.out; omega
 have s2 : Hid (∀ u ∈ news, u.oneCell' = true) := qh fun u hu => HONE.out u (by rw [HNW.out] at hu; exact List.mem_of_mem_drop hu)
 have s3 : Hid (∀ t, t < news.length → (w.drew.cell? ⟨g, 0 + k * 1 + t, none⟩).isSome = true ∧ w.drew.frozen? ⟨g, 0 + k * 1 + t, none⟩ = false) := qh (fun t ht => by
  rw [HNL.out] at ht
  have hlt : 0 + k * 1 + t < n * 1 := by omega
  refine ⟨?_, HW.out.free _⟩
  show (w.cell? _).isSome = true
  rw [HGET.out _ hlt, List.getElem?_eq_getElem (by rw [HL.out]; exact hlt)]; rfl)
 have s1 : Hid (news.length = (n - k1) * 1) := HNL
 obtain ⟨W1, hW1⟩ : ∃ W1, W1 = w.drew.setCells g (0 + k * 1) news := ⟨_, rfl⟩
 have hfar1 : Far (fun i => (Value.slice (some ⟨g, 0, none⟩) n c).ownBlock = some i) w W1 := by
  rw [hW1]; exact (Far.drewN (Far.refl _ w) 1).trans (Far.cells_ (D := fun k => k = g) rfl _ _ _) fun k _ hk => by rw [hk]; rfl
 have hlow : ∀ j, j < k * 1 → W1.cell? ⟨g, j, none⟩ = vs[j]? := fun j hj => by
  rw [hW1, World.cell?_setCells_out g _ _ _ _ (fun _ _ => .inl (by show j < 0 + k * 1; omega))]
  exact HGET.out j (by omega)
 have hmid : ∀ j, j < news.length → W1.cell? ⟨g, k * 1 + j, none⟩ = news[j]? := fun j hj => by
  have h := World.cell?_setCells_in g news (0 + k * 1) w.drew (fun t ht => (s3.out t ht).1) j hj
  rw [Nat.zero_add] at h
  rw [hW1, Nat.zero_add, h, List.getElem?_eq_getElem hj]
 have hold : ∀ j, k * 1 + news.length ≤ j → j < n * 1 → W1.cell? ⟨g, j, none⟩ = vs[j]? := fun j hj hj2 => by
  rw [hW1, World.cell?_setCells_out g _ _ _ _ (fun _ _ => .inr (by show 0 + k * 1 + news.length ≤ j; omega))]
  exact HGET.out j hj2
 have hfree : ∀ j, W1.frozen? ⟨g, j, none⟩ = false := fun j => by rw [hW1, World.frozen?_setCells]; exact HW.out.free j
 obtain ⟨zs, hzs, hclr⟩ := run_clear_cells (P := Tryz.prog) W1 27 3 (.int .i64 0) 1 Tryz.underlying27 (fun w => by kernel_rfl) rfl (by decide) g ((k + (n - k1)) * 1) (n - (k + (n - k1))) (c - (k + (n - k1))) (by omega)
  (fun j hj => by
   have h1 := HNL.out
   rw [hold _ (by omega) (by omega), List.getElem?_eq_getElem (by rw [HL.out]; omega)]; rfl)
  (fun j hj => hfree _)
 have HFAR1 := qh hfar1; have HLOW := qh hlow; have HMID := qh hmid; have HCLR := qh hclr; have HZS := qh hzs
 have HWD : Hid (W1 = w.drew.setCells g (0 + k * 1) news) := qh hW1
 clear hfar1 hlow hmid hclr hzs hold hfree hW1 hl hnews hnl
 (try simp only [Nat.mul_one] at hA2)
 go_region_law (refine step_append_room rfl (.tmp 22) (.tmp 25) 27 rfl 3 i0 1 Tryz.underlying27 hi0 hz1 g 0 k c (by simp [Act.eval, Act.put]) A2 (n - k1) (c - k1) news (by simp [Act.eval, Act.put]; try (simpa using hA2)) s1.out hsrc.out s2.out (by omega) s3.out ?_; rw [← HWD.out])
 have hclr := HCLR.out
 simp only [hkn, Nat.mul_one] at hclr
 have hkx : n - 1 < c := by omega
 have hkx2 : n - 1 ≤ n := by omega
 have hkx3 : n - 1 ≤ c := by omega
 have hrow : Row (W1.setCells g ((n - 1) * 1) zs) (fun i => (Value.slice (some ⟨g, 0, none⟩) n c).ownBlock = some i) (some ⟨g, 0, none⟩) ((n - 1) * 1) (vs.take (k * 1) ++ vs.drop (k1 * 1)) := by
  have hll := HL.out
  have hkk := HKK.out
  have htl : (vs.take (k * 1)).length = k * 1 := by rw [List.length_take]; omega
  refine ⟨by rw [List.length_append, htl, List.length_drop]; omega, fun _ => ⟨g, 0, rfl, rfl, fun j hj => ?_⟩⟩
  rw [Nat.zero_add, World.cell?_setCells_out g _ _ _ _ (fun _ _ => .inl hj)]
  by_cases hjk : j < k * 1
  ·rw [HLOW.out j hjk, List.getElem?_append_left (by omega), List.getElem?_take_of_lt hjk]
  ·have h := HMID.out (j - k * 1) (by rw [HNL.out]; omega)
   rw [show k * 1 + (j - k * 1) = j by omega] at h
   rw [h, List.getElem?_append_right (by omega), htl, HNW.out]
 have hfar : Far (fun i => (Value.slice (some ⟨g, 0, none⟩) n c).ownBlock = some i) w (W1.setCells g ((n - 1) * 1) zs) := HFAR1.out.trans (Far.cells_ (D := fun k => k = g) rfl _ _ _) fun k _ hk => by rw [hk]; rfl
 have HROW := qh hrow; have HFAR := qh hfar
 clear hrow hfar
 go_wp2
 go_ret
 exact ⟨rfl, by simpa using HROW.out, by unfold maxLen; omega, by simpa using HFAR.out⟩
end
/- slices.Clone of atoms. -/
section
open Go.RowKit

def ClonePostK (w : World) (E : TypeId) (K n : Nat) (vs : List Value) (e : Ending) (w' : World) : Prop :=
 ∃ (A : Option Addr) (c : Nat), e = .returned (.slice A n c) ∧ n ≤ c ∧ c ≤ maxLen ∧ w'.ownsRow w.heap.size E K (.slice A n c) n vs ∧ Below w.heap.size w w'
set_option maxRecDepth 100000 in
set_option maxHeartbeats 1000000 in
theorem cloneAtoms_any (A : Option Addr) (n c : Nat) (vs : List Value) (w : World) (S : Nat → Prop) (hr : Row w S A (n * 6) vs) (hone : ∀ u ∈ vs, u.oneCell' = true) (hS : ∀ k, S k → k < w.heap.size) (hn : n ≤ 100000) :
  Calls Tryz.prog 35 #[.slice A n c] w (ClonePostK w 75 6 n vs) := by
 obtain ⟨i0, hi, hz0, hz1, hz2⟩ := info_parts atom_infoD
 have q : ∀ (w : World) (a : Option Addr) (n c n' c' : Nat), (binOp .eql 25 (.slice a n c) (.slice none n' c')).run Tryz.prog w = .ok (.bool a.isNone) w := fun w a n c n' c' => Lib.run_eql_slice_nil w _ _ a n c n' c' Tryz.underlying25
 have Hr := qh hr; have Hone := qh hone
 clear hr hone
 by_cases hA : A = none
 ·subst hA
  obtain rfl : n = 0 := by
   by_cases h0 : 0 < n
   ·obtain ⟨b, o, e, _⟩ := Hr.out.some_lit (by omega); cases e
   ·omega
  obtain rfl : vs = [] := List.eq_nil_of_length_eq_zero Hr.out.len
  go_enter Tryz.func35, Tryz.ntmps35
  go_wp2_with fail
  go_ret
  exact ⟨none, 0, rfl, qr _, Nat.zero_le _, World.ownsRow_nil _ _ _ _, Below.refl _ _⟩
 ·obtain ⟨ad, rfl⟩ : ∃ ad, A = some ad := by cases A with | none => exact absurd rfl hA | some a => exact ⟨a, rfl⟩
  clear hA
  have hb0 : Below w.heap.size w (w.alloc (.cells #[] 75)) := (Below.refl _ _).alloc (qr _) _
  have hnews : ∀ j u, vs[j]? = some u → (w.alloc (.cells #[] 75)).cell? (ad.add j) = some u := by
   intro j u hj
   have hjn : j < n * 6 := by have := (List.getElem?_eq_some_iff.1 hj).1; rw [Hr.out.len] at this; exact this
   obtain ⟨b, o, e, _⟩ := Hr.out.some_lit (by omega)
   injection e with e
   subst e
   exact news_of_row (Hr.out.below hb0 hS) j u hj
  have Hnews := qh hnews; clear hnews hb0
  have Hl := qh Hr.out.len
  go_enter Tryz.func35, Tryz.ntmps35
  go_wp2_with (at_builtin; refine wpList_append_own _ rfl _ _ 25 rfl w.heap.size 75 i0 (.agg #[.string ⟨#[]⟩, .int .i64 0, .int .i64 0, .int .i64 0, .string ⟨#[]⟩, .bool false]) 6 64 Tryz.underlying25 hi hz0 hz1 hz2 rfl (by decide) _ _ _ rfl (World.ownsRow_made w #[] 0 (qr _) (Nat.zero_le _) rfl) ad n c vs rfl ?c1 Hnews.out Hone.out ?c3 ?c4 ?c5 ?_)
  case c1 => rw [Hl.out]
  case c3 => unfold maxLen; omega
  case c4 => omega
  case c5 => simp
  intro v' w1 hown hgrow hnil
  go_wp2_with fail
  go_ret
  have hown' : w1.ownsRow w.heap.size 75 6 v' n vs := by simpa using hown
  obtain ⟨A', c', rfl, h1, h2, _⟩ := own_formK hown'
  exact ⟨A', c', rfl, h1, h2, hown', ((Below.refl _ w).alloc (qr _) _).grown hgrow (by simp) (by intro k hk; simp [Value.ownBlock] at hk; omega)⟩
end
end Go.Proofs.YtedbhlgjcnnknaaGreatDoor
