/- Parts of the proof: walks and plain laws, side by side. -/
import Derived.Test.YtedbhlgjcnnknaaGreatDoorM28
import Derived.Test.YtedbhlgjcnnknaaGreatDoorM27
import Derived.Test.YtedbhlgjcnnknaaGreatDoorM26
import Derived.Test.YtedbhlgjcnnknaaGreatDoorM1
import Derived.Test.YtedbhlgjcnnknaaGreatDoorProg
import Derived.Test.YtedbhlgjcnnknaaGreatDoorM19
import Derived.Deep.RegionHeld3
import Derived.Laws.EntriesVeiled
import Derived.Test.YtedbhlgjcnnknaaGreatDoorM22
import Derived.Test.YtedbhlgjcnnknaaGreatDoorM7
import Derived.Test.YtedbhlgjcnnknaaGreatDoorShelf
import Derived.Test.YtedbhlgjcnnknaaGreatDoorM23
import Derived.Test.YtedbhlgjcnnknaaGreatDoorM6
import Derived.Test.YtedbhlgjcnnknaaGreatDoorM17
import Derived.Test.YtedbhlgjcnnknaaGreatDoorM20
import Derived.Test.YtedbhlgjcnnknaaGreatDoorM18
import Derived.Maps.AppendAt
import Derived.Lib.SliceRun
import Derived.Deep.DeepCutAuto
import Derived.WalkSpells
import Derived.WalkLawsBesides
import Derived.Laws.IdiomCopy
set_option linter.unusedVariables false
set_option linter.unusedSimpArgs false
set_option linter.unusedSectionVars false
namespace Go.Proofs.YtedbhlgjcnnknaaGreatDoor
/- quartermasterlaw.resolved, walked: it returns true. -/
section
open Go.RowKit Qm

structure Re (w : World) (T : Nat) (A : Option Addr) (c : Nat) (ab : Nat) (ta : At) (KA : Option Addr) (kn : Nat) (ks : List Int) (wx : World) : Prop where
 t : RTree wx (fun i => i < T) A 4 smallT
 tb : Whole wx T 24 [.slice A 4 c]
 a : Whole wx ab 75 (atRow ta)
 m : Whole wx (T + 1 + 1) 85 [.int .i64 3, .slice none 0 0]
 v : Whole wx (T + 1 + 1 + 1) 30 [.slice (some ⟨ab, 0, none⟩) 1 1, .slice (some ⟨T + 1 + 1, 0, none⟩) 1 1, .slice KA kn kn, .slice none 0 0]
 k : RInts wx (fun i => T + 1 + 1 + 1 < i ∧ i < wx.heap.size) KA kn ks
 ok : (ta.nm.length ≤ maxLen ∧ ta.fl.length ≤ maxLen) ∧ kn ≤ maxLen ∧ ab ≠ T + 1 + 1 + 1
 bel : Below w.heap.size w wx
 hT : w.heap.size ≤ T
section
variable {w : World} {T : Nat} {A : Option Addr} {c : Nat} {ab : Nat} {ta : At} {KA : Option Addr} {kn : Nat} {ks : List Int} {wx wy : World}
theorem Re.move (h : Re w T A c ab ta KA kn ks wx) (hb : Below wx.heap.size wx wy) : Re w T A c ab ta KA kn ks wy :=
 ⟨h.t.under hb (fun k hk => Nat.lt_trans hk h.tb.lt), h.tb.below hb h.tb.lt, h.a.below hb h.a.lt, h.m.below hb h.m.lt, h.v.below hb h.v.lt, (h.k.below hb fun k hk => hk.2).more fun k hk => ⟨hk.1, ql hk.2 hb.size⟩, h.ok, h.bel.trans (hb.mono h.bel.size), h.hT⟩
theorem Re.ws (h : Re w T A c ab ta KA kn ks wx) : WsAt wx (fun i => i < wx.heap.size) (some ⟨ab, 0, none⟩) 1 1 (some ⟨T + 1 + 1, 0, none⟩) 1 1 KA kn kn none 0 0 ⟨[ta], [⟨3, []⟩], ks, []⟩ :=
 ⟨⟨by decide, by decide⟩, ⟨by decide, by decide⟩, ⟨qr _, h.ok.2.1⟩, ⟨by decide, by decide⟩,
  RSeq.whole [atRow ta] [ta] h.a rfl rfl (fun x hx => by simp at hx; subst hx; rfl) (fun j x y h1 h2 => by
   match j with
   | 0 => simp at h1 h2; subst h1 h2; exact ⟨rfl, h.ok.1.1, h.ok.1.2⟩
   | j + 1 => simp at h1) h.a.lt,
  RSeq.whole (α := Mem) (K := 2) (R := RMem wx (fun i => i < wx.heap.size)) (n := 1) [[.int .i64 3, .slice none 0 0]] [⟨3, []⟩] h.m rfl rfl (fun x hx => by simp at hx; subst hx; rfl) (fun j u y g1 g2 => by
   match j with
   | 0 => simp at g1 g2; subst g1 g2; exact ⟨_, _, _, rfl, by decide, by decide, Row.nil_⟩
   | j + 1 => simp at g1) h.m.lt, h.k.more fun k hk => hk.2, RSeq.nil_⟩
theorem Re.tr (h : Re w T A c ab ta KA kn ks wx) : RTree wx (fun i => i < wx.heap.size) A 4 smallT := h.t.more fun k hk => Nat.lt_trans hk h.tb.lt
theorem Re.res (h : Re w T A c ab ta KA kn ks wx) (hc : 4 ≤ c ∧ c ≤ maxLen) : Calls Tryz.prog 27 #[.agg #[.slice A 4 c], .agg #[.slice (some ⟨ab, 0, none⟩) 1 1, .slice (some ⟨T + 1 + 1, 0, none⟩) 1 1, .slice KA kn kn, .slice none 0 0], .int .i64 40000] wx (ResolveP smallT ⟨[ta], [⟨3, []⟩], ks, []⟩ 40000 wx) :=
 resolve_any smallT ⟨[ta], [⟨3, []⟩], ks, []⟩ 40000 (fun i => i < wx.heap.size) A 4 c _ _ _ _ 1 1 1 1 kn kn 0 0 wx h.tr hc.1 hc.2 h.ws (fun _ h => h) (by decide) (by decide)
theorem Re.unm (h : Re w T A c ab ta KA kn ks wx) (hc : 4 ≤ c ∧ c ≤ maxLen) : Calls Tryz.prog 28 #[.agg #[.slice A 4 c], .agg #[.slice (some ⟨ab, 0, none⟩) 1 1, .slice (some ⟨T + 1 + 1, 0, none⟩) 1 1, .slice KA kn kn, .slice none 0 0], .int .i64 40000] wx (UnmaskP smallT ⟨[ta], [⟨3, []⟩], ks, []⟩ wx) :=
 unmask_any smallT ⟨[ta], [⟨3, []⟩], ks, []⟩ (fun i => i < wx.heap.size) A 4 c _ _ _ _ 1 1 1 1 kn kn 0 0 wx h.tr hc.1 hc.2 h.ws (fun _ h => h)
theorem size_set (w : World) (p : Addr) (u : Value) : (w.setCell p u).heap.size = w.heap.size := by simp [World.setCell]
theorem Re.target (h : Re w T A c ab ta KA kn ks wx) {tb : At} (ht : tb.nm.length ≤ maxLen ∧ tb.fl.length ≤ maxLen) :
  Re w T A c wx.heap.size tb KA kn ks ((wx.setCell ⟨T + 1 + 1 + 1, 0, none⟩ (.slice (some ⟨wx.heap.size, 0, none⟩) 1 1)).alloc (.cells (atRow tb).toArray 75)) := by
 have hsz := size_set wx ⟨T + 1 + 1 + 1, 0, none⟩ (.slice (some ⟨wx.heap.size, 0, none⟩) 1 1)
 have far : Far (fun i => i = T + 1 + 1 + 1) wx ((wx.setCell ⟨T + 1 + 1 + 1, 0, none⟩ (.slice (some ⟨wx.heap.size, 0, none⟩) 1 1)).alloc (.cells (atRow tb).toArray 75)) :=
  (Far.set_ (D := fun i => i = T + 1 + 1 + 1) rfl 0 _).trans (Far.of_below _ ((Below.refl _ _).alloc (qr _) _)) fun _ _ h => h
 have hTl := h.tb.lt
 have hvl := h.v.lt
 refine ⟨h.t.keep fun p hp => far.cell (by omega) (by show ¬ (p.block = T + 1 + 1 + 1); omega), far.whole h.tb (by show ¬ (T = T + 1 + 1 + 1); omega), Whole.new _ wx.heap.size 75 (atRow tb) hsz.symm, far.whole h.m (by show ¬ (T + 1 + 1 = T + 1 + 1 + 1); omega), (h.v.set_ 0 (.slice (some ⟨wx.heap.size, 0, none⟩) 1 1)).alloc _, ?_, ⟨ht, h.ok.2.1, by omega⟩, (h.bel.setCell (p := ⟨T + 1 + 1 + 1, 0, none⟩) (by show w.heap.size ≤ T + 1 + 1 + 1; have := h.hT; omega) _).alloc (by rw [hsz]; exact h.bel.size) _, h.hT⟩
 exact (far.ints h.k fun i hi => ⟨hi.2, by show ¬ (i = T + 1 + 1 + 1); omega⟩).more fun i hi => ⟨hi.1, ql hi.2 far.size⟩
theorem Re.masked (h : Re w T A c ab ta KA kn ks wx) {xs : List Int} {n : Nat} (hn : xs.length = n) (hm : n ≤ maxLen) :
  Re w T A c ab ta (some ⟨wx.heap.size, 0, none⟩) n xs ((wx.setCell ⟨T + 1 + 1 + 1, 2, none⟩ (.slice (some ⟨wx.heap.size, 0, none⟩) n n)).alloc (.cells (xs.map (Value.int .i64)).toArray 3)) := by
 have hsz := size_set wx ⟨T + 1 + 1 + 1, 2, none⟩ (.slice (some ⟨wx.heap.size, 0, none⟩) n n)
 have far : Far (fun i => i = T + 1 + 1 + 1) wx ((wx.setCell ⟨T + 1 + 1 + 1, 2, none⟩ (.slice (some ⟨wx.heap.size, 0, none⟩) n n)).alloc (.cells (xs.map (Value.int .i64)).toArray 3)) :=
  (Far.set_ (D := fun i => i = T + 1 + 1 + 1) rfl 2 _).trans (Far.of_below _ ((Below.refl _ _).alloc (qr _) _)) fun _ _ h => h
 have hTl := h.tb.lt
 have hvl := h.v.lt
 have hw := Whole.new (wx.setCell ⟨T + 1 + 1 + 1, 2, none⟩ (.slice (some ⟨wx.heap.size, 0, none⟩) n n)) wx.heap.size 3 (xs.map (Value.int .i64)) hsz.symm
 exact ⟨h.t.keep fun p hp => far.cell (by omega) (by show ¬ (p.block = T + 1 + 1 + 1); omega), far.whole h.tb (by show ¬ (T = T + 1 + 1 + 1); omega), far.whole h.a (by show ¬ (ab = T + 1 + 1 + 1); exact h.ok.2.2), far.whole h.m (by show ¬ (T + 1 + 1 = T + 1 + 1 + 1); omega), (h.v.set_ 2 (.slice (some ⟨wx.heap.size, 0, none⟩) n n)).alloc _, hw.ints (xs := xs) ⟨by omega, hw.lt⟩ hn, ⟨h.ok.1, hm, h.ok.2.2⟩, (h.bel.setCell (p := ⟨T + 1 + 1 + 1, 2, none⟩) (by show w.heap.size ≤ T + 1 + 1 + 1; have := h.hT; omega) _).alloc (by rw [hsz]; exact h.bel.size) _, h.hT⟩
theorem set_far {B : Option Addr} {n : Nat} {l : List Mem} (h : RSet wx (fun k => T + 1 + 1 + 1 < k ∧ k < wx.heap.size) B n l) (F : Far (fun i => i = T + 1 + 1 + 1) wx wy) : RSet wy (fun k => T + 1 + 1 + 1 < k ∧ k < wy.heap.size) B n l :=
 RSet.more (fun k hk => ⟨hk.1, ql hk.2 F.size⟩) (RSet.keep h fun p hp => F.cell hp.2 (by show ¬ (p.block = T + 1 + 1 + 1); omega))
end
theorem set_two {wx : World} {b b2 : Nat} {t t2 : TypeId} {x : Bool} {p q : Int} (h1 : Whole wx b t [.bool x]) (h2 : Whole wx b2 t2 [.int .i64 p, .slice (some ⟨b, 0, none⟩) 1 1, .int .i64 q, .slice none 0 0]) : RSet wx (fun i => i < wx.heap.size) (some ⟨b2, 0, none⟩) 2 [⟨p, [x]⟩, ⟨q, []⟩] :=
 RSeq.whole (α := Mem) (K := 2) (R := RMem wx (fun i => i < wx.heap.size)) (n := 2) [[.int .i64 p, .slice (some ⟨b, 0, none⟩) 1 1], [.int .i64 q, .slice none 0 0]] [⟨p, [x]⟩, ⟨q, []⟩] h2 rfl rfl (fun x hx => by simp at hx; rcases hx with rfl | rfl <;> rfl) (fun j u y g1 g2 => by
   match j with
   | 0 => simp at g1 g2; subst g1 g2; exact ⟨_, _, _, rfl, by decide, by decide, h1.bools (xs := [x]) h1.lt rfl⟩
   | 1 => simp at g1 g2; subst g1 g2; exact ⟨_, _, _, rfl, by decide, by decide, Row.nil_⟩
   | j + 2 => simp at g1) h2.lt
set_option maxRecDepth 100000 in
set_option maxHeartbeats 6400000 in
theorem resolved_any (w : World) (hL : LaidV w) (hM : MaxW w) :
  Calls Tryz.prog 29 #[] w fun e w' => e = .returned (.bool true) ∧ Below w.heap.size w w' := by
 have Hsm := qh (small_any w hL hM)
 unfold SmallPost at Hsm
 clear hL hM
 go_enter Tryz.func29, Tryz.ntmps29
 go_upto_region 3 with (first | (go_at_call 51; refine Hsm.out.mono ?_; rintro e w1 ⟨A, c, rfl, hT, hc1, hc2, hb1⟩; refine Hid.out ?_))
 refine qh ?_
 go_upto_region 3 with fail
 have h1 := Whole.new w1 w1.heap.size 24 [.slice A 4 c] rfl
 have h2 := Whole.new (w1.alloc (.cells #[.slice A 4 c] 24)) (w1.heap.size + 1) 75 (atRow atR1) (by simp)
 have h3 := Whole.new ((w1.alloc (.cells #[.slice A 4 c] 24)).alloc (.cells (atRow atR1).toArray 75)) (w1.heap.size + 1 + 1) 85 [.int .i64 3, .slice none 0 0] (by simp)
 have h4 := Whole.new (((w1.alloc (.cells #[.slice A 4 c] 24)).alloc (.cells (atRow atR1).toArray 75)).alloc (.cells #[.int .i64 3, .slice none 0 0] 85)) (w1.heap.size + 1 + 1 + 1) 30 [.slice (some ⟨w1.heap.size + 1, 0, none⟩) 1 1, .slice (some ⟨w1.heap.size + 1 + 1, 0, none⟩) 1 1, .slice none 0 0, .slice none 0 0] (by simp)
 have hbl : Below w1.heap.size w1 ((((w1.alloc (.cells #[.slice A 4 c] 24)).alloc (.cells (atRow atR1).toArray 75)).alloc (.cells #[.int .i64 3, .slice none 0 0] 85)).alloc (.cells #[.slice (some ⟨w1.heap.size + 1, 0, none⟩) 1 1, .slice (some ⟨w1.heap.size + 1 + 1, 0, none⟩) 1 1, .slice none 0 0, .slice none 0 0] 30)) := ((((Below.refl _ w1).alloc (qr _) _).alloc (by simp) _).alloc (by simp; omega) _).alloc (by simp; omega) _
 have Y3 : Hid (Re w w1.heap.size A c (w1.heap.size + 1) atR1 none 0 [] _) := qh ⟨(hT.under hbl fun k hk => hk.2).more fun k hk => hk.2, ((h1.alloc _).alloc _).alloc _, (h2.alloc _).alloc _, h3.alloc _, h4, RInts.nil_, ⟨⟨by decide, by decide⟩, Nat.zero_le _, by omega⟩, hb1.trans (hbl.mono hb1.size), hb1.size⟩
 rw [show (atRow atR1).toArray = (#[.string ⟨#[97]⟩, .int .i64 0, .int .i64 0, .int .i64 0, .string ⟨#[]⟩, .bool false] : Array Value) from rfl] at Y3
 clear h1 h2 h3 h4 hbl hT hb1
 generalize w1.heap.size = T at Y3 ⊢
 generalize World.alloc (World.alloc (World.alloc (World.alloc w1 _) _) _) _ = w3 at Y3 ⊢
 have HR3 : Hid (Calls Tryz.prog 27 _ w3 (ResolveP smallT wsR1 40000 w3)) := qh (Y3.out.res ⟨hc1, hc2⟩)
 have t0 := Y3.out.tb.cell 0
 have v0 := Y3.out.v.cell 0; have v1 := Y3.out.v.cell 1; have v2 := Y3.out.v.cell 2; have v3 := Y3.out.v.cell 3
 have y0 := Y3.out.v.free 0; have y2 := Y3.out.v.free 2
 simp only [qgz, qgs] at t0 v0 v1 v2 v3
 have vlt := Y3.out.v.lt
 have tlt := Y3.out.tb.lt
 go_upto_region 4 with (first | (go_at_call 27; refine HR3.out.mono ?_; rintro e w5 ⟨Aa, na, ca, Ba, ka, da, rfl, hSa, ha1, ha2, -, -, -, hb5⟩; rw [res_R1.1]; refine Hid.out ?_))
 refine qh ?_
 rw [res_R1.2] at hSa
 obtain rfl : 2 = na := hSa.len
 have Y5 := qh (Y3.out.move hb5)
 have hvl3 := Y3.out.v.lt
 have SA5 := qh (hSa.more (S' := fun k => T + 1 + 1 + 1 < k ∧ k < w5.heap.size) fun k hk => ⟨by omega, hk.2⟩)
 clear t0 v0 v1 v2 v3 y0 y2 vlt tlt HR3 Y3 hb5 hSa hvl3
 have t0 := Y5.out.tb.cell 0
 have v0 := Y5.out.v.cell 0; have v1 := Y5.out.v.cell 1; have v2 := Y5.out.v.cell 2; have v3 := Y5.out.v.cell 3
 have y0 := Y5.out.v.free 0; have y2 := Y5.out.v.free 2
 simp only [qgz, qgs] at t0 v0 v1 v2 v3
 have vlt := Y5.out.v.lt
 have tlt := Y5.out.tb.lt
 go_upto_region 5 with fail
 have Y6 := Y5.out.target (tb := atR2) ⟨by decide, by decide⟩
 have F6 : Far (fun i => i = T + 1 + 1 + 1) w5 ((w5.setCell ⟨T + 1 + 1 + 1, 0, none⟩ (.slice (some ⟨w5.heap.size, 0, none⟩) 1 1)).alloc (.cells (atRow atR2).toArray 75)) :=
  (Far.set_ (D := fun i => i = T + 1 + 1 + 1) rfl 0 _).trans (Far.of_below _ ((Below.refl _ _).alloc (qr _) _)) fun _ _ h => h
 have Y6 := qh Y6
 have F6 := qh F6
 rw [show (atRow atR2).toArray = (#[.string ⟨#[97]⟩, .int .i64 0, .int .i64 0, .int .i64 0, .string ⟨#[120]⟩, .bool true] : Array Value) from rfl] at Y6 F6
 have SA6 := qh (set_far SA5.out F6.out)
 clear t0 v0 v1 v2 v3 y0 y2 vlt tlt F6 SA5 Y5
 generalize World.alloc (World.setCell w5 _ _) _ = w6 at Y6 SA6 ⊢
 generalize w5.heap.size = ab at Y6 ⊢
 have HR6 : Hid (Calls Tryz.prog 27 _ w6 (ResolveP smallT wsR2 40000 w6)) := qh (Y6.out.res ⟨hc1, hc2⟩)
 have t0 := Y6.out.tb.cell 0
 have v0 := Y6.out.v.cell 0; have v1 := Y6.out.v.cell 1; have v2 := Y6.out.v.cell 2; have v3 := Y6.out.v.cell 3
 have y0 := Y6.out.v.free 0; have y2 := Y6.out.v.free 2
 simp only [qgz, qgs] at t0 v0 v1 v2 v3
 have vlt := Y6.out.v.lt
 have tlt := Y6.out.tb.lt
 go_upto_region 6 with (first | (go_at_call 27; refine HR6.out.mono ?_; rintro e w7 ⟨Ab, nb, cb, Bb, kb, db, rfl, hSb, hb1, hb2, -, -, -, hb7⟩; rw [res_R2.1]; refine Hid.out ?_))
 refine qh ?_
 rw [res_R2.2] at hSb
 obtain rfl : 2 = nb := hSb.len
 have Y7 := qh (Y6.out.move hb7)
 have hvl6 := Y6.out.v.lt
 have SA7 := qh ((SA6.out.under hb7 fun k hk => hk.2).more (S' := fun k => T + 1 + 1 + 1 < k ∧ k < w7.heap.size) fun k hk => ⟨hk.1, ql hk.2 hb7.size⟩)
 have SB7 := qh (hSb.more (S' := fun k => T + 1 + 1 + 1 < k ∧ k < w7.heap.size) fun k hk => ⟨by omega, hk.2⟩)
 clear t0 v0 v1 v2 v3 y0 y2 vlt tlt HR6 Y6 hb7 hSb hvl6 SA6
 have t0 := Y7.out.tb.cell 0
 have v0 := Y7.out.v.cell 0; have v1 := Y7.out.v.cell 1; have v2 := Y7.out.v.cell 2; have v3 := Y7.out.v.cell 3
 have y0 := Y7.out.v.free 0; have y2 := Y7.out.v.free 2
 simp only [qgz, qgs] at t0 v0 v1 v2 v3
 have vlt := Y7.out.v.lt
 have tlt := Y7.out.tb.lt
 go_upto_region 7 with fail
 have Y8 := qh (Y7.out.masked (xs := [0, 2]) (n := 2) rfl (by decide))
 have F8 : Hid (Far (fun i => i = T + 1 + 1 + 1) w7 ((w7.setCell ⟨T + 1 + 1 + 1, 2, none⟩ (.slice (some ⟨w7.heap.size, 0, none⟩) 2 2)).alloc (.cells (([0, 2] : List Int).map (Value.int .i64)).toArray 3))) :=
  qh ((Far.set_ (D := fun i => i = T + 1 + 1 + 1) rfl 2 _).trans (Far.of_below _ ((Below.refl _ _).alloc (qr _) _)) fun _ _ h => h)
 rw [show (([0, 2] : List Int).map (Value.int .i64)).toArray = (#[.int .i64 0, .int .i64 2] : Array Value) from rfl] at Y8 F8
 have SA8 := qh (set_far SA7.out F8.out)
 have SB8 := qh (set_far SB7.out F8.out)
 clear t0 v0 v1 v2 v3 y0 y2 vlt tlt F8 SA7 SB7 Y7
 generalize World.alloc (World.setCell w7 _ _) _ = w8 at Y8 SA8 SB8 ⊢
 generalize w7.heap.size = kb2 at Y8 ⊢
 have HR8 : Hid (Calls Tryz.prog 27 _ w8 (ResolveP smallT wsR3 40000 w8)) := qh (Y8.out.res ⟨hc1, hc2⟩)
 have t0 := Y8.out.tb.cell 0
 have v0 := Y8.out.v.cell 0; have v1 := Y8.out.v.cell 1; have v2 := Y8.out.v.cell 2; have v3 := Y8.out.v.cell 3
 have y0 := Y8.out.v.free 0; have y2 := Y8.out.v.free 2
 simp only [qgz, qgs] at t0 v0 v1 v2 v3
 have vlt := Y8.out.v.lt
 have tlt := Y8.out.tb.lt
 go_upto_region 8 with (first | (go_at_call 27; refine HR8.out.mono ?_; rintro e w9 ⟨Ac, nc, cc, Bc, kc, dc, rfl, -, -, -, hPc, -, -, hb9⟩; rw [res_R3]; refine Hid.out ?_))
 refine qh ?_
 have Y9 := qh (Y8.out.move hb9)
 have hkc : 0 < kc := by have := prf_R3; rw [hPc.len] at this; exact this
 have SA9 := qh ((SA8.out.under hb9 fun k hk => hk.2).more (S' := fun k => k < w9.heap.size) fun k hk => ql hk.2 hb9.size)
 have SB9 := qh ((SB8.out.under hb9 fun k hk => hk.2).more (S' := fun k => k < w9.heap.size) fun k hk => ql hk.2 hb9.size)
 clear t0 v0 v1 v2 v3 y0 y2 vlt tlt HR8 Y8 hb9 hPc SA8 SB8
 have HU9 : Hid (Calls Tryz.prog 28 _ w9 (UnmaskP smallT wsR3 w9)) := qh (Y9.out.unm ⟨hc1, hc2⟩)
 have t0 := Y9.out.tb.cell 0
 have v0 := Y9.out.v.cell 0; have v1 := Y9.out.v.cell 1; have v2 := Y9.out.v.cell 2; have v3 := Y9.out.v.cell 3
 have y0 := Y9.out.v.free 0; have y2 := Y9.out.v.free 2
 simp only [qgz, qgs] at t0 v0 v1 v2 v3
 have vlt := Y9.out.v.lt
 have tlt := Y9.out.tb.lt
 go_upto_region 9 with (first | (go_at_call 28; refine HU9.out.mono ?_; rintro e w10 ⟨Ad, nd, cd, rfl, hId, hd1, hd2, hb10⟩; rw [unm_R3.1]; refine Hid.out ?_))
 refine qh ?_
 rw [unm_R3.2] at hId
 obtain rfl : 1 = nd := hId.len
 have B10 := qh (Y9.out.bel.trans (hb10.mono Y9.out.bel.size))
 have SA10 := qh ((SA9.out.under hb10 fun k hk => hk).more (S' := fun k => k < w10.heap.size) fun k hk => ql hk hb10.size)
 have SB10 := qh ((SB9.out.under hb10 fun k hk => hk).more (S' := fun k => k < w10.heap.size) fun k hk => ql hk hb10.size)
 have ID10 := qh (hId.more (S' := fun k => k < w10.heap.size) fun k hk => hk.2)
 have hkc1 : (0 : Int) < kc := by omega
 clear t0 v0 v1 v2 v3 y0 y2 vlt tlt HU9 Y9 hb10 hId SA9 SB9
 have hW1 := Whole.new w10 w10.heap.size 4 [.bool false] rfl
 have hW2 := Whole.new (w10.alloc (.cells #[.bool false] 4)) (w10.heap.size + 1) 85 [.int .i64 1, .slice (some ⟨w10.heap.size, 0, none⟩) 1 1, .int .i64 3, .slice none 0 0] (by simp)
 have hbx : Below w10.heap.size w10 ((w10.alloc (.cells #[.bool false] 4)).alloc (.cells #[.int .i64 1, .slice (some ⟨w10.heap.size, 0, none⟩) 1 1, .int .i64 3, .slice none 0 0] 85)) := ((Below.refl _ _).alloc (qr _) _).alloc (by simp) _
 have hSS := sameSetr_any memR1 memR1 (fun k => k < ((w10.alloc (.cells #[.bool false] 4)).alloc (.cells #[.int .i64 1, .slice (some ⟨w10.heap.size, 0, none⟩) 1 1, .int .i64 3, .slice none 0 0] 85)).heap.size) Aa (some ⟨w10.heap.size + 1, 0, none⟩) 2 ca 2 2 _ ((SA10.out.under hbx fun k hk => hk).more fun k hk => ql hk hbx.size) (set_two (hW1.alloc _) hW2) (fun _ h => h) (by decide) (by decide)
 rw [eq_R1] at hSS
 have HSS := qh hSS
 have B11 := qh (B10.out.trans (hbx.mono B10.out.size))
 have SB11 := qh ((SB10.out.under hbx fun k hk => hk).more (S' := fun k => k < ((w10.alloc (.cells #[.bool false] 4)).alloc (.cells #[.int .i64 1, .slice (some ⟨w10.heap.size, 0, none⟩) 1 1, .int .i64 3, .slice none 0 0] 85)).heap.size) fun k hk => ql hk hbx.size)
 have ID11 := qh ((ID10.out.below hbx fun k hk => hk).more (S' := fun k => k < ((w10.alloc (.cells #[.bool false] 4)).alloc (.cells #[.int .i64 1, .slice (some ⟨w10.heap.size, 0, none⟩) 1 1, .int .i64 3, .slice none 0 0] 85)).heap.size) fun k hk => ql hk hbx.size)
 clear hSS hW1 hW2 hbx SA10 SB10 ID10 B10
 go_wp2_with (first | (go_at_call 24; refine HSS.out.mono ?_; rintro e w12 ⟨rfl, hb12⟩; refine Hid.out ?_))
 refine qh ?_
 have B12 := qh (B11.out.trans (hb12.mono B11.out.size))
 have SB12 := qh ((SB11.out.under hb12 fun k hk => hk).more (S' := fun k => k < w12.heap.size) fun k hk => ql hk hb12.size)
 have ID12 := qh ((ID11.out.below hb12 fun k hk => hk).more (S' := fun k => k < w12.heap.size) fun k hk => ql hk hb12.size)
 clear hb12 B11 SB11 ID11 HSS
 have hW1 := Whole.new w12 w12.heap.size 4 [.bool true] rfl
 have hW2 := Whole.new (w12.alloc (.cells #[.bool true] 4)) (w12.heap.size + 1) 85 [.int .i64 1, .slice (some ⟨w12.heap.size, 0, none⟩) 1 1, .int .i64 2, .slice none 0 0] (by simp)
 have hbx : Below w12.heap.size w12 ((w12.alloc (.cells #[.bool true] 4)).alloc (.cells #[.int .i64 1, .slice (some ⟨w12.heap.size, 0, none⟩) 1 1, .int .i64 2, .slice none 0 0] 85)) := ((Below.refl _ _).alloc (qr _) _).alloc (by simp) _
 have hSS := sameSetr_any memR2 memR2 (fun k => k < ((w12.alloc (.cells #[.bool true] 4)).alloc (.cells #[.int .i64 1, .slice (some ⟨w12.heap.size, 0, none⟩) 1 1, .int .i64 2, .slice none 0 0] 85)).heap.size) Ab (some ⟨w12.heap.size + 1, 0, none⟩) 2 cb 2 2 _ ((SB12.out.under hbx fun k hk => hk).more fun k hk => ql hk hbx.size) (set_two (hW1.alloc _) hW2) (fun _ h => h) (by decide) (by decide)
 rw [eq_R2] at hSS
 have HSS := qh hSS
 have B13 := qh (B12.out.trans (hbx.mono B12.out.size))
 have ID13 := qh ((ID12.out.below hbx fun k hk => hk).more (S' := fun k => k < ((w12.alloc (.cells #[.bool true] 4)).alloc (.cells #[.int .i64 1, .slice (some ⟨w12.heap.size, 0, none⟩) 1 1, .int .i64 2, .slice none 0 0] 85)).heap.size) fun k hk => ql hk hbx.size)
 clear hSS hW1 hW2 hbx SB12 ID12 B12
 go_wp2_with (first | (go_at_call 24; refine HSS.out.mono ?_; rintro e w14 ⟨rfl, hb14⟩; refine Hid.out ?_))
 refine qh ?_
 have B14 := qh (B13.out.trans (hb14.mono B13.out.size))
 have ID14 := qh ((ID13.out.below hb14 fun k hk => hk).more (S' := fun k => k < w14.heap.size) fun k hk => ql hk hb14.size)
 clear hb14 B13 ID13 HSS
 have hal := (Below.refl w14.heap.size w14).alloc (qr _) (.cells #[.int .i64 2] 3)
 have hI := Whole.new w14 w14.heap.size 3 [.int .i64 2] rfl
 have hEQ := equal_int Ad (some ⟨w14.heap.size, 0, none⟩) 1 1 cd 1 [2] [2] _ (fun k => k < (w14.alloc (.cells #[.int .i64 2] 3)).heap.size) ((ID14.out.below hal (fun k hk => hk)).more fun k hk => ql hk hal.size) (hI.ints (xs := [2]) hI.lt rfl) (by decide) (by decide)
 rw [show (([2] : List Int) == [2]) = true from by decide] at hEQ
 have HEQ := qh hEQ
 have B15 := qh (B14.out.trans (hal.mono B14.out.size))
 clear hal hI hEQ ID14 B14
 go_wp2_with (first | (go_at_call 32; refine HEQ.out.mono ?_; rintro e w16 ⟨rfl, nq, rfl⟩; refine Hid.out ?_))
 refine qh ?_
 have B16 := qh (below_drewN B15.out nq)
 clear B15 HEQ
 go_wp2
 go_ret
 exact ⟨rfl, B16.out⟩
end
/- What is wrong with a wish is never that there is none. No program in sight. -/
section
open Go.RowKit Qm

end
/- quartermasterlaw.at, walked: an index in range. -/
section
open Go.RowKit

end
/- valid.holds, walked. -/
section
open Go.RowKit Qm

structure Hb (w : World) (A : Option Addr) (n c : Nat) (B : Option Addr) (q d k : Nat) (nr : List Value) (wx : World) : Prop where
 t : Whole wx w.heap.size 24 [.slice A n c]
 l : Whole wx (w.heap.size + 1) 26 [.slice B q d]
 k : Whole wx (w.heap.size + 1 + 1) 3 [.int .i64 (k : Int)]
 n : Whole wx (w.heap.size + 1 + 1 + 1) 99 nr
 e : Whole wx (w.heap.size + 1 + 1 + 1 + 1) 164 [.func (.func 112) #[] #[.pointer (some ⟨w.heap.size, 0, none⟩), .pointer (some ⟨w.heap.size + 1, 0, none⟩), .pointer (some ⟨w.heap.size + 1 + 1, 0, none⟩)]]
 bel : Below w.heap.size w wx
end
/- valid.Holds, walked. -/
section
open Go.RowKit Qm

end
/- slices.Contains of ints. (Of the shelf: Tryz.slices_Contains_int Tryz.slices_Contains_int_empty) -/
section
open Go.RowKit

theorem ints_cell {w : World} {S : Nat → Prop} {b o n : Nat} {xs : List Int} (h : RInts w S (some ⟨b, o, none⟩) n xs) : ∀ j, j < xs.length → w.cell? ⟨b, o + j, none⟩ = some (.int .i64 (xs.getD j 0)) := by
 intro j hj
 obtain ⟨b', o', e, _, hc⟩ := h.at_ (k := j) (by have := h.len; omega)
 injection e with e; injection e with e1 e2
 subst e1 e2
 exact hc
theorem containsI_any (A : Option Addr) (n c : Nat) (xs : List Int) (x : Int) (w : World) (S : Nat → Prop) (h : RInts w S A n xs) (hn : n ≤ maxLen) :
  Calls Tryz.prog 43 #[.slice A n c, .int .i64 x] w fun e w' => e = .returned (.bool (xs.contains x)) ∧ w' = w := by
 have hl := h.len
 unfold maxLen at hn
 by_cases h0 : n = 0
 ·subst h0
  obtain rfl := List.eq_nil_of_length_eq_zero hl
  exact (Tryz.slices_Contains_int_empty A c x w).mono fun e w' ⟨he, hw⟩ => ⟨by simpa using he, hw⟩
 ·obtain ⟨b, o, rfl, _⟩ := Row.some_lit h (by omega)
  refine (Tryz.slices_Contains_int b o n c xs x w (by omega) (by omega) (ints_cell h)).mono fun e w' ⟨he, hw⟩ => ⟨?_, hw⟩
  rw [he, List.take_of_length_le (by omega)]

end
/- valid.valid, walked. -/
section
open Go.RowKit Qm

end
/- valid.Valid, walked. -/
section
open Go.RowKit Qm

end
/- Walk: rup.Refutes. -/
section
open Go.RowKit
end
/- ResolveProves, walked: it returns true. -/
section
open Go.RowKit Qm

end
/- Flags gathered into a wish's list: what the loop of two laws keeps. -/
section
open Go.RowKit Qm

def pairsV (xs : List (Int × Int)) : List Value := xs.flatMap fun p => [.int .i64 p.1, .int .i64 p.2]
structure Ro (B0 : Nat) (wb : Nat) (a0 a1 a2 ov : Value) (xs : List (Int × Int)) (w wr : World) : Prop where
 b : Below B0 w wr
 wi : Whole wr wb 30 [a0, a1, a2, ov]
 o : wr.ownsRow (wb + 1) 86 2 ov xs.length (pairsV xs)
 hb : B0 ≤ wb
section
variable {B0 wb : Nat} {a0 a1 a2 ov : Value} {xs : List (Int × Int)} {w wr wy : World}
end
end
/- ResolveNothing, walked: it returns true. -/
section
open Go.RowKit Qm

structure Tn (w : World) (A : Option Addr) (n c : Nat) (wx : World) : Prop where
 t : Whole wx w.heap.size 24 [.slice A n c]
 bel : Below w.heap.size w wx
section
variable {w : World} {A : Option Addr} {n c : Nat} {wx wy : World}
end
end
/- slices.DeleteFunc of ints, of a slice that is owned. -/
section
open Go.RowKit

theorem Far.cells_ {D : Nat → Prop} {b : Nat} (hb : D b) : ∀ (vs : List Value) (o : Nat) (w : World), Far D w (w.setCells b o vs)
 | [], _, w => Far.refl _ _
 | v :: r, o, w => (Far.set_ hb o v).trans (Far.cells_ hb r (o + 1) _) fun _ _ h => h
theorem idxOf_cases (p : Int → Bool) (xs : List Int) : (idxOf p xs = -1 ∧ xs.filter (fun x => !p x) = xs) ∨ ∃ i : Nat, idxOf p xs = i ∧ i < xs.length ∧ (xs.take (i + 1)).filter (fun x => !p x) = xs.take i := by
 unfold idxOf
 cases h : xs.findIdx? p with
 | none =>
  refine .inl ⟨rfl, List.filter_eq_self.2 fun x hx => ?_⟩
  rw [List.findIdx?_eq_none_iff] at h
  rw [h x hx]; rfl
 | some i =>
  obtain ⟨hi, h1, h2⟩ := List.findIdx?_eq_some_iff_getElem.1 h
  refine .inr ⟨i, rfl, hi, ?_⟩
  rw [List.take_succ_eq_append_getElem hi, List.filter_append, List.filter_cons, h1]
  simp only [Bool.not_true, Bool.false_eq_true, if_false, List.filter_nil, List.append_nil]
  refine List.filter_eq_self.2 fun x hx => ?_
  obtain ⟨j, hj, rfl⟩ := List.mem_iff_getElem.1 hx
  rw [List.length_take] at hj
  have := h2 j (by omega)
  rw [List.getElem_take]; simpa using this
structure Del (p : Int → Bool) (xs ys : List Int) (i j : Nat) : Prop where
 len : ys.length = xs.length
 lt : i < j
 le : j ≤ xs.length
 front : ys.take i = (xs.take j).filter (fun x => !p x)
 rest : ys.drop j = xs.drop j
theorem Del.start {p : Int → Bool} {xs : List Int} {i : Nat} (hi : i < xs.length) (h : (xs.take (i + 1)).filter (fun x => !p x) = xs.take i) : Del p xs xs i (i + 1) := ⟨rfl, by omega, hi, h.symm, rfl⟩
section
variable {p : Int → Bool} {xs ys : List Int} {i j : Nat}
theorem Del.read (h : Del p xs ys i j) (hj : j < xs.length) : ys.getD j 0 = xs.getD j 0 := by
 have h1 := congrArg (fun l => l[0]?) h.rest
 simp only [List.getElem?_drop, Nat.add_zero] at h1
 rw [List.getD_eq_getElem?_getD, List.getD_eq_getElem?_getD, h1]
theorem Del.drop1 (h : Del p xs ys i j) : ys.drop (j + 1) = xs.drop (j + 1) := by
 have h1 := congrArg (List.drop 1) h.rest
 rw [List.drop_drop, List.drop_drop] at h1
 exact h1
theorem take_filter_snoc (hj : j < xs.length) : (xs.take (j + 1)).filter (fun x => !p x) = (xs.take j).filter (fun x => !p x) ++ if p (xs.getD j 0) = true then [] else [xs.getD j 0] := by
 rw [List.getD_eq_getElem?_getD, List.getElem?_eq_getElem hj, Option.getD_some, List.take_succ_eq_append_getElem hj, List.filter_append]
 congr 1
 cases h : p xs[j] <;> simp [h]
theorem Del.skip (h : Del p xs ys i j) (hj : j < xs.length) (hp : p (xs.getD j 0) = true) : Del p xs ys i (j + 1) :=
 ⟨h.len, by have := h.lt; omega, hj, by rw [take_filter_snoc hj, if_pos hp, List.append_nil]; exact h.front, h.drop1⟩
theorem Del.keep (h : Del p xs ys i j) (hj : j < xs.length) (hp : p (xs.getD j 0) = false) : Del p xs (ys.set i (xs.getD j 0)) (i + 1) (j + 1) := by
 have h1 := h.lt
 have h2 := h.len
 refine ⟨by rw [List.length_set]; exact h2, by omega, hj, ?_, ?_⟩
 ·rw [take_filter_snoc hj, hp, if_neg (by decide), ← h.front, List.take_succ_eq_append_getElem (by rw [List.length_set]; omega), List.getElem_set_self, List.take_set_of_le (by omega)]
 ·rw [List.drop_set_of_lt (by omega)]; exact h.drop1
end
set_option maxRecDepth 100000 in
set_option maxHeartbeats 3200000 in
theorem deleteFuncI_any (A : Option Addr) (n c : Nat) (xs : List Int) (F : FuncId) (caps : Array Value) (p : Int → Bool) (base : Nat) (w : World) (hown : w.ownsRow base 3 1 (.slice A n c) n (xs.map (.int .i64))) (hen : ∀ (args : Array Value) (W : World), (callFunc F args).run Tryz.prog W = .ok (.enter F args) W)
  (hp : ∀ wx, Far (fun i => (Value.slice A n c).ownBlock = some i) w wx → ∀ x ∈ xs, Calls Tryz.prog F (#[.int .i64 x] ++ caps) wx fun e w' => e = .returned (.bool (p x)) ∧ ∃ q, w' = wx.drewN q) :
  Calls Tryz.prog 41 #[.slice A n c, .func (.func F) #[] caps] w fun e w' => ∃ m c', e = .returned (.slice A m c') ∧ RInts w' (fun i => (Value.slice A n c).ownBlock = some i) A m (xs.filter fun x => !p x) ∧ m ≤ c' ∧ c' ≤ maxLen ∧ Far (fun i => (Value.slice A n c).ownBlock = some i) w w' := by
 obtain ⟨A', c', he, hnc, hc, hrow⟩ := own_form hown
 injection he with e1 _ e2
 subst e1 e2
 have hl : xs.length = n := by have := hrow.len; simpa using this
 have hrow' : RInts w (fun i => (Value.slice A n c).ownBlock = some i) A n xs := by
  obtain ⟨A2, c2, he2, _, _, hr2⟩ := own_formK hown
  injection he2 with f1 _ f2
  subst f1 f2
  rw [Nat.mul_one] at hr2
  exact hr2
 have HIX := qh (indexFunc_any A n c xs F caps p w _ hrow' (by omega) ⟨hen, fun x hx d => (hp _ (Far.drewN (Far.refl _ _) d) x hx).mono fun e w' ⟨h1, q, h2⟩ => ⟨h1, _, h2.trans (World.drewN_drewN _ _ _)⟩⟩)
 have HP := qh hp; have HR := qh hrow'; have HL := qh hl
 have HNC := qh (And.intro hnc hc)
 unfold maxLen at hc
 have HOWN := qh hown
 clear hp hrow hrow' hl hown
 rcases idxOf_cases p xs with ⟨h1, h2⟩ | ⟨i0, h1, h2, h3⟩
 ·rw [h1] at HIX
  go_enter Tryz.func41, Tryz.ntmps41
  go_wp2_with (first | (go_at_call 76; refine HIX.out.mono ?_; rintro e w2 ⟨rfl, q2, rfl⟩; refine Hid.out ?_))
  refine qh ?_
  go_wp2
  go_ret
  exact ⟨n, c, rfl, by rw [h2]; exact RInts.keep HR.out fun _ _ => rfl, HNC.out.1, HNC.out.2, Far.drewN (Far.refl _ _) q2⟩
 ·rw [h1] at HIX
  obtain ⟨g, c2, sp, hv, hg, _, _, hW⟩ := own_whole HOWN.out (by have := HL.out; omega)
  injection hv with e1 _ e2
  subst e1 e2
  have HW := qh hW
  have hi1 : (i0 : Int) + 1 ≤ 9223372036854775807 := by have := HL.out; omega
  have hin : i0 < n := by have := HL.out; omega
  have HF0 := qh (Far.refl (fun i => (Value.slice (some ⟨g, 0, none⟩) n c).ownBlock = some i) w)
  have HD0 := qh (Del.start h2 h3)
  have hneg : ((i0 : Int) == -1) = false := by rw [beq_eq_false_iff_ne]; omega
  clear h1 h2 h3 hW
  go_enter Tryz.func41, Tryz.ntmps41
  go_upto_region 5 with (first | (go_at_call 76; refine HIX.out.mono ?_; rintro e w2 ⟨rfl, q2, rfl⟩; refine Hid.out ?_))
  refine qh ?_
  have HW2 := qh (HW.out.drewN q2)
  have HF2 := qh (Far.drewN HF0.out q2)
  clear HIX HW HF0
  generalize w.drewN q2 = w2 at *
  go_upto_region 5 with fail
  have HEN := qh hen
  clear hen
  go_loopg [5, 6] (n - (i0 + 1)) (fun gk s5 s6 wr => ∃ (i j : Nat) (ys : List Int), Hid (j + gk = n) ∧ s5 = .int .i64 i ∧ s6 = .int .i64 j ∧ Hid (Del p xs ys i j) ∧ Hid (Whole wr g 3 (ys.map (.int .i64) ++ sp)) ∧ Hid (Far (fun i => (Value.slice (some ⟨g, 0, none⟩) n c).ownBlock = some i) w wr))
  case atStart => exact ⟨i0, i0 + 1, xs, qh (by have := HD0.out.le; have := HL.out; omega), rfl, by go_num, HD0, HW2, HF2⟩
  case round =>
   obtain ⟨i, j, ys, Hj, rfl, rfl, HD, HW, HF⟩ := hrel
   by_cases hj : j < n
   ·have hjx : j < xs.length := by have := HL.out; omega
    have hcj := HW.out.cell j
    have hread := HD.out.read hjx
    have hyl : j < ys.length := by have := HD.out.len; omega
    rw [List.getElem?_append_left (by rw [List.length_map]; exact hyl), List.getElem?_map, List.getElem?_eq_getElem hyl] at hcj
    have hye : ys[j] = xs.getD j 0 := by
     rw [← hread, List.getD_eq_getElem?_getD, List.getElem?_eq_getElem hyl, Option.getD_some]
    rw [hye] at hcj
    simp only [Option.map_some] at hcj
    have HSK := qh (HD.out.skip hjx)
    have HKE := qh (HD.out.keep hjx)
    have HC := qh (HP.out wr HF.out (xs.getD j 0) (by rw [List.getD_eq_getElem?_getD, List.getElem?_eq_getElem hjx]; exact List.getElem_mem _))
    have hij := HD.out.lt
    obtain ⟨x, hx⟩ : ∃ x, xs.getD j 0 = x := ⟨_, rfl⟩
    rw [hx] at hcj HSK HKE HC
    obtain ⟨b, hb⟩ : ∃ b, p x = b := ⟨_, rfl⟩
    rw [hb] at HSK HKE HC
    have henter := HEN.out
    have hj1 : (j : Int) < n := by omega
    have hj0 : (0 : Int) ≤ (j : Int) := by omega
    have hi0' : (0 : Int) ≤ (i : Int) := by omega
    have hi1' : (i : Int) < n := by omega
    have hjm : (j : Int) + 1 ≤ 9223372036854775807 := by omega
    have him : (i : Int) + 1 ≤ 9223372036854775807 := by omega
    clear hread hyl hye hjx hx hb
    go_wp2_with fail
    refine HC.out.mono ?_
    rintro e w' ⟨rfl, q, rfl⟩
    have HW9 := qh (HW.out.drewN q)
    have HF9 := qh (Far.drewN HF.out q)
    have hgl := HW9.out.lt
    have hci := HW9.out.cell i
    have hfi := HW9.out.free i
    have HYL := qh HD.out.len
    rw [List.getElem?_append_left (by rw [List.length_map, HYL.out, HL.out]; omega), List.getElem?_map, List.getElem?_eq_getElem (by rw [HYL.out, HL.out]; omega)] at hci
    simp only [Option.map_some] at hci
    generalize wr.drewN q = w9 at *
    clear HC HW HF hcj
    cases b
    ·go_wp2_with fail
     go_roundg (gk - 1)
     case measure => have := Hj.out; omega
     case rel => exact ⟨i + 1, j + 1, ys.set i x, qh (by have := Hj.out; omega), by go_num, by go_num, qh (HKE.out (by trivial)), qh (by
      have h := HW9.out.set_ i (.int .i64 x)
      rw [List.set_append_left _ _ (by rw [List.length_map, HYL.out, HL.out]; omega), ← List.map_set] at h
      exact h), qh (HF9.out.trans (Far.set_ (D := fun k => k = g) rfl i (.int .i64 x)) fun k _ hk => by rw [hk]; rfl)⟩
    ·go_wp2_with fail
     go_roundg (gk - 1)
     case measure => have := Hj.out; omega
     case rel => exact ⟨i, j + 1, ys, qh (by have := Hj.out; omega), rfl, by go_num, qh (HSK.out (by trivial)), HW9, HF9⟩
   ·obtain rfl : j = n := by have := Hj.out; omega
    have hij := HD.out.lt
    have HYL := qh HD.out.len
    have hcl : ∀ ty, (Builtin.clear_ #[27] ty #[.slice (some ⟨g, i, none⟩) (j - i) (c - i)]).run Tryz.prog wr = .ok (.tuple #[]) (wr.setCells g i (List.replicate (j - i) (.int .i64 0))) :=
     fun ty => Lib.run_clear_slice wr 27 3 ty (.int .i64 0) Tryz.underlying27 (fun w => by kernel_rfl) rfl rfl g i _ _ (by omega) (fun t ht => by rw [HW.out.cell, List.getElem?_append_left (by rw [List.length_map, HYL.out, HL.out]; omega), List.getElem?_map, List.getElem?_eq_getElem (by rw [HYL.out, HL.out]; omega)]; rfl) (fun t ht => HW.out.free _)
    have hfr := HD.out.front
    rw [List.take_of_length_le (l := xs) (by rw [HL.out]; exact qr _)] at hfr
    have hrow : RInts (wr.setCells g i (List.replicate (j - i) (.int .i64 0))) (fun k => (Value.slice (some ⟨g, 0, none⟩) j c).ownBlock = some k) (some ⟨g, 0, none⟩) i (xs.filter fun x => !p x) := by
     rw [← hfr]
     refine ⟨by rw [List.length_map, List.length_take, HYL.out, HL.out]; omega, fun _ => ⟨g, 0, rfl, rfl, fun k hk => ?_⟩⟩
     rw [Nat.zero_add, World.cell?_setCells_out g _ _ _ _ (fun _ _ => .inl hk), HW.out.cell, List.getElem?_append_left (by rw [List.length_map, HYL.out, HL.out]; omega), List.map_take, List.getElem?_take_of_lt hk]
    have hfar : Far (fun k => (Value.slice (some ⟨g, 0, none⟩) j c).ownBlock = some k) w (wr.setCells g i (List.replicate (j - i) (.int .i64 0))) := HF.out.trans (Far.cells_ (D := fun k => k = g) rfl _ _ _) fun k _ hk => by rw [hk]; rfl
    have HRW := qh hrow; have HFR := qh hfar
    have hic : i < c := by omega
    have hij1 : (i : Int) ≤ j := by omega
    have hi00 : (0 : Int) ≤ (i : Int) := by omega
    clear hrow hfar hfr HD HW HF
    generalize wr.setCells g i (List.replicate (j - i) (.int .i64 0)) = w12 at *
    go_wp2
    go_ret
    exact ⟨i, c, rfl, HRW.out, by omega, by unfold maxLen; omega, HFR.out⟩
end
end Go.Proofs.YtedbhlgjcnnknaaGreatDoor
