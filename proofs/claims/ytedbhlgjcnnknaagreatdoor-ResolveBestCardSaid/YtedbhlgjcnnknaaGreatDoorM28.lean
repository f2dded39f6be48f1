/- Parts of the proof: walks and plain laws, side by side. -/
import Derived.Test.YtedbhlgjcnnknaaGreatDoorM27
import Derived.Test.YtedbhlgjcnnknaaGreatDoorM25
import Derived.Test.YtedbhlgjcnnknaaGreatDoorM1
import Derived.Test.YtedbhlgjcnnknaaGreatDoorProg
import Derived.Test.YtedbhlgjcnnknaaGreatDoorM20
import Derived.Deep.RegionHeld3
import Derived.Laws.EntriesVeiled
import Derived.Test.YtedbhlgjcnnknaaGreatDoorM23
import Derived.Test.YtedbhlgjcnnknaaGreatDoorM6
import Derived.Test.YtedbhlgjcnnknaaGreatDoorShelf
set_option linter.unusedVariables false
set_option linter.unusedSimpArgs false
set_option linter.unusedSectionVars false
namespace Go.Proofs.YtedbhlgjcnnknaaGreatDoor
/- quartermasterlaw.resolved, walked: it returns true. -/
section
open Go.RowKit Qm

structure Re (w : World) (T : Nat) (A : Option Addr) (c : Nat) (ab : Nat) (ta : At) (KA : Option Addr) (kn : Nat) (ks : List Int) (wx : World) : Prop where
 t : RTree wx (fun i => i < T) A 4 smallT
 tb : Whole wx T 24 [.slice A 4 c]
 a : Whole wx ab 75 (atRow ta)
 m : Whole wx (T + 1 + 1) 85 [.int .i64 3, .slice none 0 0]
 v : Whole wx (T + 1 + 1 + 1) 30 [.slice (some ⟨ab, 0, none⟩) 1 1, .slice (some ⟨T + 1 + 1, 0, none⟩) 1 1, .slice KA kn kn, .slice none 0 0]
 k : RInts wx (fun i => T + 1 + 1 + 1 < i ∧ i < wx.heap.size) KA kn ks
 ok : (ta.nm.length ≤ maxLen ∧ ta.fl.length ≤ maxLen) ∧ kn ≤ maxLen ∧ ab ≠ T + 1 + 1 + 1
 bel : Below w.heap.size w wx
 hT : w.heap.size ≤ T
section
variable {w : World} {T : Nat} {A : Option Addr} {c : Nat} {ab : Nat} {ta : At} {KA : Option Addr} {kn : Nat} {ks : List Int} {wx wy : World}
theorem Re.move (h : Re w T A c ab ta KA kn ks wx) (hb : Below wx.heap.size wx wy) : Re w T A c ab ta KA kn ks wy :=
 ⟨h.t.under hb (fun k hk => Nat.lt_trans hk h.tb.lt), h.tb.below hb h.tb.lt, h.a.below hb h.a.lt, h.m.below hb h.m.lt, h.v.below hb h.v.lt, (h.k.below hb fun k hk => hk.2).more fun k hk => ⟨hk.1, ql hk.2 hb.size⟩, h.ok, h.bel.trans (hb.mono h.bel.size), h.hT⟩
theorem Re.ws (h : Re w T A c ab ta KA kn ks wx) : WsAt wx (fun i => i < wx.heap.size) (some ⟨ab, 0, none⟩) 1 1 (some ⟨T + 1 + 1, 0, none⟩) 1 1 KA kn kn none 0 0 ⟨[ta], [⟨3, []⟩], ks, []⟩ :=
 ⟨⟨by decide, by decide⟩, ⟨by decide, by decide⟩, ⟨qr _, h.ok.2.1⟩, ⟨by decide, by decide⟩,
  RSeq.whole [atRow ta] [ta] h.a rfl rfl (fun x hx => by simp at hx; subst hx; rfl) (fun j x y h1 h2 => by
   match j with
   | 0 => simp at h1 h2; subst h1 h2; exact ⟨rfl, h.ok.1.1, h.ok.1.2⟩
   | j + 1 => simp at h1) h.a.lt,
  RSeq.whole (α := Mem) (K := 2) (R := RMem wx (fun i => i < wx.heap.size)) (n := 1) [[.int .i64 3, .slice none 0 0]] [⟨3, []⟩] h.m rfl rfl (fun x hx => by simp at hx; subst hx; rfl) (fun j u y g1 g2 => by
   match j with
   | 0 => simp at g1 g2; subst g1 g2; exact ⟨_, _, _, rfl, by decide, by decide, Row.nil_⟩
   | j + 1 => simp at g1) h.m.lt, h.k.more fun k hk => hk.2, RSeq.nil_⟩
theorem Re.tr (h : Re w T A c ab ta KA kn ks wx) : RTree wx (fun i => i < wx.heap.size) A 4 smallT := h.t.more fun k hk => Nat.lt_trans hk h.tb.lt
theorem Re.res (h : Re w T A c ab ta KA kn ks wx) (hc : 4 ≤ c ∧ c ≤ maxLen) : Calls Tryz.prog 27 #[.agg #[.slice A 4 c], .agg #[.slice (some ⟨ab, 0, none⟩) 1 1, .slice (some ⟨T + 1 + 1, 0, none⟩) 1 1, .slice KA kn kn, .slice none 0 0], .int .i64 40000] wx (ResolveP smallT ⟨[ta], [⟨3, []⟩], ks, []⟩ 40000 wx) :=
 resolve_any smallT ⟨[ta], [⟨3, []⟩], ks, []⟩ 40000 (fun i => i < wx.heap.size) A 4 c _ _ _ _ 1 1 1 1 kn kn 0 0 wx h.tr hc.1 hc.2 h.ws (fun _ h => h) (by decide) (by decide)
theorem Re.unm (h : Re w T A c ab ta KA kn ks wx) (hc : 4 ≤ c ∧ c ≤ maxLen) : Calls Tryz.prog 28 #[.agg #[.slice A 4 c], .agg #[.slice (some ⟨ab, 0, none⟩) 1 1, .slice (some ⟨T + 1 + 1, 0, none⟩) 1 1, .slice KA kn kn, .slice none 0 0], .int .i64 40000] wx (UnmaskP smallT ⟨[ta], [⟨3, []⟩], ks, []⟩ wx) :=
 unmask_any smallT ⟨[ta], [⟨3, []⟩], ks, []⟩ (fun i => i < wx.heap.size) A 4 c _ _ _ _ 1 1 1 1 kn kn 0 0 wx h.tr hc.1 hc.2 h.ws (fun _ h => h)
theorem size_set (w : World) (p : Addr) (u : Value) : (w.setCell p u).heap.size = w.heap.size := by simp [World.setCell]
theorem Re.target (h : Re w T A c ab ta KA kn ks wx) {tb : At} (ht : tb.nm.length ≤ maxLen ∧ tb.fl.length ≤ maxLen) :
  Re w T A c wx.heap.size tb KA kn ks ((wx.setCell ⟨T + 1 + 1 + 1, 0, none⟩ (.slice (some ⟨wx.heap.size, 0, none⟩) 1 1)).alloc (.cells (atRow tb).toArray 75)) := by
 have hsz := size_set wx ⟨T + 1 + 1 + 1, 0, none⟩ (.slice (some ⟨wx.heap.size, 0, none⟩) 1 1)
 have far : Far (fun i => i = T + 1 + 1 + 1) wx ((wx.setCell ⟨T + 1 + 1 + 1, 0, none⟩ (.slice (some ⟨wx.heap.size, 0, none⟩) 1 1)).alloc (.cells (atRow tb).toArray 75)) :=
  (Far.set_ (D := fun i => i = T + 1 + 1 + 1) rfl 0 _).trans (Far.of_below _ ((Below.refl _ _).alloc (qr _) _)) fun _ _ h => h
 have hTl := h.tb.lt
 have hvl := h.v.lt
 refine ⟨h.t.keep fun p hp => far.cell (by omega) (by show ¬ (p.block = T + 1 + 1 + 1); omega), far.whole h.tb (by show ¬ (T = T + 1 + 1 + 1); omega), Whole.new _ wx.heap.size 75 (atRow tb) hsz.symm, far.whole h.m (by show ¬ (T + 1 + 1 = T + 1 + 1 + 1); omega), (h.v.set_ 0 (.slice (some ⟨wx.heap.size, 0, none⟩) 1 1)).alloc _, ?_, ⟨ht, h.ok.2.1, by omega⟩, (h.bel.setCell (p := ⟨T + 1 + 1 + 1, 0, none⟩) (by show w.heap.size ≤ T + 1 + 1 + 1; have := h.hT; omega) _).alloc (by rw [hsz]; exact h.bel.size) _, h.hT⟩
 exact (far.ints h.k fun i hi => ⟨hi.2, by show ¬ (i = T + 1 + 1 + 1); omega⟩).more fun i hi => ⟨hi.1, ql hi.2 far.size⟩
theorem Re.masked (h : Re w T A c ab ta KA kn ks wx) {xs : List Int} {n : Nat} (hn : xs.length = n) (hm : n ≤ maxLen) :
  Re w T A c ab ta (some ⟨wx.heap.size, 0, none⟩) n xs ((wx.setCell ⟨T + 1 + 1 + 1, 2, none⟩ (.slice (some ⟨wx.heap.size, 0, none⟩) n n)).alloc (.cells (xs.map (Value.int .i64)).toArray 3)) := by
 have hsz := size_set wx ⟨T + 1 + 1 + 1, 2, none⟩ (.slice (some ⟨wx.heap.size, 0, none⟩) n n)
 have far : Far (fun i => i = T + 1 + 1 + 1) wx ((wx.setCell ⟨T + 1 + 1 + 1, 2, none⟩ (.slice (some ⟨wx.heap.size, 0, none⟩) n n)).alloc (.cells (xs.map (Value.int .i64)).toArray 3)) :=
  (Far.set_ (D := fun i => i = T + 1 + 1 + 1) rfl 2 _).trans (Far.of_below _ ((Below.refl _ _).alloc (qr _) _)) fun _ _ h => h
 have hTl := h.tb.lt
 have hvl := h.v.lt
 have hw := Whole.new (wx.setCell ⟨T + 1 + 1 + 1, 2, none⟩ (.slice (some ⟨wx.heap.size, 0, none⟩) n n)) wx.heap.size 3 (xs.map (Value.int .i64)) hsz.symm
 exact ⟨h.t.keep fun p hp => far.cell (by omega) (by show ¬ (p.block = T + 1 + 1 + 1); omega), far.whole h.tb (by show ¬ (T = T + 1 + 1 + 1); omega), far.whole h.a (by show ¬ (ab = T + 1 + 1 + 1); exact h.ok.2.2), far.whole h.m (by show ¬ (T + 1 + 1 = T + 1 + 1 + 1); omega), (h.v.set_ 2 (.slice (some ⟨wx.heap.size, 0, none⟩) n n)).alloc _, hw.ints (xs := xs) ⟨by omega, hw.lt⟩ hn, ⟨h.ok.1, hm, h.ok.2.2⟩, (h.bel.setCell (p := ⟨T + 1 + 1 + 1, 2, none⟩) (by show w.heap.size ≤ T + 1 + 1 + 1; have := h.hT; omega) _).alloc (by rw [hsz]; exact h.bel.size) _, h.hT⟩
theorem set_far {B : Option Addr} {n : Nat} {l : List Mem} (h : RSet wx (fun k => T + 1 + 1 + 1 < k ∧ k < wx.heap.size) B n l) (F : Far (fun i => i = T + 1 + 1 + 1) wx wy) : RSet wy (fun k => T + 1 + 1 + 1 < k ∧ k < wy.heap.size) B n l :=
 RSet.more (fun k hk => ⟨hk.1, ql hk.2 F.size⟩) (RSet.keep h fun p hp => F.cell hp.2 (by show ¬ (p.block = T + 1 + 1 + 1); omega))
end
theorem set_two {wx : World} {b b2 : Nat} {t t2 : TypeId} {x : Bool} {p q : Int} (h1 : Whole wx b t [.bool x]) (h2 : Whole wx b2 t2 [.int .i64 p, .slice (some ⟨b, 0, none⟩) 1 1, .int .i64 q, .slice none 0 0]) : RSet wx (fun i => i < wx.heap.size) (some ⟨b2, 0, none⟩) 2 [⟨p, [x]⟩, ⟨q, []⟩] :=
 RSeq.whole (α := Mem) (K := 2) (R := RMem wx (fun i => i < wx.heap.size)) (n := 2) [[.int .i64 p, .slice (some ⟨b, 0, none⟩) 1 1], [.int .i64 q, .slice none 0 0]] [⟨p, [x]⟩, ⟨q, []⟩] h2 rfl rfl (fun x hx => by simp at hx; rcases hx with rfl | rfl <;> rfl) (fun j u y g1 g2 => by
   match j with
   | 0 => simp at g1 g2; subst g1 g2; exact ⟨_, _, _, rfl, by decide, by decide, h1.bools (xs := [x]) h1.lt rfl⟩
   | 1 => simp at g1 g2; subst g1 g2; exact ⟨_, _, _, rfl, by decide, by decide, Row.nil_⟩
   | j + 2 => simp at g1) h2.lt
set_option maxRecDepth 100000 in
set_option maxHeartbeats 6400000 in
theorem resolved_any (w : World) (hL : LaidV w) (hM : MaxW w) :
  Calls Tryz.prog 29 #[] w fun e w' => e = .returned (.bool true) ∧ Below w.heap.size w w' := by
 have Hsm := qh (small_any w hL hM)
 unfold SmallPost at Hsm
 clear hL hM
 go_enter Tryz.func29, Tryz.ntmps29
 go_upto_region 3 with (first | (go_at_call 51; refine Hsm.out.mono ?_; rintro e w1 ⟨A, c, rfl, hT, hc1, hc2, hb1⟩; refine Hid.out ?_))
 refine qh ?_
 go_upto_region 3 with fail
 have h1 := Whole.new w1 w1.heap.size 24 [.slice A 4 c] rfl
 have h2 := Whole.new (w1.alloc (.cells #[.slice A 4 c] 24)) (w1.heap.size + 1) 75 (atRow atR1) (by simp)
 have h3 := Whole.new ((w1.alloc (.cells #[.slice A 4 c] 24)).alloc (.cells (atRow atR1).toArray 75)) (w1.heap.size + 1 + 1) 85 [.int .i64 3, .slice none 0 0] (by simp)
 have h4 := Whole.new (((w1.alloc (.cells #[.slice A 4 c] 24)).alloc (.cells (atRow atR1).toArray 75)).alloc (.cells #[.int .i64 3, .slice none 0 0] 85)) (w1.heap.size + 1 + 1 + 1) 30 [.slice (some ⟨w1.heap.size + 1, 0, none⟩) 1 1, .slice (some ⟨w1.heap.size + 1 + 1, 0, none⟩) 1 1, .slice none 0 0, .slice none 0 0] (by simp)
 have hbl : Below w1.heap.size w1 ((((w1.alloc (.cells #[.slice A 4 c] 24)).alloc (.cells (atRow atR1).toArray 75)).alloc (.cells #[.int .i64 3, .slice none 0 0] 85)).alloc (.cells #[.slice (some ⟨w1.heap.size + 1, 0, none⟩) 1 1, .slice (some ⟨w1.heap.size + 1 + 1, 0, none⟩) 1 1, .slice none 0 0, .slice none 0 0] 30)) := ((((Below.refl _ w1).alloc (qr _) _).alloc (by simp) _).alloc (by simp; omega) _).alloc (by simp; omega) _
 have Y3 : Hid (Re w w1.heap.size A c (w1.heap.size + 1) atR1 none 0 [] _) := qh ⟨(hT.under hbl fun k hk => hk.2).more fun k hk => hk.2, ((h1.alloc _).alloc _).alloc _, (h2.alloc _).alloc _, h3.alloc _, h4, RInts.nil_, ⟨⟨by decide, by decide⟩, Nat.zero_le _, by omega⟩, hb1.trans (hbl.mono hb1.size), hb1.size⟩
 rw [show (atRow atR1).toArray = (#[.string ⟨#[97]⟩, .int .i64 0, .int .i64 0, .int .i64 0, .string ⟨#[]⟩, .bool false] : Array Value) from rfl] at Y3
 clear h1 h2 h3 h4 hbl hT hb1
 generalize w1.heap.size = T at Y3 ⊢
 generalize World.alloc (World.alloc (World.alloc (World.alloc w1 _) _) _) _ = w3 at Y3 ⊢
 have HR3 : Hid (Calls Tryz.prog 27 _ w3 (ResolveP smallT wsR1 40000 w3)) := qh (Y3.out.res ⟨hc1, hc2⟩)
 have t0 := Y3.out.tb.cell 0
 have v0 := Y3.out.v.cell 0; have v1 := Y3.out.v.cell 1; have v2 := Y3.out.v.cell 2; have v3 := Y3.out.v.cell 3
 have y0 := Y3.out.v.free 0; have y2 := Y3.out.v.free 2
 simp only [qgz, qgs] at t0 v0 v1 v2 v3
 have vlt := Y3.out.v.lt
 have tlt := Y3.out.tb.lt
 go_upto_region 4 with (first | (go_at_call 27; refine HR3.out.mono ?_; rintro e w5 ⟨Aa, na, ca, Ba, ka, da, rfl, hSa, ha1, ha2, -, -, -, hb5⟩; rw [res_R1.1]; refine Hid.out ?_))
 refine qh ?_
 rw [res_R1.2] at hSa
 obtain rfl : 2 = na := hSa.len
 have Y5 := qh (Y3.out.move hb5)
 have hvl3 := Y3.out.v.lt
 have SA5 := qh (hSa.more (S' := fun k => T + 1 + 1 + 1 < k ∧ k < w5.heap.size) fun k hk => ⟨by omega, hk.2⟩)
 clear t0 v0 v1 v2 v3 y0 y2 vlt tlt HR3 Y3 hb5 hSa hvl3
 have t0 := Y5.out.tb.cell 0
 have v0 := Y5.out.v.cell 0; have v1 := Y5.out.v.cell 1; have v2 := Y5.out.v.cell 2; have v3 := Y5.out.v.cell 3
 have y0 := Y5.out.v.free 0; have y2 := Y5.out.v.free 2
 simp only [qgz, qgs] at t0 v0 v1 v2 v3
 have vlt := Y5.out.v.lt
 have tlt := Y5.out.tb.lt
 go_upto_region 5 with fail
 have Y6 := Y5.out.target (tb := atR2) ⟨by decide, by decide⟩
 have F6 : Far (fun i => i = T + 1 + 1 + 1) w5 ((w5.setCell ⟨T + 1 + 1 + 1, 0, none⟩ (.slice (some ⟨w5.heap.size, 0, none⟩) 1 1)).alloc (.cells (atRow atR2).toArray 75)) :=
  (Far.set_ (D := fun i => i = T + 1 + 1 + 1) rfl 0 _).trans (Far.of_below _ ((Below.refl _ _).alloc (qr _) _)) fun _ _ h => h
 have Y6 := qh Y6
 have F6 := qh F6
 rw [show (atRow atR2).toArray = (#[.string ⟨#[97]⟩, .int .i64 0, .int .i64 0, .int .i64 0, .string ⟨#[120]⟩, .bool true] : Array Value) from rfl] at Y6 F6
 have SA6 := qh (set_far SA5.out F6.out)
 clear t0 v0 v1 v2 v3 y0 y2 vlt tlt F6 SA5 Y5
 generalize World.alloc (World.setCell w5 _ _) _ = w6 at Y6 SA6 ⊢
 generalize w5.heap.size = ab at Y6 ⊢
 have HR6 : Hid (Calls Tryz.prog 27 _ w6 (ResolveP smallT wsR2 40000 w6)) := qh (Y6.out.res ⟨hc1, hc2⟩)
 have t0 := Y6.out.tb.cell 0
 have v0 := Y6.out.v.cell 0; have v1 := Y6.out.v.cell 1; have v2 := Y6.out.v.cell 2; have v3 := Y6.out.v.cell 3
 have y0 := Y6.out.v.free 0; have y2 := Y6.out.v.free 2
 simp only [qgz, qgs] at t0 v0 v1 v2 v3
 have vlt := Y6.out.v.lt
 have tlt := Y6.out.tb.lt
 go_upto_region 6 with (first | (go_at_call 27; refine HR6.out.mono ?_; rintro e w7 ⟨Ab, nb, cb, Bb, kb, db, rfl, hSb, hb1, hb2, -, -, -, hb7⟩; rw [res_R2.1]; refine Hid.out ?_))
 refine qh ?_
 rw [res_R2.2] at hSb
 obtain rfl : 2 = nb := hSb.len
 have Y7 := qh (Y6.out.move hb7)
 have hvl6 := Y6.out.v.lt
 have SA7 := qh ((SA6.out.under hb7 fun k hk => hk.2).more (S' := fun k => T + 1 + 1 + 1 < k ∧ k < w7.heap.size) fun k hk => ⟨hk.1, ql hk.2 hb7.size⟩)
 have SB7 := qh (hSb.more (S' := fun k => T + 1 + 1 + 1 < k ∧ k < w7.heap.size) fun k hk => ⟨by omega, hk.2⟩)
 clear t0 v0 v1 v2 v3 y0 y2 vlt tlt HR6 Y6 hb7 hSb hvl6 SA6
 have t0 := Y7.out.tb.cell 0
 have v0 := Y7.out.v.cell 0; have v1 := Y7.out.v.cell 1; have v2 := Y7.out.v.cell 2; have v3 := Y7.out.v.cell 3
 have y0 := Y7.out.v.free 0; have y2 := Y7.out.v.free 2
 simp only [qgz, qgs] at t0 v0 v1 v2 v3
 have vlt := Y7.out.v.lt
 have tlt := Y7.out.tb.lt
 go_upto_region 7 with fail
 have Y8 := qh (Y7.out.masked (xs := [0, 2]) (n := 2) rfl (by decide))
 have F8 : Hid (Far (fun i => i = T + 1 + 1 + 1) w7 ((w7.setCell ⟨T + 1 + 1 + 1, 2, none⟩ (.slice (some ⟨w7.heap.size, 0, none⟩) 2 2)).alloc (.cells (([0, 2] : List Int).map (Value.int .i64)).toArray 3))) :=
  qh ((Far.set_ (D := fun i => i = T + 1 + 1 + 1) rfl 2 _).trans (Far.of_below _ ((Below.refl _ _).alloc (qr _) _)) fun _ _ h => h)
 rw [show (([0, 2] : List Int).map (Value.int .i64)).toArray = (#[.int .i64 0, .int .i64 2] : Array Value) from rfl] at Y8 F8
 have SA8 := qh (set_far SA7.out F8.out)
 have SB8 := qh (set_far SB7.out F8.out)
 clear t0 v0 v1 v2 v3 y0 y2 vlt tlt F8 SA7 SB7 Y7
 generalize World.alloc (World.setCell w7 _ _) _ = w8 at Y8 SA8 SB8 ⊢
 generalize w7.heap.size = kb2 at Y8 ⊢
 have HR8 : Hid (Calls Tryz.prog 27 _ w8 (ResolveP smallT wsR3 40000 w8)) := qh (Y8.out.res ⟨hc1, hc2⟩)
 have t0 := Y8.out.tb.cell 0
 have v0 := Y8.out.v.cell 0; have v1 := Y8.out.v.cell 1; have v2 := Y8.out.v.cell 2; have v3 := Y8.out.v.cell 3
 have y0 := Y8.out.v.free 0; have y2 := Y8.out.v.free 2
 simp only [qgz, qgs] at t0 v0 v1 v2 v3
 have vlt := Y8.out.v.lt
 have tlt := Y8.out.tb.lt
 go_upto_region 8 with (first | (go_at_call 27; refine HR8.out.mono ?_; rintro e w9 ⟨Ac, nc, cc, Bc, kc, dc, rfl, -, -, -, hPc, -, -, hb9⟩; rw [res_R3]; refine Hid.out ?_))
 refine qh ?_
 have Y9 := qh (Y8.out.move hb9)
 have hkc : 0 < kc := by have := prf_R3; rw [hPc.len] at this; exact this
 have SA9 := qh ((SA8.out.under hb9 fun k hk => hk.2).more (S' := fun k => k < w9.heap.size) fun k hk => ql hk.2 hb9.size)
 have SB9 := qh ((SB8.out.under hb9 fun k hk => hk.2).more (S' := fun k => k < w9.heap.size) fun k hk => ql hk.2 hb9.size)
 clear t0 v0 v1 v2 v3 y0 y2 vlt tlt HR8 Y8 hb9 hPc SA8 SB8
 have HU9 : Hid (Calls Tryz.prog 28 _ w9 (UnmaskP smallT wsR3 w9)) := qh (Y9.out.unm ⟨hc1, hc2⟩)
 have t0 := Y9.out.tb.cell 0
 have v0 := Y9.out.v.cell 0; have v1 := Y9.out.v.cell 1; have v2 := Y9.out.v.cell 2; have v3 := Y9.out.v.cell 3
 have y0 := Y9.out.v.free 0; have y2 := Y9.out.v.free 2
 simp only [qgz, qgs] at t0 v0 v1 v2 v3
 have vlt := Y9.out.v.lt
 have tlt := Y9.out.tb.lt
 go_upto_region 9 with (first | (go_at_call 28; refine HU9.out.mono ?_; rintro e w10 ⟨Ad, nd, cd, rfl, hId, hd1, hd2, hb10⟩; rw [unm_R3.1]; refine Hid.out ?_))
 refine qh ?_
 rw [unm_R3.2] at hId
 obtain rfl : 1 = nd := hId.len
 have B10 := qh (Y9.out.bel.trans (hb10.mono Y9.out.bel.size))
 have SA10 := qh ((SA9.out.under hb10 fun k hk => hk).more (S' := fun k => k < w10.heap.size) fun k hk => ql hk hb10.size)
 have SB10 := qh ((SB9.out.under hb10 fun k hk => hk).more (S' := fun k => k < w10.heap.size) fun k hk => ql hk hb10.size)
 have ID10 := qh (hId.more (S' := fun k => k < w10.heap.size) fun k hk => hk.2)
 have hkc1 : (0 : Int) < kc := by omega
 clear t0 v0 v1 v2 v3 y0 y2 vlt tlt HU9 Y9 hb10 hId SA9 SB9
 have hW1 := Whole.new w10 w10.heap.size 4 [.bool false] rfl
 have hW2 := Whole.new (w10.alloc (.cells #[.bool false] 4)) (w10.heap.size + 1) 85 [.int .i64 1, .slice (some ⟨w10.heap.size, 0, none⟩) 1 1, .int .i64 3, .slice none 0 0] (by simp)
 have hbx : Below w10.heap.size w10 ((w10.alloc (.cells #[.bool false] 4)).alloc (.cells #[.int .i64 1, .slice (some ⟨w10.heap.size, 0, none⟩) 1 1, .int .i64 3, .slice none 0 0] 85)) := ((Below.refl _ _).alloc (qr _) _).alloc (by simp) _
 have hSS := sameSetr_any memR1 memR1 (fun k => k < ((w10.alloc (.cells #[.bool false] 4)).alloc (.cells #[.int .i64 1, .slice (some ⟨w10.heap.size, 0, none⟩) 1 1, .int .i64 3, .slice none 0 0] 85)).heap.size) Aa (some ⟨w10.heap.size + 1, 0, none⟩) 2 ca 2 2 _ ((SA10.out.under hbx fun k hk => hk).more fun k hk => ql hk hbx.size) (set_two (hW1.alloc _) hW2) (fun _ h => h) (by decide) (by decide)
 rw [eq_R1] at hSS
 have HSS := qh hSS
 have B11 := qh (B10.out.trans (hbx.mono B10.out.size))
 have SB11 := qh ((SB10.out.under hbx fun k hk => hk).more (S' := fun k => k < ((w10.alloc (.cells #[.bool false] 4)).alloc (.cells #[.int .i64 1, .slice (some ⟨w10.heap.size, 0, none⟩) 1 1, .int .i64 3, .slice none 0 0] 85)).heap.size) fun k hk => ql hk hbx.size)
 have ID11 := qh ((ID10.out.below hbx fun k hk => hk).more (S' := fun k => k < ((w10.alloc (.cells #[.bool false] 4)).alloc (.cells #[.int .i64 1, .slice (some ⟨w10.heap.size, 0, none⟩) 1 1, .int .i64 3, .slice none 0 0] 85)).heap.size) fun k hk => ql hk hbx.size)
 clear hSS hW1 hW2 hbx SA10 SB10 ID10 B10
 go_wp2_with (first | (go_at_call 24; refine HSS.out.mono ?_; rintro e w12 ⟨rfl, hb12⟩; refine Hid.out ?_))
 refine qh ?_
 have B12 := qh (B11.out.trans (hb12.mono B11.out.size))
 have SB12 := qh ((SB11.out.under hb12 fun k hk => hk).more (S' := fun k => k < w12.heap.size) fun k hk => ql hk hb12.size)
 have ID12 := qh ((ID11.out.below hb12 fun k hk => hk).more (S' := fun k => k < w12.heap.size) fun k hk => ql hk hb12.size)
 clear hb12 B11 SB11 ID11 HSS
 have hW1 := Whole.new w12 w12.heap.size 4 [.bool true] rfl
 have hW2 := Whole.new (w12.alloc (.cells #[.bool true] 4)) (w12.heap.size + 1) 85 [.int .i64 1, .slice (some ⟨w12.heap.size, 0, none⟩) 1 1, .int .i64 2, .slice none 0 0] (by simp)
 have hbx : Below w12.heap.size w12 ((w12.alloc (.cells #[.bool true] 4)).alloc (.cells #[.int .i64 1, .slice (some ⟨w12.heap.size, 0, none⟩) 1 1, .int .i64 2, .slice none 0 0] 85)) := ((Below.refl _ _).alloc (qr _) _).alloc (by simp) _
 have hSS := sameSetr_any memR2 memR2 (fun k => k < ((w12.alloc (.cells #[.bool true] 4)).alloc (.cells #[.int .i64 1, .slice (some ⟨w12.heap.size, 0, none⟩) 1 1, .int .i64 2, .slice none 0 0] 85)).heap.size) Ab (some ⟨w12.heap.size + 1, 0, none⟩) 2 cb 2 2 _ ((SB12.out.under hbx fun k hk => hk).more fun k hk => ql hk hbx.size) (set_two (hW1.alloc _) hW2) (fun _ h => h) (by decide) (by decide)
 rw [eq_R2] at hSS
 have HSS := qh hSS
 have B13 := qh (B12.out.trans (hbx.mono B12.out.size))
 have ID13 := qh ((ID12.out.below hbx fun k hk => hk).more (S' := fun k => k < ((w12.alloc (.cells #[.bool true] 4)).alloc (.cells #[.int .i64 1, .slice (some ⟨w12.heap.size, 0, none⟩) 1 1, .int .i64 2, .slice none 0 0] 85)).heap.size) fun k hk => ql hk hbx.size)
 clear hSS hW1 hW2 hbx SB12 ID12 B12
 go_wp2_with (first | (go_at_call 24; refine HSS.out.mono ?_; rintro e w14 ⟨rfl, hb14⟩; refine Hid.out ?_))
 refine qh ?_
 have B14 := qh (B13.out.trans (hb14.mono B13.out.size))
 have ID14 := qh ((ID13.out.below hb14 fun k hk => hk).more (S' := fun k => k < w14.heap.size) fun k hk => ql hk hb14.size)
 clear hb14 B13 ID13 HSS
 have hal := (Below.refl w14.heap.size w14).alloc (qr _) (.cells #[.int .i64 2] 3)
 have hI := Whole.new w14 w14.heap.size 3 [.int .i64 2] rfl
 have hEQ := equal_int Ad (some ⟨w14.heap.size, 0, none⟩) 1 1 cd 1 [2] [2] _ (fun k => k < (w14.alloc (.cells #[.int .i64 2] 3)).heap.size) ((ID14.out.below hal (fun k hk => hk)).more fun k hk => ql hk hal.size) (hI.ints (xs := [2]) hI.lt rfl) (by decide) (by decide)
 rw [show (([2] : List Int) == [2]) = true from by decide] at hEQ
 have HEQ := qh hEQ
 have B15 := qh (B14.out.trans (hal.mono B14.out.size))
 clear hal hI hEQ ID14 B14
 go_wp2_with (first | (go_at_call 32; refine HEQ.out.mono ?_; rintro e w16 ⟨rfl, nq, rfl⟩; refine Hid.out ?_))
 refine qh ?_
 have B16 := qh (below_drewN B15.out nq)
 clear B15 HEQ
 go_wp2
 go_ret
 exact ⟨rfl, B16.out⟩
end
/- What is wrong with a wish is never that there is none. No program in sight. -/
section
open Go.RowKit Qm

end
/- quartermasterlaw.at, walked: an index in range. -/
section
open Go.RowKit

end
/- valid.holds, walked. -/
section
open Go.RowKit Qm

structure Hb (w : World) (A : Option Addr) (n c : Nat) (B : Option Addr) (q d k : Nat) (nr : List Value) (wx : World) : Prop where
 t : Whole wx w.heap.size 24 [.slice A n c]
 l : Whole wx (w.heap.size + 1) 26 [.slice B q d]
 k : Whole wx (w.heap.size + 1 + 1) 3 [.int .i64 (k : Int)]
 n : Whole wx (w.heap.size + 1 + 1 + 1) 99 nr
 e : Whole wx (w.heap.size + 1 + 1 + 1 + 1) 164 [.func (.func 112) #[] #[.pointer (some ⟨w.heap.size, 0, none⟩), .pointer (some ⟨w.heap.size + 1, 0, none⟩), .pointer (some ⟨w.heap.size + 1 + 1, 0, none⟩)]]
 bel : Below w.heap.size w wx
theorem Hb.move {w : World} {A : Option Addr} {n c : Nat} {B : Option Addr} {q d k : Nat} {nr : List Value} {wx wy : World} (h : Hb w A n c B q d k nr wx) (hb : Below wx.heap.size wx wy) : Hb w A n c B q d k nr wy :=
 ⟨h.t.below hb h.t.lt, h.l.below hb h.l.lt, h.k.below hb h.k.lt, h.n.below hb h.n.lt, h.e.below hb h.e.lt, h.bel.trans (hb.mono h.bel.size)⟩
theorem Hb.new (w : World) (A : Option Addr) (n c : Nat) (B : Option Addr) (q d k : Nat) (nr : List Value) :
  Hb w A n c B q d k nr (((((w.alloc (.cells #[.slice A n c] 24)).alloc (.cells #[.slice B q d] 26)).alloc (.cells #[.int .i64 (k : Int)] 3)).alloc (.cells nr.toArray 99)).alloc
   (.cells #[.func (.func 112) #[] #[.pointer (some ⟨w.heap.size, 0, none⟩), .pointer (some ⟨w.heap.size + 1, 0, none⟩), .pointer (some ⟨w.heap.size + 1 + 1, 0, none⟩)]] 164)) := by
 have h1 := Whole.new w _ 24 [.slice A n c] rfl
 have h2 := Whole.new (w.alloc (.cells #[.slice A n c] 24)) (w.heap.size + 1) 26 [.slice B q d] (by simp)
 have h3 := Whole.new ((w.alloc (.cells #[.slice A n c] 24)).alloc (.cells #[.slice B q d] 26)) (w.heap.size + 1 + 1) 3 [.int .i64 (k : Int)] (by simp)
 have h4 := Whole.new (((w.alloc (.cells #[.slice A n c] 24)).alloc (.cells #[.slice B q d] 26)).alloc (.cells #[.int .i64 (k : Int)] 3)) (w.heap.size + 1 + 1 + 1) 99 nr (by simp)
 exact ⟨(((h1.alloc _).alloc _).alloc _).alloc _, ((h2.alloc _).alloc _).alloc _, (h3.alloc _).alloc _, h4.alloc _, Whole.new _ _ _ [_] (by simp), (((((Below.refl _ w).alloc (qr _) _).alloc (by simp) _).alloc (by simp; omega) _).alloc (by simp; omega) _).alloc (by simp; omega) _⟩

theorem blockB_step {f : Mem → Bool} {k i : Nat} {l : List Mem} {m : Mem} (h : l[i]? = some m) : blockB f k i (l.drop i) = if i ≠ k ∧ f m = true then false else blockB f k (i + 1) (l.drop (i + 1)) := by
 obtain ⟨hj, rfl⟩ := List.getElem?_eq_some_iff.1 h
 rw [List.drop_eq_getElem_cons hj]
 rfl
theorem memAt_at {l : List Mem} {k : Nat} {m : Mem} (h : l[k]? = some m) : memAt l k = m := by
 unfold memAt
 rw [List.getD_eq_getElem?_getD, h]; rfl
theorem flagsN_kid {k : Int} {a : At} {f : Qm.W} {no : Bool} : ∀ {ks : List Nd} {x : Nd}, x ∈ ks → ∀ g ∈ flagsN x, g ∈ flagsL ks
 | y :: r, x, hx, g, hg => by
  simp only [flagsL, List.mem_append]
  rcases List.mem_cons.1 hx with rfl | hx
  ·exact .inl hg
  ·exact .inr (flagsN_kid (k := k) (a := a) (f := f) (no := no) hx g hg)
theorem any_not {α : Type} (p : α → Bool) (l : List α) : (!l.any fun x => !p x) = l.all p := by
 induction l with
 | nil => rfl
 | cons x r ih => simp only [List.any_cons, List.all_cons, Bool.not_or, Bool.not_not, ih]
set_option maxRecDepth 100000 in
set_option maxHeartbeats 6400000 in
theorem holds_any (ps : List Pk) (l : List Mem) (S : Nat → Prop) (A : Option Addr) (n c : Nat) (B : Option Addr) (q d : Nat) : ∀ (y : Nd) (k : Nat) (cx : List Value) (w : World), Cx ps l S A n c B q d w → k < q → RNd w S cx y → (∀ f ∈ flagsN y, f ∈ (pkOf ps (memAt l k).pl).fs) →
  Calls Tryz.prog 87 #[.agg #[.slice A n c], .slice B q d, .int .i64 (k : Int), .agg cx.toArray] w fun e w' => e = .returned (.bool (holdsN ps l k (memAt l k) y)) ∧ Below w.heap.size w w' := by
 refine Nd.ind fun kd a f no ks ih => ?_
 intro k cx w C hkq hx hfl
 obtain ⟨D, r, e, rfl, hre, he, h1, h2, h3, hK⟩ := hx.open_
 have HC : Hid (holdsN ps l k (memAt l k) (.mk kd a f no ks) = if kd = 1 then l.any (fun m => isA ps m a) else if kd = 2 then blockB (fun m => isA ps m a) k 0 l else if kd = 4 then someN ps l k (memAt l k) ks else if kd = 5 ∧ ifOff ps (memAt l k) f no = true then true else allN ps l k (memAt l k) ks) := qh rfl
 generalize holdsN ps l k (memAt l k) (.mk kd a f no ks) = R at HC ⊢
 have H5 := qh (Hb.new w A n c B q d k (ndRow kd a f no D r e))
 have hll := C.s.len
 have hkl : k < l.length := by omega
 -- the closures, in whatever world comes
 have Heach := qh (fun x (hx : x ∈ ks) cx' (W : World) (hb : Below w.heap.size w W) (hr : RNd w S cx' x) => ih x hx k cx' W (C.under hb) hkq (hr.under hb C.lt) (fun g hg => hfl g (by unfold flagsN; exact List.mem_append_right _ (flagsN_kid (k := kd) (a := a) (f := f) (no := no) hx g hg))))
 have HF5 : Hid (kd = 5 → f ∈ (pkOf ps (memAt l k).pl).fs) := qh fun h => hfl f (by unfold flagsN; rw [if_pos h]; simp)
 have HKD := qh hK
 have HCX := qh C
 have H1 := qh h1; have H2 := qh h2; have H3 := qh h3; have HE := qh he
 have HN := qh (show RNd w S (ndRow kd a f no D r e) (.mk kd a f no ks) from hx)
 clear hx hfl ih h1 h2 h3 hK
 have hqd := C.qd
 have hdm := C.dm
 clear C
 unfold maxLen at hdm he
 by_cases k1 : kd = 1
 ·subst k1
  have HR : Hid (R = l.any (fun m => isA ps m a)) := qh (by rw [HC.out, if_pos rfl])
  have hcf := containsF_M (RMem w S) (fun m => isA ps m a) B q d l 114 #[.pointer (some ⟨w.heap.size, 0, none⟩), .pointer (some ⟨w.heap.size + 1 + 1 + 1, 0, none⟩)] _ S (RSeq.keep HCX.out.s (fun p hp => H5.out.bel.cell (HCX.out.lt _ hp)) fun _ _ h => h) (fun x hx => ql (HCX.out.lt x hx) H5.out.bel.size) (by unfold maxLen; omega)
   ⟨fun args W => by kernel_rfl, fun m hm cx W hb hr => wants_any HCX.out a H1.out H2.out w.heap.size (w.heap.size + 1 + 1 + 1) 1 f no D r e hm cx hr W (H5.out.bel.trans (hb.mono H5.out.bel.size)) ((H5.out.move hb).t.cell 0) (fun i _ => (H5.out.move hb).n.cell i)⟩ (fun x y h => shape_mem h)
  have Hcf := qh hcf
  unfold ndRow at Hcf H5 ⊢
  clear hcf HC Heach HF5
  go_enter Tryz.func87, Tryz.ntmps87
  go_wp2_with (first | (go_at_call 84; refine Hcf.out.mono ?_; rintro e w6 ⟨rfl, hb6⟩; refine Hid.out ?_))
  refine qh ?_
  have H6 := qh (H5.out.move hb6)
  clear hb6
  go_wp2
  go_ret
  exact ⟨ret_bool HR.out.symm, H6.out.bel⟩
 by_cases k2 : kd = 2
 ·subst k2
  have HR : Hid (R = blockB (fun m => isA ps m a) k 0 l) := qh (by rw [HC.out, if_neg (by decide), if_pos rfl])
  have Hll := qh hll
  unfold ndRow at H5 ⊢
  clear HC Heach HF5
  go_enter Tryz.func87, Tryz.ntmps87
  go_wp2
  go_loopg [27] q (fun g iv wr => ∃ i : Nat, Hid (i + g = q) ∧ iv = .int .i64 i ∧ Hid (blockB (fun m => isA ps m a) k 0 l = blockB (fun m => isA ps m a) k i (l.drop i)) ∧ Hid (Hb w A n c B q d k [.int .i64 2, .string ⟨a.nm.toArray⟩, .int .i64 a.op, .int .i64 a.ver, .int .i64 a.slot, .string ⟨a.fl.toArray⟩, .bool a.on, .string ⟨f.toArray⟩, .bool no, .slice D r e] wr))
  case atStart => exact ⟨0, qh (Nat.zero_add _), rfl, qh rfl, H5⟩
  case round =>
   obtain ⟨i, Hi, rfl, Hcl, HR5⟩ := hrel
   clear H5
   by_cases hi : i < q
   ·obtain ⟨b, o, m, E, u, v, rfl, hbS, hm, huv, hv, hon, g0, g1⟩ := (HCX.out.s.under HR5.out.bel HCX.out.lt).at_ hi
    have Hst := qh (blockB_step (f := fun m => isA ps m a) (k := k) hm)
    have hbl : b < wr.heap.size := ql (HCX.out.lt _ hbS) HR5.out.bel.size
    have hal : Below wr.heap.size wr (wr.alloc (.cells #[.int .i64 m.pl, .slice E u v] 85)) := (Below.refl _ _).alloc (qr _) _
    have H6 := qh (HR5.out.move hal)
    have t0 := HR5.out.t.cell 0
    have kc0 := HR5.out.k.cell 0
    have n1 := HR5.out.n.cell 1; have n2 := HR5.out.n.cell 2; have n3 := HR5.out.n.cell 3; have n4 := HR5.out.n.cell 4; have n5 := HR5.out.n.cell 5; have n6 := HR5.out.n.cell 6
    simp only [qgz, qgs] at t0 kc0 n1 n2 n3 n4 n5 n6
    have elt := HR5.out.e.lt
    have elt0 : w.heap.size < wr.heap.size := by omega
    have elt1 : w.heap.size + 1 < wr.heap.size := by omega
    have elt2 : w.heap.size + 1 + 1 < wr.heap.size := by omega
    have elt3 : w.heap.size + 1 + 1 + 1 < wr.heap.size := by omega
    by_cases hik : i = k
    ·subst hik
     have HS : Hid (blockB (fun m => isA ps m a) i i (l.drop i) = blockB (fun m => isA ps m a) i (i + 1) (l.drop (i + 1))) := qh (by rw [Hst.out, if_neg (by simp)])
     go_wp2
     go_roundg (gk - 1)
     case measure => have := Hi.out; omega
     case rel => exact ⟨i + 1, qh (by have := Hi.out; omega), by go_num, qh (by rw [Hcl.out, HS.out]), H6⟩
    ·have hik1 : ((i : Int) != (k : Int)) = true := by simp; omega
     have His := qh (HCX.out.is (w' := wr.alloc (.cells #[.int .i64 m.pl, .slice E u v] 85)) (List.mem_of_getElem? hm) (Row.keep (w := wr) (w' := w) hon (fun p hp => (HR5.out.bel.cell (HCX.out.lt _ hp)).symm)) huv a H1.out H2.out H6.out.bel)
     clear hm hon hal
     generalize isA ps m a = x at His Hst
     cases x
     ·have HS : Hid (blockB (fun m => isA ps m a) k i (l.drop i) = blockB (fun m => isA ps m a) k (i + 1) (l.drop (i + 1))) := qh (by rw [Hst.out, if_neg (by simp)])
      go_wp2_with (first | (go_at_call 86; refine His.out.mono ?_; rintro e w7 ⟨rfl, hb7⟩; refine Hid.out ?_))
      refine qh ?_
      have H7 := qh (H6.out.move hb7)
      clear hb7 t0 kc0 n1 n2 n3 n4 n5 n6 elt elt0 elt1 elt2 elt3 hbl g0 g1
      go_wp2
      go_roundg (gk - 1)
      case measure => have := Hi.out; omega
      case rel => exact ⟨i + 1, qh (by have := Hi.out; omega), by go_num, qh (by rw [Hcl.out, HS.out]), H7⟩
     ·have HS : Hid (blockB (fun m => isA ps m a) k i (l.drop i) = false) := qh (by rw [Hst.out, if_pos ⟨hik, rfl⟩])
      go_wp2_with (first | (go_at_call 86; refine His.out.mono ?_; rintro e w7 ⟨rfl, hb7⟩; refine Hid.out ?_))
      refine qh ?_
      have H7 := qh (H6.out.move hb7)
      clear hb7 t0 kc0 n1 n2 n3 n4 n5 n6 elt elt0 elt1 elt2 elt3 hbl g0 g1
      go_wp2
      go_ret
      exact ⟨ret_bool (by rw [HR.out, Hcl.out, HS.out]), H7.out.bel⟩
   ·obtain rfl : q = i := by have := Hi.out; omega
    go_wp2
    go_ret
    exact ⟨ret_bool (by rw [HR.out, Hcl.out, List.drop_of_length_le (by have := Hll.out; omega)]; rfl), HR5.out.bel⟩
 by_cases k4 : kd = 4
 ·subst k4
  have HR : Hid (R = ks.any (holdsN ps l k (memAt l k))) := qh (by rw [HC.out, if_neg (by decide), if_neg (by decide), if_pos rfl, someN_eq])
  have hcf := containsF_N (RNd w S) (holdsN ps l k (memAt l k)) D r e ks 112 #[.pointer (some ⟨w.heap.size, 0, none⟩), .pointer (some ⟨w.heap.size + 1, 0, none⟩), .pointer (some ⟨w.heap.size + 1 + 1, 0, none⟩)] _ S (RSeq.keep (kids_seq HKD.out) (fun p hp => H5.out.bel.cell (HCX.out.lt _ hp)) fun _ _ h => h) (fun x hx => ql (HCX.out.lt x hx) H5.out.bel.size) (by unfold maxLen; omega)
   ⟨fun args W => by kernel_rfl, fun x hx cx W hb hr => each_any A B n c q d k w.heap.size (w.heap.size + 1) (w.heap.size + 1 + 1) cx (holdsN ps l k (memAt l k) x) W (shape_nd hr) ((H5.out.move hb).t.cell 0) ((H5.out.move hb).l.cell 0) ((H5.out.move hb).k.cell 0) (fun w' hb' => Heach.out x hx cx w' ((H5.out.bel.trans (hb.mono H5.out.bel.size)).trans (hb'.mono (Nat.le_trans H5.out.bel.size hb.size))) hr)⟩ (fun x y h => shape_nd h)
  generalize ks.any (holdsN ps l k (memAt l k)) = sm at hcf HR
  have Hcf := qh hcf
  unfold ndRow at Hcf H5 ⊢
  clear hcf HC Heach HF5
  go_enter Tryz.func87, Tryz.ntmps87
  go_wp2_with (first | (go_at_call 115; refine Hcf.out.mono ?_; rintro e w6 ⟨rfl, hb6⟩; refine Hid.out ?_))
  refine qh ?_
  have H6 := qh (H5.out.move hb6)
  clear hb6
  go_wp2
  go_ret
  exact ⟨ret_bool HR.out.symm, H6.out.bel⟩
 have k1' : (kd == 1) = false := by simpa using k1
 have k2' : (kd == 2) = false := by simpa using k2
 have k4' : (kd == 4) = false := by simpa using k4
 by_cases k5 : kd = 5
 ·subst k5
  have Hcf := qh (fun (wx : World) (H6 : Hb w A n c B q d k (ndRow 5 a f no D r e) wx) => containsF_N (RNd w S) (fun x => !holdsN ps l k (memAt l k) x) D r e ks 113 #[.pointer (some ⟨w.heap.size + 1 + 1 + 1 + 1, 0, none⟩)] wx S (RSeq.keep (kids_seq HKD.out) (fun p hp => H6.bel.cell (HCX.out.lt _ hp)) fun _ _ h => h) (fun x hx => ql (HCX.out.lt x hx) H6.bel.size) (by unfold maxLen; omega)
   ⟨fun args W => by kernel_rfl, fun x hx cx W hb hr => not_any A B n c q d k w.heap.size (w.heap.size + 1) (w.heap.size + 1 + 1) (w.heap.size + 1 + 1 + 1 + 1) cx (holdsN ps l k (memAt l k) x) W (shape_nd hr) ((H6.move hb).t.cell 0) ((H6.move hb).l.cell 0) ((H6.move hb).k.cell 0) ((H6.move hb).e.cell 0) (fun w' hb' => Heach.out x hx cx w' ((H6.bel.trans (hb.mono H6.bel.size)).trans (hb'.mono (Nat.le_trans H6.bel.size hb.size))) hr)⟩ (fun x y h => shape_nd h))
  have HRA : Hid ((!ks.any fun x => !holdsN ps l k (memAt l k) x) = allN ps l k (memAt l k) ks) := qh (by rw [any_not, allN_eq])
  generalize (ks.any fun x => !holdsN ps l k (memAt l k) x) = al at Hcf HRA
  generalize allN ps l k (memAt l k) ks = AL at HRA HC
  obtain ⟨b, o, m, E, u, v, rfl, hbS, hm, huv, hv, hon, g0, g1⟩ := HCX.out.s.at_ hkq
  have hme : memAt l k = m := memAt_at hm
  obtain ⟨hp0, hp1, hp2⟩ := HCX.out.ok m (List.mem_of_getElem? hm)
  have hff := HF5.out rfl
  rw [hme] at hff
  rw [hme] at HC
  have HIO : Hid (ifOff ps m f no = match ixOf f (pkOf ps m.pl).fs with | some j => onOf m.on j == no | none => false) := qh rfl
  obtain ⟨pl, on⟩ := m
  dsimp only at g0 g1 hon hp0 hp1 hp2 hff HC HIO
  have hpl := HCX.out.t.len
  obtain ⟨j, rfl⟩ : ∃ j : Nat, pl = j := ⟨pl.toNat, by omega⟩
  have hjn : j < n := by omega
  obtain ⟨b2, o2, p, F, fn, fc, kq, pa, pf, pno, G, gq, gd, rfl, hbS2, hp, hP, hcell⟩ := HCX.out.t.at_ hjn
  rw [pkOf_at hp] at hp2 hff HIO
  have h3 := hcell 3 (by omega)
  unfold pkRow ndRow at h3
  simp only [qgz, qgs] at h3
  obtain ⟨fi, hfi⟩ : ∃ fi, ixOf f p.fs = some fi := by
   cases h : ixOf f p.fs with
   | none => exact absurd hff (ixOf_none.1 h)
   | some i => exact ⟨i, rfl⟩
  have hlt := ixOf_lt hfi
  obtain ⟨b3, o3, rfl, hbS3, hbc⟩ := hon.at_ (k := fi) (by have := hon.len; omega)
  have hfu : (fi : Int) < u := by have := hon.len; omega
  have hfu0 : (0 : Int) ≤ (fi : Int) := by omega
  have HIO2 : Hid (ifOff ps ⟨(j : Int), on⟩ f no = (on.getD fi false == no)) := qh (by rw [HIO.out, hfi]; rfl)
  generalize on.getD fi false = ov at hbc HIO2
  have hix := fun wx (hb : Below w.heap.size w wx) => indexS_any F fn fc p.fs f wx S (hP.fs.row.below (w' := wx) hb HCX.out.lt) (Nat.le_trans hP.cap hP.max)
  rw [hfi] at hix
  unfold ixI at hix
  have Hix := qh hix
  have hbl : b < w.heap.size := HCX.out.lt _ hbS
  have hbl2 : b2 < w.heap.size := HCX.out.lt _ hbS2
  have hbl3 : b3 < w.heap.size := HCX.out.lt _ hbS3
  clear hix hP hcell hp hfi hlt hp2 hff hon hm HIO HF5 Heach hp0 hp1 k1 k2 k4
  unfold ndRow at H5 Hcf ⊢
  -- what the region reads, in the boxes' world
  have q0 := (H5.out.bel.cell (p := ⟨b, o + k * 2, none⟩) hbl).trans g0
  have q1 := (H5.out.bel.cell (p := ⟨b, o + k * 2 + 1, none⟩) hbl).trans g1
  have q3 := (H5.out.bel.cell (p := ⟨b2, o2 + j * 14 + 3, none⟩) hbl2).trans h3
  have qb := (H5.out.bel.cell (p := ⟨b3, o3 + fi, none⟩) hbl3).trans hbc
  have t0 := H5.out.t.cell 0
  have l0 := H5.out.l.cell 0
  have kc0 := H5.out.k.cell 0
  have n7 := H5.out.n.cell 7
  have n8 := H5.out.n.cell 8
  have n9 := H5.out.n.cell 9
  have e0 := H5.out.e.cell 0
  simp only [qgz, qgs] at t0 l0 kc0 n7 n8 n9 e0
  have hsz5 := H5.out.bel.size
  have elt := H5.out.e.lt
  have hjn1 : (j : Int) < n := by omega
  have hkq1 : (k : Int) < q := by omega
  clear g0 g1 h3 hbc
  go_enter Tryz.func87, Tryz.ntmps87
  go_wp2
  generalize World.alloc (World.alloc (World.alloc (World.alloc (World.alloc w _) _) _) _) _ = w5 at *
  have elt0 : w.heap.size < w5.heap.size := by omega
  have elt1 : w.heap.size + 1 < w5.heap.size := by omega
  have elt2 : w.heap.size + 1 + 1 < w5.heap.size := by omega
  have elt3 : w.heap.size + 1 + 1 + 1 < w5.heap.size := by omega
  go_region_held3 (fun w' => w'.cell? ⟨w.heap.size, 0, none⟩ = some (.slice (some ⟨b2, o2, none⟩) n c) ∧ w'.cell? ⟨w.heap.size + 1, 0, none⟩ = some (.slice (some ⟨b, o, none⟩) q d) ∧ w'.cell? ⟨w.heap.size + 1 + 1, 0, none⟩ = some (.int .i64 (k : Int)) ∧ w'.cell? ⟨b, o + k * 2, none⟩ = some (.int .i64 (j : Int)) ∧ w'.cell? ⟨b2, o2 + j * 14 + 3, none⟩ = some (.slice F fn fc) ∧ w'.cell? ⟨w.heap.size + 1 + 1 + 1, 7, none⟩ = some (.string ⟨f.toArray⟩))
   (first | go_keep | exact ⟨t0, l0, kc0, q0, q3, n7⟩)
   (first | (go_at_call 80; refine (Hix.out _ (below_drewN H5.out.bel 1)).mono ?_; rintro e wn ⟨rfl, hwn⟩; subst hwn) | fail)
  have H6 := qh (H5.out.move (below_drewN (Below.refl _ _) 1))
  have r0 : (w5.drewN 1).cell? ⟨b, o + k * 2, none⟩ = some (.int .i64 (j : Int)) := q0
  have r1 : (w5.drewN 1).cell? ⟨b, o + k * 2 + 1, none⟩ = some (.slice (some ⟨b3, o3, none⟩) u v) := q1
  have r3 : (w5.drewN 1).cell? ⟨b3, o3 + fi, none⟩ = some (.bool ov) := qb
  clear q0 q1 q3 qb t0 l0 kc0 n7 n8 n9 e0 hsz5 elt elt0 elt1 elt2 elt3
  generalize w5.drewN 1 = w6 at *
  have l0 := H6.out.l.cell 0
  have kc0 := H6.out.k.cell 0
  have n8 := H6.out.n.cell 8
  simp only [qgz, qgs] at l0 kc0 n8
  cases hov : (ov == no)
  ·have HIF : Hid (ifOff ps ⟨(j : Int), on⟩ f no = false) := qh (by rw [HIO2.out, hov])
   have HR : Hid (R = !al) := qh (by rw [HC.out, if_neg (by decide), if_neg (by decide), if_neg (by decide), if_neg (fun h => by rw [HIF.out] at h; exact absurd h.2 (by decide)), HRA.out])
   go_wp2
   go_quiet (fail)
   rename_i nq
   have H7 := qh (H6.out.move (below_drewN (Below.refl _ _) nq))
   clear r0 r1 r3 l0 kc0 n8
   generalize w6.drewN nq = w7 at *
   have n9 := H7.out.n.cell 9
   simp only [qgz, qgs] at n9
   have Hcf7 := qh (Hcf.out _ H7.out)
   go_wp2_with (first | (go_at_call 115; refine Hcf7.out.mono ?_; rintro e w8 ⟨rfl, hb8⟩; refine Hid.out ?_))
   refine qh ?_
   have H8 := qh (H7.out.move hb8)
   clear hb8
   go_wp2
   go_ret
   exact ⟨ret_bool HR.out.symm, H8.out.bel⟩
  ·have HIF : Hid (ifOff ps ⟨(j : Int), on⟩ f no = true) := qh (by rw [HIO2.out, hov])
   have HR : Hid (R = true) := qh (by rw [HC.out, if_neg (by decide), if_neg (by decide), if_neg (by decide), if_pos ⟨by trivial, HIF.out⟩])
   go_wp2
   go_quiet (fail)
   go_wp2
   go_ret
   exact ⟨ret_bool HR.out.symm, below_drewN H6.out.bel _⟩
 ·have k5' : (kd == 5) = false := by simpa using k5
  have Hcf := qh (fun (wx : World) (H6 : Hb w A n c B q d k (ndRow kd a f no D r e) wx) => containsF_N (RNd w S) (fun x => !holdsN ps l k (memAt l k) x) D r e ks 113 #[.pointer (some ⟨w.heap.size + 1 + 1 + 1 + 1, 0, none⟩)] wx S (RSeq.keep (kids_seq HKD.out) (fun p hp => H6.bel.cell (HCX.out.lt _ hp)) fun _ _ h => h) (fun x hx => ql (HCX.out.lt x hx) H6.bel.size) (by unfold maxLen; omega)
   ⟨fun args W => by kernel_rfl, fun x hx cx W hb hr => not_any A B n c q d k w.heap.size (w.heap.size + 1) (w.heap.size + 1 + 1) (w.heap.size + 1 + 1 + 1 + 1) cx (holdsN ps l k (memAt l k) x) W (shape_nd hr) ((H6.move hb).t.cell 0) ((H6.move hb).l.cell 0) ((H6.move hb).k.cell 0) ((H6.move hb).e.cell 0) (fun w' hb' => Heach.out x hx cx w' ((H6.bel.trans (hb.mono H6.bel.size)).trans (hb'.mono (Nat.le_trans H6.bel.size hb.size))) hr)⟩ (fun x y h => shape_nd h))
  have HRA : Hid ((!ks.any fun x => !holdsN ps l k (memAt l k) x) = allN ps l k (memAt l k) ks) := qh (by rw [any_not, allN_eq])
  generalize (ks.any fun x => !holdsN ps l k (memAt l k) x) = al at Hcf HRA
  generalize allN ps l k (memAt l k) ks = AL at HRA HC
  have HR : Hid (R = !al) := qh (by rw [HC.out, if_neg k1, if_neg k2, if_neg k4, if_neg (fun h => k5 h.1), HRA.out])
  have Hcf5 := qh (Hcf.out _ H5.out)
  unfold ndRow at Hcf5 H5 ⊢
  clear HC Heach HF5 Hcf k1 k2 k4 k5
  go_enter Tryz.func87, Tryz.ntmps87
  go_wp2_with (first | (go_at_call 115; refine Hcf5.out.mono ?_; rintro e w6 ⟨rfl, hb6⟩; refine Hid.out ?_))
  refine qh ?_
  have H6 := qh (H5.out.move hb6)
  clear hb6
  go_wp2
  go_ret
  exact ⟨ret_bool HR.out.symm, H6.out.bel⟩
end
/- valid.Holds, walked. -/
section
open Go.RowKit Qm

theorem ckSet_zero {ps : List Pk} {l : List Mem} (h : ckSet ps l = 0) : ckTree ps = 0 ∧ ckMs ps none l = 0 := by
 unfold ckSet at h
 by_cases h0 : ckTree ps = 0
 ·rw [if_neg (by simpa using h0)] at h; exact ⟨h0, h⟩
 ·rw [if_pos h0] at h; exact absurd h h0
theorem Cx.of {ps : List Pk} {l : List Mem} {S : Nat → Prop} {A B : Option Addr} {n c q d : Nat} {w : World} (h : ckSet ps l = 0) (hT : RTree w S A n ps) (hnc : n ≤ c) (hc : c ≤ maxLen) (hL : RSet w S B q l) (hqd : q ≤ d) (hd : d ≤ maxLen) (hS : ∀ k, S k → k < w.heap.size) : Cx ps l S A n c B q d w :=
 ⟨hT, hL, hnc, hc, by rw [← hT.len]; exact ckTree_len (ckSet_zero h).1, hqd, hd, ckMs_mem (ckSet_zero h).2, hS⟩
theorem own_flags {ps : List Pk} {l : List Mem} (h : ckSet ps l = 0) {k : Nat} (hk : k < l.length) : ∀ f ∈ flagsN (pkOf ps (memAt l k).pl).nd, f ∈ (pkOf ps (memAt l k).pl).fs := by
 obtain ⟨h1, h2⟩ := ckSet_zero h
 have hm : memAt l k ∈ l := by
  rw [memAt_at (List.getElem?_eq_getElem hk)]; exact List.getElem_mem hk
 obtain ⟨a, b, _⟩ := ckMs_mem h2 _ hm
 have hp : pkOf ps (memAt l k).pl ∈ ps := by
  unfold pkOf
  have hlt : (memAt l k).pl.toNat < ps.length := by omega
  rw [List.getD_eq_getElem?_getD, List.getElem?_eq_getElem hlt]
  exact List.getElem_mem hlt
 exact (pkOk (ckTree_mem h1 _ hp)).sub
end
/- slices.Contains of ints. (Of the shelf: Tryz.slices_Contains_int Tryz.slices_Contains_int_empty) -/
section
open Go.RowKit

theorem ints_cell {w : World} {S : Nat → Prop} {b o n : Nat} {xs : List Int} (h : RInts w S (some ⟨b, o, none⟩) n xs) : ∀ j, j < xs.length → w.cell? ⟨b, o + j, none⟩ = some (.int .i64 (xs.getD j 0)) := by
 intro j hj
 obtain ⟨b', o', e, _, hc⟩ := h.at_ (k := j) (by have := h.len; omega)
 injection e with e; injection e with e1 e2
 subst e1 e2
 exact hc
theorem containsI_any (A : Option Addr) (n c : Nat) (xs : List Int) (x : Int) (w : World) (S : Nat → Prop) (h : RInts w S A n xs) (hn : n ≤ maxLen) :
  Calls Tryz.prog 43 #[.slice A n c, .int .i64 x] w fun e w' => e = .returned (.bool (xs.contains x)) ∧ w' = w := by
 have hl := h.len
 unfold maxLen at hn
 by_cases h0 : n = 0
 ·subst h0
  obtain rfl := List.eq_nil_of_length_eq_zero hl
  exact (Tryz.slices_Contains_int_empty A c x w).mono fun e w' ⟨he, hw⟩ => ⟨by simpa using he, hw⟩
 ·obtain ⟨b, o, rfl, _⟩ := Row.some_lit h (by omega)
  refine (Tryz.slices_Contains_int b o n c xs x w (by omega) (by omega) (ints_cell h)).mono fun e w' ⟨he, hw⟩ => ⟨?_, hw⟩
  rw [he, List.take_of_length_le (by omega)]

end
end Go.Proofs.YtedbhlgjcnnknaaGreatDoor
