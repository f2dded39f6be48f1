/- Parts of the proof: walks and plain laws, side by side. -/
import Derived.Test.YtpipgffbhpnmkaaGreatDoorM14
import Derived.Test.YtpipgffbhpnmkaaGreatDoorProg
import Derived.Test.YtpipgffbhpnmkaaGreatDoorM13
import Derived.Deep.RegionHeld3
import Derived.Laws.EntriesVeiled
set_option linter.unusedVariables false
set_option linter.unusedSimpArgs false
set_option linter.unusedSectionVars false
/- slices.IndexFunc, slices.ContainsFunc of slices whose elements have 10 cells. (Printed by wip/bin/mkcf.py.) -/
namespace Go.Proofs.YtpipgffbhpnmkaaGreatDoor
open Go.RowKit Qm

def ShapeC_N (x : List Value) : Prop := ∃ (x0 : Int) (x1 : ByteArray) (x2 : Int) (x3 : Int) (x4 : Int) (x5 : ByteArray) (x6 : Bool) (x7 : ByteArray) (x8 : Bool) (x9a : Option Addr) (x9n x9c : Nat), x = [.int .i64 x0, .string x1, .int .i64 x2, .int .i64 x3, .int .i64 x4, .string x5, .bool x6, .string x7, .bool x8, .slice x9a x9n x9c]
set_option maxRecDepth 100000 in
set_option maxHeartbeats 3200000 in
theorem indexF_N {α : Type} (R : List Value → α → Prop) (p : α → Bool) (A : Option Addr) (n c : Nat) (xs : List α) (F : FuncId) (caps : Array Value) (w : World) (S : Nat → Prop) (hK : RSeq 10 R w S A n xs) (hS : ∀ k, S k → k < w.heap.size) (hn : n ≤ maxLen) (hF : AsksB Tryz.prog w F caps R xs p) (hsh : ∀ x y, R x y → ShapeC_N x) :
    Calls Tryz.prog 49 #[.slice A n c, .func (.func F) #[] caps] w fun e w' => e = .returned (.int .i64 (ixB p xs)) ∧ Below w.heap.size w w' := by
  unfold maxLen at hn
  have HK := Lib.hid hK; have HS := Lib.hid hS; have HF := Lib.hid hF; clear hK hS hF
  have Hlen := Lib.hid HK.out.len
  go_enter Tryz.func49, Tryz.ntmps49
  go_wp2
  go_loopg [8] n (fun g iv wr => ∃ (j : Nat), Hid (j + g = n) ∧ iv = .int .i64 j ∧ Hid ((xs.take j).any p = false) ∧ Below w.heap.size w wr)
  case atStart => exact ⟨0, Lib.hid (Nat.zero_add _), rfl, Lib.hid rfl, Below.refl _ _⟩
  case round =>
    obtain ⟨j, Hj, rfl, Hcl, hb⟩ := hrel
    have HBr := Lib.hid hb; clear hb
    by_cases hj : j < n
    · obtain ⟨b, o, x, y, rfl, hb, hy, hxy, hxl, hcell⟩ := (HK.out.keep (w' := wr) (fun p hp => HBr.out.cell (HS.out _ hp)) fun _ _ h => h).at_ hj (by decide)
      have Hhit := Lib.hid (fun h => ixB_hit hy h Hcl.out)
      have Hmiss := Lib.hid (fun h => ixB_next hy h Hcl.out)
      have hmem := List.mem_of_getElem? hy
      obtain ⟨x0, x1, x2, x3, x4, x5, x6, x7, x8, x9a, x9n, x9c, rfl⟩ := hsh _ _ hxy
      have g0 := hcell 0 (by omega); have g1 := hcell 1 (by omega); have g2 := hcell 2 (by omega); have g3 := hcell 3 (by omega); have g4 := hcell 4 (by omega); have g5 := hcell 5 (by omega); have g6 := hcell 6 (by omega); have g7 := hcell 7 (by omega); have g8 := hcell 8 (by omega); have g9 := hcell 9 (by omega)
      simp only [List.getElem?_cons_zero, List.getElem?_cons_succ, Nat.add_zero] at g0 g1 g2 g3 g4 g5 g6 g7 g8 g9
      clear hcell hy
      have hcall := HF.out.2 _ hmem _ _ HBr.out hxy
      have henter := HF.out.1
      clear hxy hxl hmem
      generalize p y = q at hcall Hhit Hmiss
      have Hcall := Lib.hid hcall; clear hcall
      cases q
      · have Hm := Lib.hid (Hmiss.out rfl)
        go_wp2_with fail
        refine Hcall.out.mono ?_
        rintro e w' ⟨rfl, hb'⟩
        have HB3 := Lib.hid (HBr.out.trans (hb'.mono HBr.out.size)); clear hb'
        go_wp2_with fail
        go_roundg (gk - 1)
        case measure => have := Hj.out; omega
        case rel => exact ⟨j + 1, Lib.hid (by have := Hj.out; omega), by go_num, Hm, HB3.out⟩
      · have Hh := Lib.hid (Hhit.out rfl)
        go_wp2_with fail
        refine Hcall.out.mono ?_
        rintro e w' ⟨rfl, hb'⟩
        have HB3 := Lib.hid (HBr.out.trans (hb'.mono HBr.out.size)); clear hb'
        go_wp2_with fail
        go_ret
        exact ⟨ret_int Hh.out.symm, HB3.out⟩
    · go_wp2_with fail
      go_ret
      refine ⟨ret_int ?_, HBr.out⟩
      have h1 := Hcl.out
      rw [List.take_of_length_le (by have := Hlen.out; omega)] at h1
      exact (ixB_none h1).symm
set_option maxHeartbeats 400000 in
theorem containsF_N {α : Type} (R : List Value → α → Prop) (p : α → Bool) (A : Option Addr) (n c : Nat) (xs : List α) (F : FuncId) (caps : Array Value) (w : World) (S : Nat → Prop) (hK : RSeq 10 R w S A n xs) (hS : ∀ k, S k → k < w.heap.size) (hn : n ≤ maxLen) (hF : AsksB Tryz.prog w F caps R xs p) (hsh : ∀ x y, R x y → ShapeC_N x) :
    Calls Tryz.prog 19 #[.slice A n c, .func (.func F) #[] caps] w fun e w' => e = .returned (.bool (xs.any p)) ∧ Below w.heap.size w w' := by
  have Hcall := Lib.hid (indexF_N R p A n c xs F caps w S hK hS hn hF hsh)
  have Hi := Lib.hid (ixB_any p xs)
  clear hK hS hF
  generalize ixB p xs = i at Hcall Hi
  go_enter Tryz.func19, Tryz.ntmps19
  go_wp2_with fail
  refine Hcall.out.mono ?_
  rintro e w' ⟨rfl, hb⟩
  have HB := Lib.hid hb; clear hb
  go_wp2_with fail
  go_ret
  exact ⟨ret_bool Hi.out, HB.out⟩
end Go.Proofs.YtpipgffbhpnmkaaGreatDoor

/- The closures of valid.holds; what is at hand in it. -/
namespace Go.Proofs.YtpipgffbhpnmkaaGreatDoor
open Go.RowKit Qm

/-- A right tree and a right set in memory. -/
structure Cx (ps : List Pk) (l : List Mem) (S : Nat → Prop) (A : Option Addr) (n c : Nat) (B : Option Addr) (q d : Nat) (w : World) : Prop where
  t : RTree w S A n ps
  s : RSet w S B q l
  nc : n ≤ c
  cm : c ≤ maxLen
  n8 : n ≤ 8
  qd : q ≤ d
  dm : d ≤ maxLen
  ok : ∀ m ∈ l, MemOk ps m
  lt : ∀ k, S k → k < w.heap.size
section
variable {ps : List Pk} {l : List Mem} {S : Nat → Prop} {A B : Option Addr} {n c q d : Nat} {w w' : World}
theorem Cx.under (h : Cx ps l S A n c B q d w) (hb : Below w.heap.size w w') : Cx ps l S A n c B q d w' :=
  ⟨h.t.under hb h.lt, h.s.under hb h.lt, h.nc, h.cm, h.n8, h.qd, h.dm, h.ok, fun k hk => Nat.lt_of_lt_of_le (h.lt k hk) hb.size⟩
/-- valid.is on what is at hand. -/
theorem Cx.is (h : Cx ps l S A n c B q d w) {m : Mem} (hm : m ∈ l) {E : Option Addr} {k r : Nat} (hB : RBools w S E k m.on) (hkr : k ≤ r) (a : At) (h1 : a.nm.length ≤ maxLen) (h2 : a.fl.length ≤ maxLen) (hb : Below w.heap.size w w') :
    Calls Tryz.prog 75 #[.agg #[.slice A n c], .agg #[.int .i64 m.pl, .slice E k r], .agg #[.string ⟨a.nm.toArray⟩, .int .i64 a.op, .int .i64 a.ver, .int .i64 a.slot, .string ⟨a.fl.toArray⟩, .bool a.on]] w' fun e w2 => e = .returned (.bool (isA ps m a)) ∧ Below w'.heap.size w' w2 :=
  is_any ps m a S A E n c k r w' (h.t.under hb h.lt) (Row.below hB hb h.lt) hkr (h.ok m hm) (fun k hk => Nat.lt_of_lt_of_le (h.lt k hk) hb.size) h.n8 h1 h2
end
theorem shape_mem {w : World} {S : Nat → Prop} {x : List Value} {m : Mem} (h : RMem w S x m) : ShapeC_M x := by
  obtain ⟨A, n, c, rfl, _⟩ := h
  exact ⟨_, _, _, _, rfl⟩
theorem shape_nd {w : World} {S : Nat → Prop} {x : List Value} {y : Nd} (h : RNd w S x y) : ShapeC_N x := by
  obtain ⟨k, a, f, no, ks⟩ := y
  obtain ⟨A, n, c, rfl, -⟩ := h.open_
  exact ⟨_, _, _, _, _, _, _, _, _, _, _, _, rfl⟩
theorem kids_seq {w : World} {S : Nat → Prop} {A : Option Addr} {n : Nat} {ks : List Nd} (h : RKids w S A n ks) : RSeq 10 (RNd w S) w S A n ks := by
  obtain ⟨cs, h1, h2, h3, h4⟩ := h
  refine ⟨cs, h1, h2, h3, fun x hx => ?_, h4⟩
  obtain ⟨j, hj, rfl⟩ := List.mem_iff_getElem.1 hx
  exact (h4 j _ (ks[j]'(by omega)) (List.getElem?_eq_getElem hj) (List.getElem?_eq_getElem _)).ten
set_option maxRecDepth 100000 in
set_option maxHeartbeats 1600000 in
/-- 'each': holds of one kid. -/
theorem each_any (A B : Option Addr) (n c q d k tb lb kb : Nat) (cx : List Value) (v : Bool) (w : World) (hs : ShapeC_N cx) (ht : w.cell? ⟨tb, 0, none⟩ = some (.slice A n c)) (hl : w.cell? ⟨lb, 0, none⟩ = some (.slice B q d)) (hk : w.cell? ⟨kb, 0, none⟩ = some (.int .i64 (k : Int)))
    (hh : ∀ w', Below w.heap.size w w' → Calls Tryz.prog 48 #[.agg #[.slice A n c], .slice B q d, .int .i64 (k : Int), .agg cx.toArray] w' fun e w2 => e = .returned (.bool v) ∧ Below w'.heap.size w' w2) :
    Calls Tryz.prog 72 #[.agg cx.toArray, .pointer (some ⟨tb, 0, none⟩), .pointer (some ⟨lb, 0, none⟩), .pointer (some ⟨kb, 0, none⟩)] w fun e w' => e = .returned (.bool v) ∧ Below w.heap.size w w' := by
  obtain ⟨x0, x1, x2, x3, x4, x5, x6, x7, x8, x9a, x9n, x9c, rfl⟩ := hs
  have HB := Lib.hid ((Below.refl _ w).alloc (Nat.le_refl _) (.cells #[.int .i64 x0, .string x1, .int .i64 x2, .int .i64 x3, .int .i64 x4, .string x5, .bool x6, .string x7, .bool x8, .slice x9a x9n x9c] 40))
  have HH := Lib.hid (hh _ HB.out)
  have tlt := World.block_lt_of_cell? _ _ ht
  have llt := World.block_lt_of_cell? _ _ hl
  have klt := World.block_lt_of_cell? _ _ hk
  dsimp only at tlt llt klt
  clear hh
  go_enter Tryz.func72, Tryz.ntmps72
  go_wp2_with (first | (go_at_call 48; refine HH.out.mono ?_; rintro e w3 ⟨rfl, hb3⟩; refine Hid.out ?_))
  refine Lib.hid ?_
  have HB3 := Lib.hid (HB.out.trans (hb3.mono HB.out.size))
  clear hb3
  go_wp2
  go_ret
  exact ⟨rfl, HB3.out⟩
set_option maxRecDepth 100000 in
set_option maxHeartbeats 1600000 in
/-- 'not': not each. -/
theorem not_any (A B : Option Addr) (n c q d k tb lb kb eb : Nat) (cx : List Value) (v : Bool) (w : World) (hs : ShapeC_N cx) (ht : w.cell? ⟨tb, 0, none⟩ = some (.slice A n c)) (hl : w.cell? ⟨lb, 0, none⟩ = some (.slice B q d)) (hk : w.cell? ⟨kb, 0, none⟩ = some (.int .i64 (k : Int)))
    (he : w.cell? ⟨eb, 0, none⟩ = some (.func (.func 72) #[] #[.pointer (some ⟨tb, 0, none⟩), .pointer (some ⟨lb, 0, none⟩), .pointer (some ⟨kb, 0, none⟩)]))
    (hh : ∀ w', Below w.heap.size w w' → Calls Tryz.prog 48 #[.agg #[.slice A n c], .slice B q d, .int .i64 (k : Int), .agg cx.toArray] w' fun e w2 => e = .returned (.bool v) ∧ Below w'.heap.size w' w2) :
    Calls Tryz.prog 73 #[.agg cx.toArray, .pointer (some ⟨eb, 0, none⟩)] w fun e w' => e = .returned (.bool (!v)) ∧ Below w.heap.size w w' := by
  have hb := (Below.refl _ w).alloc (Nat.le_refl _) (.cells cx.toArray 40)
  have hea := each_any A B n c q d k tb lb kb cx v _ hs ((hb.cell (World.block_lt_of_cell? _ _ ht)).trans ht) ((hb.cell (World.block_lt_of_cell? _ _ hl)).trans hl) ((hb.cell (World.block_lt_of_cell? _ _ hk)).trans hk) (fun w' hb' => hh w' (hb.trans (hb'.mono hb.size)))
  have HB := Lib.hid hb
  obtain ⟨x0, x1, x2, x3, x4, x5, x6, x7, x8, x9a, x9n, x9c, rfl⟩ := hs
  have HE := Lib.hid hea
  have elt := World.block_lt_of_cell? _ _ he
  dsimp only at elt
  have henter : ∀ (args : Array Value) (W : World), (callFunc 72 args).run Tryz.prog W = .ok (.enter 72 args) W := fun args W => by kernel_rfl
  clear hh hea hb ht hl hk
  go_enter Tryz.func73, Tryz.ntmps73
  go_wp2_with (first | (go_at_call 72; refine HE.out.mono ?_; rintro e w3 ⟨rfl, hb3⟩; refine Hid.out ?_))
  refine Lib.hid ?_
  have HB3 := Lib.hid (HB.out.trans (hb3.mono HB.out.size))
  clear hb3
  go_wp2
  go_ret
  exact ⟨rfl, HB3.out⟩
set_option maxRecDepth 100000 in
set_option maxHeartbeats 1600000 in
/-- Whether one member is what a need's atom asks. -/
theorem wants_any {ps : List Pk} {l : List Mem} {S : Nat → Prop} {A B : Option Addr} {n c q d : Nat} {w0 : World} (C : Cx ps l S A n c B q d w0) (a : At) (h1 : a.nm.length ≤ maxLen) (h2 : a.fl.length ≤ maxLen) (tb nb : Nat) (kd : Int) (f : Qm.W) (no : Bool) (D : Option Addr) (e9 r9 : Nat) {m : Mem} (hm : m ∈ l) (cx : List Value) (hx : RMem w0 S cx m) (w : World) (hb : Below w0.heap.size w0 w)
    (ht : w.cell? ⟨tb, 0, none⟩ = some (.slice A n c)) (hn : ∀ i, i < 10 → w.cell? ⟨nb, i, none⟩ = (ndRow kd a f no D e9 r9)[i]?) :
    Calls Tryz.prog 74 #[.agg cx.toArray, .pointer (some ⟨tb, 0, none⟩), .pointer (some ⟨nb, 0, none⟩)] w fun e w' => e = .returned (.bool (isA ps m a)) ∧ Below w.heap.size w w' := by
  obtain ⟨E, k, r, rfl, hkr, hr, hon⟩ := hx
  have hb1 : Below w.heap.size w (w.alloc (.cells #[.int .i64 m.pl, .slice E k r] 33)) := (Below.refl _ w).alloc (Nat.le_refl _) _
  have HI := Lib.hid (C.is hm hon hkr a h1 h2 (hb.trans (hb1.mono hb.size)))
  have HB := Lib.hid hb1
  have g1 := hn 1 (by omega); have g2 := hn 2 (by omega); have g3 := hn 3 (by omega); have g4 := hn 4 (by omega); have g5 := hn 5 (by omega); have g6 := hn 6 (by omega)
  unfold ndRow at g1 g2 g3 g4 g5 g6
  simp only [List.getElem?_cons_zero, List.getElem?_cons_succ] at g1 g2 g3 g4 g5 g6
  have tlt := World.block_lt_of_cell? _ _ ht
  have nlt := World.block_lt_of_cell? _ _ g1
  dsimp only at tlt nlt
  clear hb1 hb hon hn C hm
  go_enter Tryz.func74, Tryz.ntmps74
  go_wp2_with (first | (go_at_call 75; refine HI.out.mono ?_; rintro e w3 ⟨rfl, hb3⟩; refine Hid.out ?_))
  refine Lib.hid ?_
  have HB3 := Lib.hid (HB.out.trans (hb3.mono HB.out.size))
  clear hb3
  go_wp2
  go_ret
  exact ⟨rfl, HB3.out⟩
end Go.Proofs.YtpipgffbhpnmkaaGreatDoor

/- valid.holds, walked. -/
namespace Go.Proofs.YtpipgffbhpnmkaaGreatDoor
open Go.RowKit Qm

/-- The boxes of valid.holds. -/
structure Hb (w : World) (A : Option Addr) (n c : Nat) (B : Option Addr) (q d k : Nat) (nr : List Value) (wx : World) : Prop where
  t : Whole wx w.heap.size 24 [.slice A n c]
  l : Whole wx (w.heap.size + 1) 25 [.slice B q d]
  k : Whole wx (w.heap.size + 1 + 1) 3 [.int .i64 (k : Int)]
  n : Whole wx (w.heap.size + 1 + 1 + 1) 40 nr
  e : Whole wx (w.heap.size + 1 + 1 + 1 + 1) 67 [.func (.func 72) #[] #[.pointer (some ⟨w.heap.size, 0, none⟩), .pointer (some ⟨w.heap.size + 1, 0, none⟩), .pointer (some ⟨w.heap.size + 1 + 1, 0, none⟩)]]
  bel : Below w.heap.size w wx
theorem Hb.move {w : World} {A : Option Addr} {n c : Nat} {B : Option Addr} {q d k : Nat} {nr : List Value} {wx wy : World} (h : Hb w A n c B q d k nr wx) (hb : Below wx.heap.size wx wy) : Hb w A n c B q d k nr wy :=
  ⟨h.t.below hb h.t.lt, h.l.below hb h.l.lt, h.k.below hb h.k.lt, h.n.below hb h.n.lt, h.e.below hb h.e.lt, h.bel.trans (hb.mono h.bel.size)⟩
theorem Hb.new (w : World) (A : Option Addr) (n c : Nat) (B : Option Addr) (q d k : Nat) (nr : List Value) :
    Hb w A n c B q d k nr (((((w.alloc (.cells #[.slice A n c] 24)).alloc (.cells #[.slice B q d] 25)).alloc (.cells #[.int .i64 (k : Int)] 3)).alloc (.cells nr.toArray 40)).alloc
      (.cells #[.func (.func 72) #[] #[.pointer (some ⟨w.heap.size, 0, none⟩), .pointer (some ⟨w.heap.size + 1, 0, none⟩), .pointer (some ⟨w.heap.size + 1 + 1, 0, none⟩)]] 67)) := by
  have h1 := Whole.new w _ 24 [.slice A n c] rfl
  have h2 := Whole.new (w.alloc (.cells #[.slice A n c] 24)) (w.heap.size + 1) 25 [.slice B q d] (by simp)
  have h3 := Whole.new ((w.alloc (.cells #[.slice A n c] 24)).alloc (.cells #[.slice B q d] 25)) (w.heap.size + 1 + 1) 3 [.int .i64 (k : Int)] (by simp)
  have h4 := Whole.new (((w.alloc (.cells #[.slice A n c] 24)).alloc (.cells #[.slice B q d] 25)).alloc (.cells #[.int .i64 (k : Int)] 3)) (w.heap.size + 1 + 1 + 1) 40 nr (by simp)
  exact ⟨(((h1.alloc _).alloc _).alloc _).alloc _, ((h2.alloc _).alloc _).alloc _, (h3.alloc _).alloc _, h4.alloc _, Whole.new _ _ _ [_] (by simp), (((((Below.refl _ w).alloc (Nat.le_refl _) _).alloc (by simp) _).alloc (by simp; omega) _).alloc (by simp; omega) _).alloc (by simp; omega) _⟩

theorem blockB_step {f : Mem → Bool} {k i : Nat} {l : List Mem} {m : Mem} (h : l[i]? = some m) : blockB f k i (l.drop i) = if i ≠ k ∧ f m = true then false else blockB f k (i + 1) (l.drop (i + 1)) := by
  obtain ⟨hj, rfl⟩ := List.getElem?_eq_some_iff.1 h
  rw [List.drop_eq_getElem_cons hj]
  rfl
theorem memAt_at {l : List Mem} {k : Nat} {m : Mem} (h : l[k]? = some m) : memAt l k = m := by
  unfold memAt
  rw [List.getD_eq_getElem?_getD, h]; rfl
theorem flagsN_kid {k : Int} {a : At} {f : Qm.W} {no : Bool} : ∀ {ks : List Nd} {x : Nd}, x ∈ ks → ∀ g ∈ flagsN x, g ∈ flagsL ks
  | y :: r, x, hx, g, hg => by
    simp only [flagsL, List.mem_append]
    rcases List.mem_cons.1 hx with rfl | hx
    · exact .inl hg
    · exact .inr (flagsN_kid (k := k) (a := a) (f := f) (no := no) hx g hg)
theorem any_not {α : Type} (p : α → Bool) (l : List α) : (!l.any fun x => !p x) = l.all p := by
  induction l with
  | nil => rfl
  | cons x r ih => simp only [List.any_cons, List.all_cons, Bool.not_or, Bool.not_not, ih]
set_option maxRecDepth 100000 in
set_option maxHeartbeats 6400000 in
theorem holds_any (ps : List Pk) (l : List Mem) (S : Nat → Prop) (A : Option Addr) (n c : Nat) (B : Option Addr) (q d : Nat) : ∀ (y : Nd) (k : Nat) (cx : List Value) (w : World), Cx ps l S A n c B q d w → k < q → RNd w S cx y → (∀ f ∈ flagsN y, f ∈ (pkOf ps (memAt l k).pl).fs) →
    Calls Tryz.prog 48 #[.agg #[.slice A n c], .slice B q d, .int .i64 (k : Int), .agg cx.toArray] w fun e w' => e = .returned (.bool (holdsN ps l k (memAt l k) y)) ∧ Below w.heap.size w w' := by
  refine Nd.ind fun kd a f no ks ih => ?_
  intro k cx w C hkq hx hfl
  obtain ⟨D, r, e, rfl, hre, he, h1, h2, h3, hK⟩ := hx.open_
  have HC : Hid (holdsN ps l k (memAt l k) (.mk kd a f no ks) = if kd = 1 then l.any (fun m => isA ps m a) else if kd = 2 then blockB (fun m => isA ps m a) k 0 l else if kd = 4 then someN ps l k (memAt l k) ks else if kd = 5 ∧ ifOff ps (memAt l k) f no = true then true else allN ps l k (memAt l k) ks) := Lib.hid rfl
  generalize holdsN ps l k (memAt l k) (.mk kd a f no ks) = R at HC ⊢
  have H5 := Lib.hid (Hb.new w A n c B q d k (ndRow kd a f no D r e))
  have hll := C.s.len
  have hkl : k < l.length := by omega
  -- the closures, in whatever world comes
  have Heach := Lib.hid (fun x (hx : x ∈ ks) cx' (W : World) (hb : Below w.heap.size w W) (hr : RNd w S cx' x) => ih x hx k cx' W (C.under hb) hkq (hr.under hb C.lt) (fun g hg => hfl g (by unfold flagsN; exact List.mem_append_right _ (flagsN_kid (k := kd) (a := a) (f := f) (no := no) hx g hg))))
  have HF5 : Hid (kd = 5 → f ∈ (pkOf ps (memAt l k).pl).fs) := Lib.hid fun h => hfl f (by unfold flagsN; rw [if_pos h]; simp)
  have HKD := Lib.hid hK
  have HCX := Lib.hid C
  have H1 := Lib.hid h1; have H2 := Lib.hid h2; have H3 := Lib.hid h3; have HE := Lib.hid he
  have HN := Lib.hid (show RNd w S (ndRow kd a f no D r e) (.mk kd a f no ks) from hx)
  clear hx hfl ih h1 h2 h3 hK
  have hqd := C.qd
  have hdm := C.dm
  clear C
  unfold maxLen at hdm he
  by_cases k1 : kd = 1
  · subst k1
    have HR : Hid (R = l.any (fun m => isA ps m a)) := Lib.hid (by rw [HC.out, if_pos rfl])
    have hcf := containsF_M (RMem w S) (fun m => isA ps m a) B q d l 74 #[.pointer (some ⟨w.heap.size, 0, none⟩), .pointer (some ⟨w.heap.size + 1 + 1 + 1, 0, none⟩)] _ S (RSeq.keep HCX.out.s (fun p hp => H5.out.bel.cell (HCX.out.lt _ hp)) fun _ _ h => h) (fun x hx => Nat.lt_of_lt_of_le (HCX.out.lt x hx) H5.out.bel.size) (by unfold maxLen; omega)
      ⟨fun args W => by kernel_rfl, fun m hm cx W hb hr => wants_any HCX.out a H1.out H2.out w.heap.size (w.heap.size + 1 + 1 + 1) 1 f no D r e hm cx hr W (H5.out.bel.trans (hb.mono H5.out.bel.size)) ((H5.out.move hb).t.cell 0) (fun i _ => (H5.out.move hb).n.cell i)⟩ (fun x y h => shape_mem h)
    have Hcf := Lib.hid hcf
    unfold ndRow at Hcf H5 ⊢
    clear hcf HC Heach HF5
    go_enter Tryz.func48, Tryz.ntmps48
    go_wp2_with (first | (go_at_call 32; refine Hcf.out.mono ?_; rintro e w6 ⟨rfl, hb6⟩; refine Hid.out ?_))
    refine Lib.hid ?_
    have H6 := Lib.hid (H5.out.move hb6)
    clear hb6
    go_wp2
    go_ret
    exact ⟨ret_bool HR.out.symm, H6.out.bel⟩
  by_cases k2 : kd = 2
  · subst k2
    have HR : Hid (R = blockB (fun m => isA ps m a) k 0 l) := Lib.hid (by rw [HC.out, if_neg (by decide), if_pos rfl])
    have Hll := Lib.hid hll
    unfold ndRow at H5 ⊢
    clear HC Heach HF5
    go_enter Tryz.func48, Tryz.ntmps48
    go_wp2
    go_loopg [27] q (fun g iv wr => ∃ i : Nat, Hid (i + g = q) ∧ iv = .int .i64 i ∧ Hid (blockB (fun m => isA ps m a) k 0 l = blockB (fun m => isA ps m a) k i (l.drop i)) ∧ Hid (Hb w A n c B q d k [.int .i64 2, .string ⟨a.nm.toArray⟩, .int .i64 a.op, .int .i64 a.ver, .int .i64 a.slot, .string ⟨a.fl.toArray⟩, .bool a.on, .string ⟨f.toArray⟩, .bool no, .slice D r e] wr))
    case atStart => exact ⟨0, Lib.hid (Nat.zero_add _), rfl, Lib.hid rfl, H5⟩
    case round =>
      obtain ⟨i, Hi, rfl, Hcl, HR5⟩ := hrel
      clear H5
      by_cases hi : i < q
      · obtain ⟨b, o, m, E, u, v, rfl, hbS, hm, huv, hv, hon, g0, g1⟩ := (HCX.out.s.under HR5.out.bel HCX.out.lt).at_ hi
        have Hst := Lib.hid (blockB_step (f := fun m => isA ps m a) (k := k) hm)
        have hbl : b < wr.heap.size := Nat.lt_of_lt_of_le (HCX.out.lt _ hbS) HR5.out.bel.size
        have hal : Below wr.heap.size wr (wr.alloc (.cells #[.int .i64 m.pl, .slice E u v] 33)) := (Below.refl _ _).alloc (Nat.le_refl _) _
        have H6 := Lib.hid (HR5.out.move hal)
        have t0 := HR5.out.t.cell 0
        have kc0 := HR5.out.k.cell 0
        have n1 := HR5.out.n.cell 1; have n2 := HR5.out.n.cell 2; have n3 := HR5.out.n.cell 3; have n4 := HR5.out.n.cell 4; have n5 := HR5.out.n.cell 5; have n6 := HR5.out.n.cell 6
        simp only [List.getElem?_cons_zero, List.getElem?_cons_succ] at t0 kc0 n1 n2 n3 n4 n5 n6
        have elt := HR5.out.e.lt
        have elt0 : w.heap.size < wr.heap.size := by omega
        have elt1 : w.heap.size + 1 < wr.heap.size := by omega
        have elt2 : w.heap.size + 1 + 1 < wr.heap.size := by omega
        have elt3 : w.heap.size + 1 + 1 + 1 < wr.heap.size := by omega
        by_cases hik : i = k
        · subst hik
          have HS : Hid (blockB (fun m => isA ps m a) i i (l.drop i) = blockB (fun m => isA ps m a) i (i + 1) (l.drop (i + 1))) := Lib.hid (by rw [Hst.out, if_neg (by simp)])
          go_wp2
          go_roundg (gk - 1)
          case measure => have := Hi.out; omega
          case rel => exact ⟨i + 1, Lib.hid (by have := Hi.out; omega), by go_num, Lib.hid (by rw [Hcl.out, HS.out]), H6⟩
        · have hik1 : ((i : Int) != (k : Int)) = true := by simp; omega
          have His := Lib.hid (HCX.out.is (w' := wr.alloc (.cells #[.int .i64 m.pl, .slice E u v] 33)) (List.mem_of_getElem? hm) (Row.keep (w := wr) (w' := w) hon (fun p hp => (HR5.out.bel.cell (HCX.out.lt _ hp)).symm)) huv a H1.out H2.out H6.out.bel)
          clear hm hon hal
          generalize isA ps m a = x at His Hst
          cases x
          · have HS : Hid (blockB (fun m => isA ps m a) k i (l.drop i) = blockB (fun m => isA ps m a) k (i + 1) (l.drop (i + 1))) := Lib.hid (by rw [Hst.out, if_neg (by simp)])
            go_wp2_with (first | (go_at_call 75; refine His.out.mono ?_; rintro e w7 ⟨rfl, hb7⟩; refine Hid.out ?_))
            refine Lib.hid ?_
            have H7 := Lib.hid (H6.out.move hb7)
            clear hb7 t0 kc0 n1 n2 n3 n4 n5 n6 elt elt0 elt1 elt2 elt3 hbl g0 g1
            go_wp2
            go_roundg (gk - 1)
            case measure => have := Hi.out; omega
            case rel => exact ⟨i + 1, Lib.hid (by have := Hi.out; omega), by go_num, Lib.hid (by rw [Hcl.out, HS.out]), H7⟩
          · have HS : Hid (blockB (fun m => isA ps m a) k i (l.drop i) = false) := Lib.hid (by rw [Hst.out, if_pos ⟨hik, rfl⟩])
            go_wp2_with (first | (go_at_call 75; refine His.out.mono ?_; rintro e w7 ⟨rfl, hb7⟩; refine Hid.out ?_))
            refine Lib.hid ?_
            have H7 := Lib.hid (H6.out.move hb7)
            clear hb7 t0 kc0 n1 n2 n3 n4 n5 n6 elt elt0 elt1 elt2 elt3 hbl g0 g1
            go_wp2
            go_ret
            exact ⟨ret_bool (by rw [HR.out, Hcl.out, HS.out]), H7.out.bel⟩
      · obtain rfl : q = i := by have := Hi.out; omega
        go_wp2
        go_ret
        exact ⟨ret_bool (by rw [HR.out, Hcl.out, List.drop_of_length_le (by have := Hll.out; omega)]; rfl), HR5.out.bel⟩
  by_cases k4 : kd = 4
  · subst k4
    have HR : Hid (R = ks.any (holdsN ps l k (memAt l k))) := Lib.hid (by rw [HC.out, if_neg (by decide), if_neg (by decide), if_pos rfl, someN_eq])
    have hcf := containsF_N (RNd w S) (holdsN ps l k (memAt l k)) D r e ks 72 #[.pointer (some ⟨w.heap.size, 0, none⟩), .pointer (some ⟨w.heap.size + 1, 0, none⟩), .pointer (some ⟨w.heap.size + 1 + 1, 0, none⟩)] _ S (RSeq.keep (kids_seq HKD.out) (fun p hp => H5.out.bel.cell (HCX.out.lt _ hp)) fun _ _ h => h) (fun x hx => Nat.lt_of_lt_of_le (HCX.out.lt x hx) H5.out.bel.size) (by unfold maxLen; omega)
      ⟨fun args W => by kernel_rfl, fun x hx cx W hb hr => each_any A B n c q d k w.heap.size (w.heap.size + 1) (w.heap.size + 1 + 1) cx (holdsN ps l k (memAt l k) x) W (shape_nd hr) ((H5.out.move hb).t.cell 0) ((H5.out.move hb).l.cell 0) ((H5.out.move hb).k.cell 0) (fun w' hb' => Heach.out x hx cx w' ((H5.out.bel.trans (hb.mono H5.out.bel.size)).trans (hb'.mono (Nat.le_trans H5.out.bel.size hb.size))) hr)⟩ (fun x y h => shape_nd h)
    generalize ks.any (holdsN ps l k (memAt l k)) = sm at hcf HR
    have Hcf := Lib.hid hcf
    unfold ndRow at Hcf H5 ⊢
    clear hcf HC Heach HF5
    go_enter Tryz.func48, Tryz.ntmps48
    go_wp2_with (first | (go_at_call 19; refine Hcf.out.mono ?_; rintro e w6 ⟨rfl, hb6⟩; refine Hid.out ?_))
    refine Lib.hid ?_
    have H6 := Lib.hid (H5.out.move hb6)
    clear hb6
    go_wp2
    go_ret
    exact ⟨ret_bool HR.out.symm, H6.out.bel⟩
  have k1' : (kd == 1) = false := by simpa using k1
  have k2' : (kd == 2) = false := by simpa using k2
  have k4' : (kd == 4) = false := by simpa using k4
  by_cases k5 : kd = 5
  · subst k5
    have Hcf := Lib.hid (fun (wx : World) (H6 : Hb w A n c B q d k (ndRow 5 a f no D r e) wx) => containsF_N (RNd w S) (fun x => !holdsN ps l k (memAt l k) x) D r e ks 73 #[.pointer (some ⟨w.heap.size + 1 + 1 + 1 + 1, 0, none⟩)] wx S (RSeq.keep (kids_seq HKD.out) (fun p hp => H6.bel.cell (HCX.out.lt _ hp)) fun _ _ h => h) (fun x hx => Nat.lt_of_lt_of_le (HCX.out.lt x hx) H6.bel.size) (by unfold maxLen; omega)
      ⟨fun args W => by kernel_rfl, fun x hx cx W hb hr => not_any A B n c q d k w.heap.size (w.heap.size + 1) (w.heap.size + 1 + 1) (w.heap.size + 1 + 1 + 1 + 1) cx (holdsN ps l k (memAt l k) x) W (shape_nd hr) ((H6.move hb).t.cell 0) ((H6.move hb).l.cell 0) ((H6.move hb).k.cell 0) ((H6.move hb).e.cell 0) (fun w' hb' => Heach.out x hx cx w' ((H6.bel.trans (hb.mono H6.bel.size)).trans (hb'.mono (Nat.le_trans H6.bel.size hb.size))) hr)⟩ (fun x y h => shape_nd h))
    have HRA : Hid ((!ks.any fun x => !holdsN ps l k (memAt l k) x) = allN ps l k (memAt l k) ks) := Lib.hid (by rw [any_not, allN_eq])
    generalize (ks.any fun x => !holdsN ps l k (memAt l k) x) = al at Hcf HRA
    generalize allN ps l k (memAt l k) ks = AL at HRA HC
    obtain ⟨b, o, m, E, u, v, rfl, hbS, hm, huv, hv, hon, g0, g1⟩ := HCX.out.s.at_ hkq
    have hme : memAt l k = m := memAt_at hm
    obtain ⟨hp0, hp1, hp2⟩ := HCX.out.ok m (List.mem_of_getElem? hm)
    have hff := HF5.out rfl
    rw [hme] at hff
    rw [hme] at HC
    have HIO : Hid (ifOff ps m f no = match ixOf f (pkOf ps m.pl).fs with | some j => onOf m.on j == no | none => false) := Lib.hid rfl
    obtain ⟨pl, on⟩ := m
    dsimp only at g0 g1 hon hp0 hp1 hp2 hff HC HIO
    have hpl := HCX.out.t.len
    obtain ⟨j, rfl⟩ : ∃ j : Nat, pl = j := ⟨pl.toNat, by omega⟩
    have hjn : j < n := by omega
    obtain ⟨b2, o2, p, F, fn, fc, kq, pa, pf, pno, G, gq, gd, rfl, hbS2, hp, hP, hcell⟩ := HCX.out.t.at_ hjn
    rw [pkOf_at hp] at hp2 hff HIO
    have h3 := hcell 3 (by omega)
    unfold pkRow ndRow at h3
    simp only [List.getElem?_cons_zero, List.getElem?_cons_succ] at h3
    obtain ⟨fi, hfi⟩ : ∃ fi, ixOf f p.fs = some fi := by
      cases h : ixOf f p.fs with
      | none => exact absurd hff (ixOf_none.1 h)
      | some i => exact ⟨i, rfl⟩
    have hlt := ixOf_lt hfi
    obtain ⟨b3, o3, rfl, hbS3, hbc⟩ := hon.at_ (k := fi) (by have := hon.len; omega)
    have hfu : (fi : Int) < u := by have := hon.len; omega
    have hfu0 : (0 : Int) ≤ (fi : Int) := by omega
    have HIO2 : Hid (ifOff ps ⟨(j : Int), on⟩ f no = (on.getD fi false == no)) := Lib.hid (by rw [HIO.out, hfi]; rfl)
    generalize on.getD fi false = ov at hbc HIO2
    have hix := fun wx (hb : Below w.heap.size w wx) => indexS_any F fn fc p.fs f wx S (hP.fs.row.below (w' := wx) hb HCX.out.lt) (Nat.le_trans hP.cap hP.max)
    rw [hfi] at hix
    unfold ixI at hix
    have Hix := Lib.hid hix
    have hbl : b < w.heap.size := HCX.out.lt _ hbS
    have hbl2 : b2 < w.heap.size := HCX.out.lt _ hbS2
    have hbl3 : b3 < w.heap.size := HCX.out.lt _ hbS3
    clear hix hP hcell hp hfi hlt hp2 hff hon hm HIO HF5 Heach hp0 hp1 k1 k2 k4
    unfold ndRow at H5 Hcf ⊢
    -- what the region reads, in the boxes' world
    have q0 := (H5.out.bel.cell (p := ⟨b, o + k * 2, none⟩) hbl).trans g0
    have q1 := (H5.out.bel.cell (p := ⟨b, o + k * 2 + 1, none⟩) hbl).trans g1
    have q3 := (H5.out.bel.cell (p := ⟨b2, o2 + j * 14 + 3, none⟩) hbl2).trans h3
    have qb := (H5.out.bel.cell (p := ⟨b3, o3 + fi, none⟩) hbl3).trans hbc
    have t0 := H5.out.t.cell 0
    have l0 := H5.out.l.cell 0
    have kc0 := H5.out.k.cell 0
    have n7 := H5.out.n.cell 7
    have n8 := H5.out.n.cell 8
    have n9 := H5.out.n.cell 9
    have e0 := H5.out.e.cell 0
    simp only [List.getElem?_cons_zero, List.getElem?_cons_succ] at t0 l0 kc0 n7 n8 n9 e0
    have hsz5 := H5.out.bel.size
    have elt := H5.out.e.lt
    have hjn1 : (j : Int) < n := by omega
    have hkq1 : (k : Int) < q := by omega
    clear g0 g1 h3 hbc
    go_enter Tryz.func48, Tryz.ntmps48
    go_wp2
    generalize World.alloc (World.alloc (World.alloc (World.alloc (World.alloc w _) _) _) _) _ = w5 at *
    have elt0 : w.heap.size < w5.heap.size := by omega
    have elt1 : w.heap.size + 1 < w5.heap.size := by omega
    have elt2 : w.heap.size + 1 + 1 < w5.heap.size := by omega
    have elt3 : w.heap.size + 1 + 1 + 1 < w5.heap.size := by omega
    go_region_held3 (fun w' => w'.cell? ⟨w.heap.size, 0, none⟩ = some (.slice (some ⟨b2, o2, none⟩) n c) ∧ w'.cell? ⟨w.heap.size + 1, 0, none⟩ = some (.slice (some ⟨b, o, none⟩) q d) ∧ w'.cell? ⟨w.heap.size + 1 + 1, 0, none⟩ = some (.int .i64 (k : Int)) ∧ w'.cell? ⟨b, o + k * 2, none⟩ = some (.int .i64 (j : Int)) ∧ w'.cell? ⟨b2, o2 + j * 14 + 3, none⟩ = some (.slice F fn fc) ∧ w'.cell? ⟨w.heap.size + 1 + 1 + 1, 7, none⟩ = some (.string ⟨f.toArray⟩))
      (first | go_keep | exact ⟨t0, l0, kc0, q0, q3, n7⟩)
      (first | (go_at_call 56; refine (Hix.out _ (below_drewN H5.out.bel 1)).mono ?_; rintro e wn ⟨rfl, hwn⟩; subst hwn) | fail)
    have H6 := Lib.hid (H5.out.move (below_drewN (Below.refl _ _) 1))
    have r0 : (w5.drewN 1).cell? ⟨b, o + k * 2, none⟩ = some (.int .i64 (j : Int)) := q0
    have r1 : (w5.drewN 1).cell? ⟨b, o + k * 2 + 1, none⟩ = some (.slice (some ⟨b3, o3, none⟩) u v) := q1
    have r3 : (w5.drewN 1).cell? ⟨b3, o3 + fi, none⟩ = some (.bool ov) := qb
    clear q0 q1 q3 qb t0 l0 kc0 n7 n8 n9 e0 hsz5 elt elt0 elt1 elt2 elt3
    generalize w5.drewN 1 = w6 at *
    have l0 := H6.out.l.cell 0
    have kc0 := H6.out.k.cell 0
    have n8 := H6.out.n.cell 8
    simp only [List.getElem?_cons_zero, List.getElem?_cons_succ] at l0 kc0 n8
    cases hov : (ov == no)
    · have HIF : Hid (ifOff ps ⟨(j : Int), on⟩ f no = false) := Lib.hid (by rw [HIO2.out, hov])
      have HR : Hid (R = !al) := Lib.hid (by rw [HC.out, if_neg (by decide), if_neg (by decide), if_neg (by decide), if_neg (fun h => by rw [HIF.out] at h; exact absurd h.2 (by decide)), HRA.out])
      go_wp2
      go_quiet (fail)
      rename_i nq
      have H7 := Lib.hid (H6.out.move (below_drewN (Below.refl _ _) nq))
      clear r0 r1 r3 l0 kc0 n8
      generalize w6.drewN nq = w7 at *
      have n9 := H7.out.n.cell 9
      simp only [List.getElem?_cons_zero, List.getElem?_cons_succ] at n9
      have Hcf7 := Lib.hid (Hcf.out _ H7.out)
      go_wp2_with (first | (go_at_call 19; refine Hcf7.out.mono ?_; rintro e w8 ⟨rfl, hb8⟩; refine Hid.out ?_))
      refine Lib.hid ?_
      have H8 := Lib.hid (H7.out.move hb8)
      clear hb8
      go_wp2
      go_ret
      exact ⟨ret_bool HR.out.symm, H8.out.bel⟩
    · have HIF : Hid (ifOff ps ⟨(j : Int), on⟩ f no = true) := Lib.hid (by rw [HIO2.out, hov])
      have HR : Hid (R = true) := Lib.hid (by rw [HC.out, if_neg (by decide), if_neg (by decide), if_neg (by decide), if_pos ⟨by trivial, HIF.out⟩])
      go_wp2
      go_quiet (fail)
      go_wp2
      go_ret
      exact ⟨ret_bool HR.out.symm, below_drewN H6.out.bel _⟩
  · have k5' : (kd == 5) = false := by simpa using k5
    have Hcf := Lib.hid (fun (wx : World) (H6 : Hb w A n c B q d k (ndRow kd a f no D r e) wx) => containsF_N (RNd w S) (fun x => !holdsN ps l k (memAt l k) x) D r e ks 73 #[.pointer (some ⟨w.heap.size + 1 + 1 + 1 + 1, 0, none⟩)] wx S (RSeq.keep (kids_seq HKD.out) (fun p hp => H6.bel.cell (HCX.out.lt _ hp)) fun _ _ h => h) (fun x hx => Nat.lt_of_lt_of_le (HCX.out.lt x hx) H6.bel.size) (by unfold maxLen; omega)
      ⟨fun args W => by kernel_rfl, fun x hx cx W hb hr => not_any A B n c q d k w.heap.size (w.heap.size + 1) (w.heap.size + 1 + 1) (w.heap.size + 1 + 1 + 1 + 1) cx (holdsN ps l k (memAt l k) x) W (shape_nd hr) ((H6.move hb).t.cell 0) ((H6.move hb).l.cell 0) ((H6.move hb).k.cell 0) ((H6.move hb).e.cell 0) (fun w' hb' => Heach.out x hx cx w' ((H6.bel.trans (hb.mono H6.bel.size)).trans (hb'.mono (Nat.le_trans H6.bel.size hb.size))) hr)⟩ (fun x y h => shape_nd h))
    have HRA : Hid ((!ks.any fun x => !holdsN ps l k (memAt l k) x) = allN ps l k (memAt l k) ks) := Lib.hid (by rw [any_not, allN_eq])
    generalize (ks.any fun x => !holdsN ps l k (memAt l k) x) = al at Hcf HRA
    generalize allN ps l k (memAt l k) ks = AL at HRA HC
    have HR : Hid (R = !al) := Lib.hid (by rw [HC.out, if_neg k1, if_neg k2, if_neg k4, if_neg (fun h => k5 h.1), HRA.out])
    have Hcf5 := Lib.hid (Hcf.out _ H5.out)
    unfold ndRow at Hcf5 H5 ⊢
    clear HC Heach HF5 Hcf k1 k2 k4 k5
    go_enter Tryz.func48, Tryz.ntmps48
    go_wp2_with (first | (go_at_call 19; refine Hcf5.out.mono ?_; rintro e w6 ⟨rfl, hb6⟩; refine Hid.out ?_))
    refine Lib.hid ?_
    have H6 := Lib.hid (H5.out.move hb6)
    clear hb6
    go_wp2
    go_ret
    exact ⟨ret_bool HR.out.symm, H6.out.bel⟩
end Go.Proofs.YtpipgffbhpnmkaaGreatDoor
