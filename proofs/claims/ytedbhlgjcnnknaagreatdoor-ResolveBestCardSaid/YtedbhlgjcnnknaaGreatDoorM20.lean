/- Parts of the proof: walks and plain laws, side by side. -/
import Derived.Test.YtedbhlgjcnnknaaGreatDoorM10
import Derived.Deep.LoopGhost
import Derived.Test.YtedbhlgjcnnknaaGreatDoorProg
import Derived.Test.YtedbhlgjcnnknaaGreatDoorM19
set_option linter.unusedVariables false
set_option linter.unusedSimpArgs false
set_option linter.unusedSectionVars false
namespace Go.Proofs.YtedbhlgjcnnknaaGreatDoor
/- The first element that meets something; a function value that answers of each. -/
section
open Go.RowKit Qm
def ixB {α : Type} (p : α → Bool) (xs : List α) : Int := match xs.findIdx? p with | some i => (i : Int) | none => -1
theorem ixB_hit {α : Type} {p : α → Bool} {xs : List α} {k : Nat} {x : α} (hk : xs[k]? = some x) (hp : p x = true) (hn : (xs.take k).any p = false) : ixB p xs = k := by
 obtain ⟨hk', hx⟩ := List.getElem?_eq_some_iff.1 hk
 have e : xs.take k ++ x :: xs.drop (k+1) = xs := by
  rw [← hx, List.getElem_cons_drop, List.take_append_drop]
 have h1 : (xs.take k).findIdx? p = none := by
  rw [List.findIdx?_eq_none_iff]; intro y hy; exact by simpa using List.any_eq_false.1 hn y hy
 have h2 : (xs.take k ++ x :: xs.drop (k+1)).findIdx? p = some k := by
  have hl : (xs.take k).length = k := by rw [List.length_take]; omega
  rw [List.findIdx?_append, h1, List.findIdx?_cons, hp, hl]; simp
 rw [e] at h2
 unfold ixB
 rw [h2]
theorem ixB_next {α : Type} {p : α → Bool} {xs : List α} {k : Nat} {x : α} (hk : xs[k]? = some x) (hp : p x = false) (hn : (xs.take k).any p = false) : (xs.take (k + 1)).any p = false := by
 obtain ⟨hk', rfl⟩ := List.getElem?_eq_some_iff.1 hk
 clear hk
 rw [List.take_succ_eq_append_getElem hk', List.any_append, hn]; simp [hp]
theorem ixB_none {α : Type} {p : α → Bool} {xs : List α} (h : xs.any p = false) : ixB p xs = -1 := by
 have h1 : xs.findIdx? p = none := by
  rw [List.findIdx?_eq_none_iff]; intro y hy; exact by simpa using List.any_eq_false.1 h y hy
 unfold ixB; rw [h1]
theorem ixB_any {α : Type} (p : α → Bool) (xs : List α) : decide ((0 : Int) ≤ ixB p xs) = xs.any p := by
 cases h : xs.any p
 ·rw [ixB_none h]; rfl
 ·unfold ixB
  cases h1 : xs.findIdx? p with
  | none =>
   rw [List.findIdx?_eq_none_iff] at h1
   obtain ⟨x, hx, hp⟩ := List.any_eq_true.1 h
   rw [h1 x hx] at hp; cases hp
  | some i => simp
def AsksB {α : Type} (P : Program) (w : World) (F : FuncId) (caps : Array Value) (R : List Value → α → Prop) (xs : List α) (p : α → Bool) : Prop :=
 (∀ (args : Array Value) (W : World), (callFunc F args).run P W = .ok (.enter F args) W) ∧
  ∀ x ∈ xs, ∀ (cx : List Value) (W : World), Below w.heap.size w W → R cx x → Calls P F (#[.agg cx.toArray] ++ caps) W fun e w' => e = .returned (.bool (p x)) ∧ Below W.heap.size W w'
end
/- slices.IndexFunc, slices.ContainsFunc of slices whose elements have 2 cells. (Printed by wip/bin/mkcf.py.) -/
section
open Go.RowKit Qm

def ShapeC_M (x : List Value) : Prop := ∃ (x0 : Int) (x1a : Option Addr) (x1n x1c : Nat), x = [.int .i64 x0, .slice x1a x1n x1c]
set_option maxRecDepth 100000 in
set_option maxHeartbeats 3200000 in
theorem indexF_M {α : Type} (R : List Value → α → Prop) (p : α → Bool) (A : Option Addr) (n c : Nat) (xs : List α) (F : FuncId) (caps : Array Value) (w : World) (S : Nat → Prop) (hK : RSeq 2 R w S A n xs) (hS : ∀ k, S k → k < w.heap.size) (hn : n ≤ maxLen) (hF : AsksB Tryz.prog w F caps R xs p) (hsh : ∀ x y, R x y → ShapeC_M x) :
  Calls Tryz.prog 49 #[.slice A n c, .func (.func F) #[] caps] w fun e w' => e = .returned (.int .i64 (ixB p xs)) ∧ Below w.heap.size w w' := by
 unfold maxLen at hn
 have HK := qh hK; have HS := qh hS; have HF := qh hF; clear hK hS hF
 have Hlen := qh HK.out.len
 go_enter Tryz.func49, Tryz.ntmps49
 go_wp2
 go_loopg [8] n (fun g iv wr => ∃ (j : Nat), Hid (j + g = n) ∧ iv = .int .i64 j ∧ Hid ((xs.take j).any p = false) ∧ Below w.heap.size w wr)
 case atStart => exact ⟨0, qh (Nat.zero_add _), rfl, qh rfl, Below.refl _ _⟩
 case round =>
  obtain ⟨j, Hj, rfl, Hcl, hb⟩ := hrel
  have HBr := qh hb; clear hb
  by_cases hj : j < n
  ·obtain ⟨b, o, x, y, rfl, hb, hy, hxy, hxl, hcell⟩ := (HK.out.keep (w' := wr) (fun p hp => HBr.out.cell (HS.out _ hp)) fun _ _ h => h).at_ hj (by decide)
   have Hhit := qh (fun h => ixB_hit hy h Hcl.out)
   have Hmiss := qh (fun h => ixB_next hy h Hcl.out)
   have hmem := List.mem_of_getElem? hy
   obtain ⟨x0, x1a, x1n, x1c, rfl⟩ := hsh _ _ hxy
   have g0 := hcell 0 (by omega); have g1 := hcell 1 (by omega)
   simp only [List.getElem?_cons_zero, List.getElem?_cons_succ, Nat.add_zero] at g0 g1
   clear hcell hy
   have hcall := HF.out.2 _ hmem _ _ HBr.out hxy
   have henter := HF.out.1
   clear hxy hxl hmem
   generalize p y = q at hcall Hhit Hmiss
   have Hcall := qh hcall; clear hcall
   cases q
   ·have Hm := qh (Hmiss.out rfl)
    go_wp2_with fail
    refine Hcall.out.mono ?_
    rintro e w' ⟨rfl, hb'⟩
    have HB3 := qh (HBr.out.trans (hb'.mono HBr.out.size)); clear hb'
    go_wp2_with fail
    go_roundg (gk - 1)
    case measure => have := Hj.out; omega
    case rel => exact ⟨j + 1, qh (by have := Hj.out; omega), by go_num, Hm, HB3.out⟩
   ·have Hh := qh (Hhit.out rfl)
    go_wp2_with fail
    refine Hcall.out.mono ?_
    rintro e w' ⟨rfl, hb'⟩
    have HB3 := qh (HBr.out.trans (hb'.mono HBr.out.size)); clear hb'
    go_wp2_with fail
    go_ret
    exact ⟨ret_int Hh.out.symm, HB3.out⟩
  ·go_wp2_with fail
   go_ret
   refine ⟨ret_int ?_, HBr.out⟩
   have h1 := Hcl.out
   rw [List.take_of_length_le (by have := Hlen.out; omega)] at h1
   exact (ixB_none h1).symm
set_option maxHeartbeats 400000 in
theorem containsF_M {α : Type} (R : List Value → α → Prop) (p : α → Bool) (A : Option Addr) (n c : Nat) (xs : List α) (F : FuncId) (caps : Array Value) (w : World) (S : Nat → Prop) (hK : RSeq 2 R w S A n xs) (hS : ∀ k, S k → k < w.heap.size) (hn : n ≤ maxLen) (hF : AsksB Tryz.prog w F caps R xs p) (hsh : ∀ x y, R x y → ShapeC_M x) :
  Calls Tryz.prog 84 #[.slice A n c, .func (.func F) #[] caps] w fun e w' => e = .returned (.bool (xs.any p)) ∧ Below w.heap.size w w' := by
 have Hcall := qh (indexF_M R p A n c xs F caps w S hK hS hn hF hsh)
 have Hi := qh (ixB_any p xs)
 clear hK hS hF
 generalize ixB p xs = i at Hcall Hi
 go_enter Tryz.func84, Tryz.ntmps84
 go_wp2_with fail
 refine Hcall.out.mono ?_
 rintro e w' ⟨rfl, hb⟩
 have HB := qh hb; clear hb
 go_wp2_with fail
 go_ret
 exact ⟨ret_bool Hi.out, HB.out⟩
end
/- slices.IndexFunc, slices.ContainsFunc of slices whose elements have 10 cells. (Printed by wip/bin/mkcf.py.) -/
section
open Go.RowKit Qm

def ShapeC_N (x : List Value) : Prop := ∃ (x0 : Int) (x1 : ByteArray) (x2 : Int) (x3 : Int) (x4 : Int) (x5 : ByteArray) (x6 : Bool) (x7 : ByteArray) (x8 : Bool) (x9a : Option Addr) (x9n x9c : Nat), x = [.int .i64 x0, .string x1, .int .i64 x2, .int .i64 x3, .int .i64 x4, .string x5, .bool x6, .string x7, .bool x8, .slice x9a x9n x9c]
set_option maxRecDepth 100000 in
set_option maxHeartbeats 3200000 in
theorem indexF_N {α : Type} (R : List Value → α → Prop) (p : α → Bool) (A : Option Addr) (n c : Nat) (xs : List α) (F : FuncId) (caps : Array Value) (w : World) (S : Nat → Prop) (hK : RSeq 10 R w S A n xs) (hS : ∀ k, S k → k < w.heap.size) (hn : n ≤ maxLen) (hF : AsksB Tryz.prog w F caps R xs p) (hsh : ∀ x y, R x y → ShapeC_N x) :
  Calls Tryz.prog 131 #[.slice A n c, .func (.func F) #[] caps] w fun e w' => e = .returned (.int .i64 (ixB p xs)) ∧ Below w.heap.size w w' := by
 unfold maxLen at hn
 have HK := qh hK; have HS := qh hS; have HF := qh hF; clear hK hS hF
 have Hlen := qh HK.out.len
 go_enter Tryz.func131, Tryz.ntmps131
 go_wp2
 go_loopg [8] n (fun g iv wr => ∃ (j : Nat), Hid (j + g = n) ∧ iv = .int .i64 j ∧ Hid ((xs.take j).any p = false) ∧ Below w.heap.size w wr)
 case atStart => exact ⟨0, qh (Nat.zero_add _), rfl, qh rfl, Below.refl _ _⟩
 case round =>
  obtain ⟨j, Hj, rfl, Hcl, hb⟩ := hrel
  have HBr := qh hb; clear hb
  by_cases hj : j < n
  ·obtain ⟨b, o, x, y, rfl, hb, hy, hxy, hxl, hcell⟩ := (HK.out.keep (w' := wr) (fun p hp => HBr.out.cell (HS.out _ hp)) fun _ _ h => h).at_ hj (by decide)
   have Hhit := qh (fun h => ixB_hit hy h Hcl.out)
   have Hmiss := qh (fun h => ixB_next hy h Hcl.out)
   have hmem := List.mem_of_getElem? hy
   obtain ⟨x0, x1, x2, x3, x4, x5, x6, x7, x8, x9a, x9n, x9c, rfl⟩ := hsh _ _ hxy
   have g0 := hcell 0 (by omega); have g1 := hcell 1 (by omega); have g2 := hcell 2 (by omega); have g3 := hcell 3 (by omega); have g4 := hcell 4 (by omega); have g5 := hcell 5 (by omega); have g6 := hcell 6 (by omega); have g7 := hcell 7 (by omega); have g8 := hcell 8 (by omega); have g9 := hcell 9 (by omega)
   simp only [List.getElem?_cons_zero, List.getElem?_cons_succ, Nat.add_zero] at g0 g1 g2 g3 g4 g5 g6 g7 g8 g9
   clear hcell hy
   have hcall := HF.out.2 _ hmem _ _ HBr.out hxy
   have henter := HF.out.1
   clear hxy hxl hmem
   generalize p y = q at hcall Hhit Hmiss
   have Hcall := qh hcall; clear hcall
   cases q
   ·have Hm := qh (Hmiss.out rfl)
    go_wp2_with fail
    refine Hcall.out.mono ?_
    rintro e w' ⟨rfl, hb'⟩
    have HB3 := qh (HBr.out.trans (hb'.mono HBr.out.size)); clear hb'
    go_wp2_with fail
    go_roundg (gk - 1)
    case measure => have := Hj.out; omega
    case rel => exact ⟨j + 1, qh (by have := Hj.out; omega), by go_num, Hm, HB3.out⟩
   ·have Hh := qh (Hhit.out rfl)
    go_wp2_with fail
    refine Hcall.out.mono ?_
    rintro e w' ⟨rfl, hb'⟩
    have HB3 := qh (HBr.out.trans (hb'.mono HBr.out.size)); clear hb'
    go_wp2_with fail
    go_ret
    exact ⟨ret_int Hh.out.symm, HB3.out⟩
  ·go_wp2_with fail
   go_ret
   refine ⟨ret_int ?_, HBr.out⟩
   have h1 := Hcl.out
   rw [List.take_of_length_le (by have := Hlen.out; omega)] at h1
   exact (ixB_none h1).symm
set_option maxHeartbeats 400000 in
theorem containsF_N {α : Type} (R : List Value → α → Prop) (p : α → Bool) (A : Option Addr) (n c : Nat) (xs : List α) (F : FuncId) (caps : Array Value) (w : World) (S : Nat → Prop) (hK : RSeq 10 R w S A n xs) (hS : ∀ k, S k → k < w.heap.size) (hn : n ≤ maxLen) (hF : AsksB Tryz.prog w F caps R xs p) (hsh : ∀ x y, R x y → ShapeC_N x) :
  Calls Tryz.prog 115 #[.slice A n c, .func (.func F) #[] caps] w fun e w' => e = .returned (.bool (xs.any p)) ∧ Below w.heap.size w w' := by
 have Hcall := qh (indexF_N R p A n c xs F caps w S hK hS hn hF hsh)
 have Hi := qh (ixB_any p xs)
 clear hK hS hF
 generalize ixB p xs = i at Hcall Hi
 go_enter Tryz.func115, Tryz.ntmps115
 go_wp2_with fail
 refine Hcall.out.mono ?_
 rintro e w' ⟨rfl, hb⟩
 have HB := qh hb; clear hb
 go_wp2_with fail
 go_ret
 exact ⟨ret_bool Hi.out, HB.out⟩
end
/- The closures of valid.holds; what is at hand in it. -/
section
open Go.RowKit Qm

structure Cx (ps : List Pk) (l : List Mem) (S : Nat → Prop) (A : Option Addr) (n c : Nat) (B : Option Addr) (q d : Nat) (w : World) : Prop where
 t : RTree w S A n ps
 s : RSet w S B q l
 nc : n ≤ c
 cm : c ≤ maxLen
 n8 : n ≤ 8
 qd : q ≤ d
 dm : d ≤ maxLen
 ok : ∀ m ∈ l, MemOk ps m
 lt : ∀ k, S k → k < w.heap.size
section
variable {ps : List Pk} {l : List Mem} {S : Nat → Prop} {A B : Option Addr} {n c q d : Nat} {w w' : World}
theorem Cx.under (h : Cx ps l S A n c B q d w) (hb : Below w.heap.size w w') : Cx ps l S A n c B q d w' :=
 ⟨h.t.under hb h.lt, h.s.under hb h.lt, h.nc, h.cm, h.n8, h.qd, h.dm, h.ok, fun k hk => ql (h.lt k hk) hb.size⟩
theorem Cx.is (h : Cx ps l S A n c B q d w) {m : Mem} (hm : m ∈ l) {E : Option Addr} {k r : Nat} (hB : RBools w S E k m.on) (hkr : k ≤ r) (a : At) (h1 : a.nm.length ≤ maxLen) (h2 : a.fl.length ≤ maxLen) (hb : Below w.heap.size w w') :
  Calls Tryz.prog 86 #[.agg #[.slice A n c], .agg #[.int .i64 m.pl, .slice E k r], .agg #[.string ⟨a.nm.toArray⟩, .int .i64 a.op, .int .i64 a.ver, .int .i64 a.slot, .string ⟨a.fl.toArray⟩, .bool a.on]] w' fun e w2 => e = .returned (.bool (isA ps m a)) ∧ Below w'.heap.size w' w2 :=
 is_any ps m a S A E n c k r w' (h.t.under hb h.lt) (Row.below hB hb h.lt) hkr (h.ok m hm) (fun k hk => ql (h.lt k hk) hb.size) h.n8 h1 h2
end
theorem shape_mem {w : World} {S : Nat → Prop} {x : List Value} {m : Mem} (h : RMem w S x m) : ShapeC_M x := by
 obtain ⟨A, n, c, rfl, _⟩ := h
 exact ⟨_, _, _, _, rfl⟩
theorem shape_nd {w : World} {S : Nat → Prop} {x : List Value} {y : Nd} (h : RNd w S x y) : ShapeC_N x := by
 obtain ⟨k, a, f, no, ks⟩ := y
 obtain ⟨A, n, c, rfl, -⟩ := h.open_
 exact ⟨_, _, _, _, _, _, _, _, _, _, _, _, rfl⟩
theorem kids_seq {w : World} {S : Nat → Prop} {A : Option Addr} {n : Nat} {ks : List Nd} (h : RKids w S A n ks) : RSeq 10 (RNd w S) w S A n ks := by
 obtain ⟨cs, h1, h2, h3, h4⟩ := h
 refine ⟨cs, h1, h2, h3, fun x hx => ?_, h4⟩
 obtain ⟨j, hj, rfl⟩ := List.mem_iff_getElem.1 hx
 exact (h4 j _ (ks[j]'(by omega)) (List.getElem?_eq_getElem hj) (List.getElem?_eq_getElem _)).ten
set_option maxRecDepth 100000 in
set_option maxHeartbeats 1600000 in
theorem each_any (A B : Option Addr) (n c q d k tb lb kb : Nat) (cx : List Value) (v : Bool) (w : World) (hs : ShapeC_N cx) (ht : w.cell? ⟨tb, 0, none⟩ = some (.slice A n c)) (hl : w.cell? ⟨lb, 0, none⟩ = some (.slice B q d)) (hk : w.cell? ⟨kb, 0, none⟩ = some (.int .i64 (k : Int)))
  (hh : ∀ w', Below w.heap.size w w' → Calls Tryz.prog 87 #[.agg #[.slice A n c], .slice B q d, .int .i64 (k : Int), .agg cx.toArray] w' fun e w2 => e = .returned (.bool v) ∧ Below w'.heap.size w' w2) :
  Calls Tryz.prog 112 #[.agg cx.toArray, .pointer (some ⟨tb, 0, none⟩), .pointer (some ⟨lb, 0, none⟩), .pointer (some ⟨kb, 0, none⟩)] w fun e w' => e = .returned (.bool v) ∧ Below w.heap.size w w' := by
 obtain ⟨x0, x1, x2, x3, x4, x5, x6, x7, x8, x9a, x9n, x9c, rfl⟩ := hs
 have HB := qh ((Below.refl _ w).alloc (qr _) (.cells #[.int .i64 x0, .string x1, .int .i64 x2, .int .i64 x3, .int .i64 x4, .string x5, .bool x6, .string x7, .bool x8, .slice x9a x9n x9c] 99))
 have HH := qh (hh _ HB.out)
 have tlt := World.block_lt_of_cell? _ _ ht
 have llt := World.block_lt_of_cell? _ _ hl
 have klt := World.block_lt_of_cell? _ _ hk
 dsimp only at tlt llt klt
 clear hh
 go_enter Tryz.func112, Tryz.ntmps112
 go_wp2_with (first | (go_at_call 87; refine HH.out.mono ?_; rintro e w3 ⟨rfl, hb3⟩; refine Hid.out ?_))
 refine qh ?_
 have HB3 := qh (HB.out.trans (hb3.mono HB.out.size))
 clear hb3
 go_wp2
 go_ret
 exact ⟨rfl, HB3.out⟩
set_option maxRecDepth 100000 in
set_option maxHeartbeats 1600000 in
theorem not_any (A B : Option Addr) (n c q d k tb lb kb eb : Nat) (cx : List Value) (v : Bool) (w : World) (hs : ShapeC_N cx) (ht : w.cell? ⟨tb, 0, none⟩ = some (.slice A n c)) (hl : w.cell? ⟨lb, 0, none⟩ = some (.slice B q d)) (hk : w.cell? ⟨kb, 0, none⟩ = some (.int .i64 (k : Int)))
  (he : w.cell? ⟨eb, 0, none⟩ = some (.func (.func 112) #[] #[.pointer (some ⟨tb, 0, none⟩), .pointer (some ⟨lb, 0, none⟩), .pointer (some ⟨kb, 0, none⟩)]))
  (hh : ∀ w', Below w.heap.size w w' → Calls Tryz.prog 87 #[.agg #[.slice A n c], .slice B q d, .int .i64 (k : Int), .agg cx.toArray] w' fun e w2 => e = .returned (.bool v) ∧ Below w'.heap.size w' w2) :
  Calls Tryz.prog 113 #[.agg cx.toArray, .pointer (some ⟨eb, 0, none⟩)] w fun e w' => e = .returned (.bool (!v)) ∧ Below w.heap.size w w' := by
 have hb := (Below.refl _ w).alloc (qr _) (.cells cx.toArray 99)
 have hea := each_any A B n c q d k tb lb kb cx v _ hs ((hb.cell (World.block_lt_of_cell? _ _ ht)).trans ht) ((hb.cell (World.block_lt_of_cell? _ _ hl)).trans hl) ((hb.cell (World.block_lt_of_cell? _ _ hk)).trans hk) (fun w' hb' => hh w' (hb.trans (hb'.mono hb.size)))
 have HB := qh hb
 obtain ⟨x0, x1, x2, x3, x4, x5, x6, x7, x8, x9a, x9n, x9c, rfl⟩ := hs
 have HE := qh hea
 have elt := World.block_lt_of_cell? _ _ he
 dsimp only at elt
 have henter : ∀ (args : Array Value) (W : World), (callFunc 112 args).run Tryz.prog W = .ok (.enter 112 args) W := fun args W => by kernel_rfl
 clear hh hea hb ht hl hk
 go_enter Tryz.func113, Tryz.ntmps113
 go_wp2_with (first | (go_at_call 112; refine HE.out.mono ?_; rintro e w3 ⟨rfl, hb3⟩; refine Hid.out ?_))
 refine qh ?_
 have HB3 := qh (HB.out.trans (hb3.mono HB.out.size))
 clear hb3
 go_wp2
 go_ret
 exact ⟨rfl, HB3.out⟩
set_option maxRecDepth 100000 in
set_option maxHeartbeats 1600000 in
theorem wants_any {ps : List Pk} {l : List Mem} {S : Nat → Prop} {A B : Option Addr} {n c q d : Nat} {w0 : World} (C : Cx ps l S A n c B q d w0) (a : At) (h1 : a.nm.length ≤ maxLen) (h2 : a.fl.length ≤ maxLen) (tb nb : Nat) (kd : Int) (f : Qm.W) (no : Bool) (D : Option Addr) (e9 r9 : Nat) {m : Mem} (hm : m ∈ l) (cx : List Value) (hx : RMem w0 S cx m) (w : World) (hb : Below w0.heap.size w0 w)
  (ht : w.cell? ⟨tb, 0, none⟩ = some (.slice A n c)) (hn : ∀ i, i < 10 → w.cell? ⟨nb, i, none⟩ = (ndRow kd a f no D e9 r9)[i]?) :
  Calls Tryz.prog 114 #[.agg cx.toArray, .pointer (some ⟨tb, 0, none⟩), .pointer (some ⟨nb, 0, none⟩)] w fun e w' => e = .returned (.bool (isA ps m a)) ∧ Below w.heap.size w w' := by
 obtain ⟨E, k, r, rfl, hkr, hr, hon⟩ := hx
 have hb1 : Below w.heap.size w (w.alloc (.cells #[.int .i64 m.pl, .slice E k r] 85)) := (Below.refl _ w).alloc (qr _) _
 have HI := qh (C.is hm hon hkr a h1 h2 (hb.trans (hb1.mono hb.size)))
 have HB := qh hb1
 have g1 := hn 1 (by omega); have g2 := hn 2 (by omega); have g3 := hn 3 (by omega); have g4 := hn 4 (by omega); have g5 := hn 5 (by omega); have g6 := hn 6 (by omega)
 unfold ndRow at g1 g2 g3 g4 g5 g6
 simp only [qgz, qgs] at g1 g2 g3 g4 g5 g6
 have tlt := World.block_lt_of_cell? _ _ ht
 have nlt := World.block_lt_of_cell? _ _ g1
 dsimp only at tlt nlt
 clear hb1 hb hon hn C hm
 go_enter Tryz.func114, Tryz.ntmps114
 go_wp2_with (first | (go_at_call 86; refine HI.out.mono ?_; rintro e w3 ⟨rfl, hb3⟩; refine Hid.out ?_))
 refine qh ?_
 have HB3 := qh (HB.out.trans (hb3.mono HB.out.size))
 clear hb3
 go_wp2
 go_ret
 exact ⟨rfl, HB3.out⟩
set_option maxRecDepth 100000 in
set_option maxHeartbeats 1600000 in
theorem target_any {ps : List Pk} {l : List Mem} {S : Nat → Prop} {A B : Option Addr} {n c q d : Nat} {w0 : World} (C : Cx ps l S A n c B q d w0) (a : At) (h1 : a.nm.length ≤ maxLen) (h2 : a.fl.length ≤ maxLen) (tb nb : Nat) {m : Mem} (hm : m ∈ l) (cx : List Value) (hx : RMem w0 S cx m) (w : World) (hb : Below w0.heap.size w0 w)
  (ht : w.cell? ⟨tb, 0, none⟩ = some (.slice A n c)) (hn : ∀ i, i < 6 → w.cell? ⟨nb, i, none⟩ = (atRow a)[i]?) :
  Calls Tryz.prog 85 #[.agg cx.toArray, .pointer (some ⟨tb, 0, none⟩), .pointer (some ⟨nb, 0, none⟩)] w fun e w' => e = .returned (.bool (isA ps m a)) ∧ Below w.heap.size w w' := by
 obtain ⟨E, k, r, rfl, hkr, hr, hon⟩ := hx
 have hb1 : Below w.heap.size w (w.alloc (.cells #[.int .i64 m.pl, .slice E k r] 85)) := (Below.refl _ w).alloc (qr _) _
 have HI := qh (C.is hm hon hkr a h1 h2 (hb.trans (hb1.mono hb.size)))
 have HB := qh hb1
 have g1 := hn 0 (by omega); have g2 := hn 1 (by omega); have g3 := hn 2 (by omega); have g4 := hn 3 (by omega); have g5 := hn 4 (by omega); have g6 := hn 5 (by omega)
 unfold atRow at g1 g2 g3 g4 g5 g6
 simp only [qgz, qgs] at g1 g2 g3 g4 g5 g6
 have tlt := World.block_lt_of_cell? _ _ ht
 have nlt := World.block_lt_of_cell? _ _ g1
 dsimp only at tlt nlt
 clear hb1 hb hon hn C hm
 go_enter Tryz.func85, Tryz.ntmps85
 go_wp2_with (first | (go_at_call 86; refine HI.out.mono ?_; rintro e w3 ⟨rfl, hb3⟩; refine Hid.out ?_))
 refine qh ?_
 have HB3 := qh (HB.out.trans (hb3.mono HB.out.size))
 clear hb3
 go_wp2
 go_ret
 exact ⟨rfl, HB3.out⟩
end
end Go.Proofs.YtedbhlgjcnnknaaGreatDoor
