/- Parts of the proof: walks and plain laws, side by side. -/
import Derived.Test.YtpipgffbhpnmkaaGreatDoorM25
import Derived.Test.YtpipgffbhpnmkaaGreatDoorM26
import Derived.Test.YtpipgffbhpnmkaaGreatDoorM21
import Derived.Test.YtpipgffbhpnmkaaGreatDoorM19
import Derived.Laws.AppendOwnNone
set_option linter.unusedVariables false
set_option linter.unusedSimpArgs false
set_option linter.unusedSectionVars false
namespace Go.Proofs.YtpipgffbhpnmkaaGreatDoor
/- The document's own Planned: its closures, walked. -/
section
open Go.RowKit Qm

theorem edge_gr (ps : List Pk) (l : List Mem) (h : l.length ≤ 100000) : Gr (edgeB ps l) l.length (leansL ps l) where
 len := leansL_len
 row := fun i hi x => by
  have e : (leansL ps l).getD i [] = (leansAt ps l i).map fun (k : Nat) => (k : Int) := by
   unfold leansL
   rw [List.getD_eq_getElem?_getD, List.getElem?_map, List.getElem?_range hi]; rfl
  rw [e, List.mem_map]
  constructor
  ·rintro ⟨k, hk, rfl⟩
   exact ⟨k, rfl, (edge_iff hi).2 hk⟩
  ·rintro ⟨j, rfl, hj⟩
   exact ⟨j, (edge_iff hi).1 hj, rfl⟩
 lt := edgeB_lt
 few := fun i => by
  unfold leansL
  rw [List.getD_eq_getElem?_getD, List.getElem?_map]
  cases hh : (List.range l.length)[i]? with
  | none => simp
  | some y =>
   simp only [Option.map_some, Option.getD_some, List.length_map]
   unfold leansAt
   exact Nat.le_trans (List.length_filter_le _ _) (by simpa using h)
 q1 := h
set_option maxRecDepth 100000 in
set_option maxHeartbeats 1600000 in
theorem rplan1_any (w0 : World) (S : Nat → Prop) (m y : Mem) (A : Option Addr) (n c : Nat) (hA : RBools w0 S A n m.on) (hn : n ≤ maxLen) (mb : Nat) (cx : List Value) (hy : RMem w0 S cx y) (hS : ∀ k, S k → k < w0.heap.size) (w : World) (hb : Below w0.heap.size w0 w)
  (h0 : w.cell? ⟨mb, 0, none⟩ = some (.int .i64 m.pl)) (h1 : w.cell? ⟨mb, 1, none⟩ = some (.slice A n c)) :
  Calls Tryz.prog 59 #[.agg cx.toArray, .pointer (some ⟨mb, 0, none⟩)] w fun e w' => e = .returned (.bool (decide (m = y))) ∧ Below w.heap.size w w' := by
 obtain ⟨E, k, r, rfl, hkr, hr, hon⟩ := hy
 have hlt := World.block_lt_of_cell? _ _ h0
 dsimp only at hlt
 have hlt1 : mb < w.heap.size + 1 := by omega
 have hbx : Below w.heap.size w (w.alloc (.cells #[.int .i64 y.pl, .slice E k r] 33)) := (Below.refl _ w).alloc (qr _) _
 have HB := qh hbx
 have hb1 := hb.trans (hbx.mono hb.size)
 have Hs := qh (rsameM_any m y S A E n c k r _ (Row.below hA hb1 hS) (Row.below hon hb1 hS) hn (Nat.le_trans hkr hr) (fun k hk => ql (hS k hk) hb1.size))
 have M0 := qh (Whole.new w w.heap.size 33 [.int .i64 y.pl, .slice E k r] rfl)
 have x0 := M0.out.cell 0; have x1 := M0.out.cell 1
 simp only [qgz, qgs] at x0 x1
 clear hA hon hb hb1 hbx hS
 go_enter Tryz.func59, Tryz.ntmps59
 go_wp2_with (first | (go_at_call 11; refine Hs.out.mono ?_; rintro e w2 ⟨rfl, hb2⟩; refine Hid.out ?_))
 refine qh ?_
 have HB2 := qh (HB.out.trans (hb2.mono HB.out.size))
 clear hb2
 go_wp2
 go_ret
 exact ⟨rfl, HB2.out⟩
set_option maxRecDepth 100000 in
set_option maxHeartbeats 1600000 in
theorem rplan21_any (e : Nat → Nat → Bool) (q : Nat) (ls : List (List Int)) (G : Gr e q ls) (S : Nat → Prop) (A : Option Addr) (c ob ib i k : Nat) (hi : i < q) (hk : k < q) (W : World) (hR : RClauses W S A q ls) (hS : ∀ k, S k → k < W.heap.size) (h0 : W.cell? ⟨ob, 0, none⟩ = some (.slice A q c)) (h1 : W.cell? ⟨ib, 0, none⟩ = some (.int .i64 (i : Int))) :
  Calls Tryz.prog 61 #[.int .i64 (k : Int), .pointer (some ⟨ob, 0, none⟩), .pointer (some ⟨ib, 0, none⟩)] W fun en w' => en = .returned (.bool (RB e q i k && !RB e q k i)) ∧ Below W.heap.size W w' := by
 have HC := qh (fun (a b : Nat) (ha : a < q) (hb : b < q) (wx : World) (hbx : Below W.heap.size W wx) => rcomes_any e q ls S A c a b wx G ha hb (hR.below hbx hS) (fun k hk => ql (hS k hk) hbx.size))
 have hlt0 := World.block_lt_of_cell? _ _ h0
 have hlt1 := World.block_lt_of_cell? _ _ h1
 dsimp only at hlt0 hlt1
 have HC1 := qh (HC.out i k hi hk W (Below.refl _ _))
 have HC2 := qh (HC.out k i hk hi)
 clear HC G hR hS
 generalize RB e q i k = x at HC1 ⊢
 generalize RB e q k i = y at HC2 ⊢
 cases x
 ·go_enter Tryz.func61, Tryz.ntmps61
  go_wp2_with (first | (go_at_call 62; refine HC1.out.mono ?_; rintro en w2 ⟨rfl, hb2⟩; refine Hid.out ?_))
  refine qh ?_
  have HB2 := qh hb2
  clear hb2
  go_wp2
  go_ret
  exact ⟨rfl, HB2.out⟩
 ·go_enter Tryz.func61, Tryz.ntmps61
  go_wp2_with (first | (go_at_call 62; refine HC1.out.mono ?_; rintro en w2 ⟨rfl, hb2⟩; refine Hid.out ?_))
  refine qh ?_
  have HB2 := qh hb2
  have HC3 := qh (HC2.out w2 hb2)
  have g0 := (hb2.cell (p := ⟨ob, 0, none⟩) hlt0).trans h0
  have g1 := (hb2.cell (p := ⟨ib, 0, none⟩) hlt1).trans h1
  clear hb2 h0 h1 HC1 HC2
  go_wp2_with (first | (go_at_call 62; refine HC3.out.mono ?_; rintro en w3 ⟨rfl, hb3⟩; refine Hid.out ?_))
  refine qh ?_
  have HB3 := qh (HB2.out.trans (hb3.mono HB2.out.size))
  clear hb3
  go_wp2
  go_ret
  exact ⟨ret_bool (by cases y <;> rfl), HB3.out⟩
set_option maxRecDepth 100000 in
set_option maxHeartbeats 1600000 in
theorem rplan2_any (e : Nat → Nat → Bool) (q : Nat) (ls : List (List Int)) (G : Gr e q ls) (S : Nat → Prop) (A F : Option Addr) (c ob fb fl fc i : Nat) (fr : List Nat) (hi : i < q) (hfr : ∀ k ∈ fr, k < q) (w0 : World) (hR : RClauses w0 S A q ls) (hF : RInts w0 S F fl (fr.map fun (k : Nat) => (k : Int))) (hfl : fl ≤ maxLen) (hS : ∀ k, S k → k < w0.heap.size) (h0 : w0.cell? ⟨ob, 0, none⟩ = some (.slice A q c)) (h1 : w0.cell? ⟨fb, 0, none⟩ = some (.slice F fl fc)) (W : World) (hbW : Below w0.heap.size w0 W) :
  Calls Tryz.prog 60 #[.int .i64 (i : Int), .pointer (some ⟨fb, 0, none⟩), .pointer (some ⟨ob, 0, none⟩)] W fun en w' => en = .returned (.bool (!notYet (RB e q) fr i)) ∧ Below W.heap.size W w' := by
 have hlt0 := World.block_lt_of_cell? _ _ h0
 have hlt1 := World.block_lt_of_cell? _ _ h1
 dsimp only at hlt0 hlt1
 have hal : Below W.heap.size W (W.alloc (.cells #[.int .i64 (i : Int)] 3)) := (Below.refl _ W).alloc (qr _) _
 have hb1 := hbW.trans (hal.mono hbW.size)
 have I1 := Whole.new W W.heap.size 3 [.int .i64 (i : Int)] rfl
 have i0 := I1.cell 0
 have g0 := (hb1.cell (p := ⟨ob, 0, none⟩) hlt0).trans h0
 have g1 := (hbW.cell (p := ⟨fb, 0, none⟩) hlt1).trans h1
 simp only [List.getElem?_cons_zero] at i0
 have ilt := I1.lt
 have hlf : fb < W.heap.size := ql hlt1 hbW.size
 have hsz : w0.heap.size ≤ W.heap.size := hbW.size
 have hp := containsFuncW_any F fl fc (fr.map fun (k : Nat) => (k : Int)) 61 #[.pointer (some ⟨ob, 0, none⟩), .pointer (some ⟨W.heap.size, 0, none⟩)] (fun x => RB e q i x.toNat && !RB e q x.toNat i) _ S (hF.below hb1 hS) hfl (fun k hk => ql (hS k hk) hb1.size)
  ⟨fun args W => by kernel_rfl, fun x hx W2 hb2 => by
   obtain ⟨k, hk, rfl⟩ := List.mem_map.1 hx
   have hb3 := hb1.trans (hb2.mono hb1.size)
   exact rplan21_any e q ls G S A c ob W.heap.size i k hi (hfr k hk) W2 (hR.below hb3 hS) (fun k hk => ql (hS k hk) hb3.size) ((hb3.cell (p := ⟨ob, 0, none⟩) hlt0).trans h0) ((hb2.cell (p := ⟨W.heap.size, 0, none⟩) ilt).trans i0)⟩
 have hany : ((fr.map fun (k : Nat) => (k : Int)).any fun x => RB e q i x.toNat && !RB e q x.toNat i) = notYet (RB e q) fr i := by
  unfold notYet
  rw [List.any_map]; rfl
 rw [hany] at hp
 have HP := qh hp
 have HB := qh hal
 generalize notYet (RB e q) fr i = x at HP ⊢
 clear hp hR hF hS h0 h1 hal hb1 hbW I1 G hfr hany hlt0 hlt1 i0 ilt
 go_enter Tryz.func60, Tryz.ntmps60
 go_wp2_with (first | (go_at_call 16; refine HP.out.mono ?_; rintro en w2 ⟨rfl, hb2⟩; refine Hid.out ?_))
 refine qh ?_
 have HB2 := qh (HB.out.trans (hb2.mono HB.out.size))
 clear hb2
 go_wp2
 go_ret
 exact ⟨rfl, HB2.out⟩
theorem pick_ix {r : Nat → Nat → Bool} {n i : Nat} {done : Nat → Bool} (h : pickO r n done = some i) : ∃ at_ : Nat, idxOf (fun x : Int => !notYet r (freshO n done) x.toNat) ((freshO n done).map fun (k : Nat) => (k : Int)) = at_ ∧ (freshO n done)[at_]? = some i := by
 rw [pick_fresh] at h
 obtain ⟨hp, at_, hat, he, hno⟩ := List.find?_eq_some_iff_getElem.1 h
 refine ⟨at_, ?_, by rw [List.getElem?_eq_getElem hat, he]⟩
 have hl : at_ < ((freshO n done).map fun (k : Nat) => (k : Int)).length := by simpa using hat
 refine idxOf_hit hl (x := (i : Int)) ?_ ?_ ?_
 ·rw [List.getD_eq_getElem?_getD, List.getElem?_map, List.getElem?_eq_getElem hat, he]; rfl
 ·simpa using hp
 ·rw [List.any_eq_false]
  intro x hx
  obtain ⟨j, hj, rfl⟩ := List.mem_take_iff_getElem.1 hx
  have := hno j (by simp at hj; omega)
  simpa using this
end
/- The acts that the document's Planned gathers: words. -/
section
open Go.RowKit Qm

structure Ga (B : Nat) (v : Value) (cs : List (List Value)) (acts : List Ac) (wr : World) : Prop where
 own : wr.ownsRow B 48 4 v acts.length cs.flatten
 len : cs.length = acts.length
 four : ∀ x ∈ cs, x.length = 4
 row : ∀ (j : Nat) (x : List Value) (a : Ac), cs[j]? = some x → acts[j]? = some a → RAct wr (fun k => k < B) x a
 le : B ≤ wr.heap.size
section
variable {B : Nat} {v v8 : Value} {cs : List (List Value)} {acts : List Ac} {wr wy w8 : World} {x : List Value} {a : Ac}
theorem Ga.far (h : Ga B v cs acts wr) {D : Nat → Prop} (k : Far D wr wy) (hD : ∀ i, D i → B ≤ i ∧ v.ownBlock ≠ some i) : Ga B v cs acts wy :=
 ⟨k.own h.own fun g hg e => (hD g e).2 hg, h.len, h.four, fun j x a h1 h2 => (h.row j x a h1 h2).keep fun p hp => k.cell (ql hp h.le) fun e => by have := (hD _ e).1; omega, Nat.le_trans h.le k.size⟩
theorem Ga.move (h : Ga B v cs acts wr) (hb : Below wr.heap.size wr wy) : Ga B v cs acts wy := h.far (Far.of_below (fun _ => False) hb) fun _ e => e.elim
theorem Ga.nil_ {w : World} (hB : B ≤ w.heap.size) : Ga B (.slice none 0 0) [] [] w := ⟨World.ownsRow_nil _ _ _ _, rfl, fun x hx => (by cases hx), fun j x a h1 _ => (by simp at h1), hB⟩
theorem Ga.push (h : Ga B v cs acts wr) (hx : RAct wr (fun k => k < B) x a) (h4 : x.length = 4) {o : Obj} (hown : w8.ownsRow B 48 4 v8 (acts.length + 1) (cs.flatten ++ x)) (hg : (wr.alloc o).grownBy w8 v.ownBlock) :
  Ga B v8 (cs ++ [x]) (acts ++ [a]) w8 ∧ Far (fun i => v.ownBlock = some i) wr w8 := by
 have hal : Below wr.heap.size wr (wr.alloc o) := (Below.refl _ wr).alloc (qr _) _
 have far : Far (fun i => v.ownBlock = some i) wr w8 := (Far.of_below _ hal).trans (Far.of_grown hg fun i h => h.symm) fun _ _ h => h
 refine ⟨⟨by rw [List.length_append, List.flatten_append]; simpa using hown, by simp [h.len], fun y hy => ?_, fun j y b h1 h2 => ?_, Nat.le_trans h.le far.size⟩, far⟩
 ·rcases List.mem_append.1 hy with hy | hy
  ·exact h.four y hy
  ·rw [List.mem_singleton.1 hy]; exact h4
 ·have hold : RAct wr (fun k => k < B) y b := by
   by_cases hj : j < cs.length
   ·rw [List.getElem?_append_left hj] at h1
    rw [List.getElem?_append_left (by rw [← h.len]; exact hj)] at h2
    exact h.row j y b h1 h2
   ·rw [List.getElem?_append_right (by omega)] at h1
    rw [List.getElem?_append_right (by rw [← h.len]; omega), ← h.len] at h2
    obtain ⟨e1, e2⟩ : y = x ∧ b = a := by
     cases hk : j - cs.length with
     | zero => rw [hk] at h1 h2; simp at h1 h2; exact ⟨h1.symm, h2.symm⟩
     | succ i => rw [hk] at h1; simp at h1
    subst e1 e2; exact hx
  exact hold.keep fun p hp => far.cell (ql hp h.le) fun e => by have := (h.own.lt _ e).1; omega
end
theorem Ga.seq {B : Nat} {v : Value} {cs : List (List Value)} {acts : List Ac} {w : World} (h : Ga B v cs acts w) : ∃ (A : Option Addr) (c : Nat), v = .slice A acts.length c ∧ acts.length ≤ c ∧ c ≤ maxLen ∧ RSeq 4 (RAct w (fun k => k < w.heap.size)) w (fun k => k < w.heap.size) A acts.length acts := by
 obtain ⟨A, c, rfl, h1, h2, hr⟩ := own_formK h.own
 exact ⟨A, c, rfl, h1, h2, cs, rfl, h.len, Row.more hr (fun k hk => (h.own.lt k hk).2), h.four, fun j x a g1 g2 => (h.row j x a g1 g2).more fun k hk => ql hk h.le⟩
structure Gy (w : World) (A : Option Addr) (n c : Nat) (v : Value) (cs : List (List Value)) (acts : List Ac) (wr : World) : Prop where
 g : Ga (w.heap.size + 1) v cs acts wr
 t : Tx w A n c wr
theorem Gy.move {w : World} {A : Option Addr} {n c : Nat} {v : Value} {cs : List (List Value)} {acts : List Ac} {wr wy : World} (h : Gy w A n c v cs acts wr) (hb : Below wr.heap.size wr wy) : Gy w A n c v cs acts wy := ⟨h.g.move hb, h.t.move hb⟩
theorem Gy.push {w : World} {A : Option Addr} {n c : Nat} {v v8 : Value} {cs : List (List Value)} {acts : List Ac} {wr w8 : World} {x : List Value} {a : Ac} (h : Gy w A n c v cs acts wr) (hx : RAct wr (fun k => k < w.heap.size + 1) x a) (h4 : x.length = 4) {o : Obj}
  (hown : w8.ownsRow (w.heap.size + 1) 48 4 v8 (acts.length + 1) (cs.flatten ++ x)) (hg : (wr.alloc o).grownBy w8 v.ownBlock) : Gy w A n c v8 (cs ++ [x]) (acts ++ [a]) w8 := by
 obtain ⟨g, far⟩ := h.g.push hx h4 hown hg
 have hb := far.below (B := w.heap.size + 1) h.g.le fun k e => (h.g.own.lt k e).1
 exact ⟨g, ⟨h.t.below.trans (hb.mono (Nat.le_succ _)), h.t.whole.below hb (Nat.lt_succ_self _)⟩⟩
theorem wpList_append_two {P : Program} {w : World} {ops : Array Oper} {rest : List Oper} {o : Oper} {a : Act} {Q : Exit → Act → World → Prop} (hgd : o.guard = none) (s x : Operand) (t : TypeId)
  (ho : o.op = .call { callee := .builtin .append, args := #[s, x], argTypes := #[t, t] })
  (base bx : Nat) (e : TypeId) (i : TypeInfo) (z : Value) (size bytes : Nat) (ht : P.underlying t = some (.slice e)) (hi : P.info? e = some i) (hz : i.zero = some z)
  (hsize : i.size = size) (hby : i.bytes = bytes) (hzs : z.cells.size = size) (hsz : 0 < size)
  (v : Value) (n : Nat) (xs : List Value) (hs : a.eval s = v) (hown : w.ownsRow base e size v n xs)
  (xv : Value) (m : Nat) (news : List Value) (hx : a.eval x = xv) (hox : w.ownsRow bx e size xv m news) (h1 : ∀ u ∈ news, u.oneCell' = true)
  (h63 : n + m ≤ maxLen) (hbytes : (n + m) * bytes ≤ 140737488355328) (hbase : base ≤ w.heap.size)
  (h : ∀ v' w', w'.ownsRow base e size v' (n + m) (xs ++ news) → w.grownBy w' v.ownBlock → wpList P ops Q rest (a.put o.dst v') w') : wpList P ops Q (o :: rest) a w := by
 have hl := hox.1
 rcases hox.2 with ⟨rfl, rfl⟩ | ⟨g, cap, cur, rfl, hb, hh, hc, hm, hs2, ht2⟩
 ·have hn0 : news = [] := List.length_eq_zero_iff.1 (by simpa using hl)
  subst hn0
  exact wpList_append_own_none hgd s x t ho base e i size ht hi v n xs hs hown hx (h v w (by simpa using hown) (grown_of_below (Below.refl _ _) _))
 ·refine wpList_append_own_at _ hgd s x t ho base e i z size bytes ht hi hz hsize hby hzs hsz v n xs hs hown ⟨g, 0, none⟩ m cap news hx hl (fun j u hj => ?_) h1 h63 hbytes hbase fun v' w' g1 g2 _ _ => h v' w' g1 g2
  have hadd : (⟨g, 0, none⟩ : Addr).add j = ⟨g, j, none⟩ := by unfold Addr.add; split <;> simp_all
  rw [hadd, hox.cellAt j (by rw [← hl]; exact (List.getElem?_eq_some_iff.1 hj).1), hj]
def freshTo (done : Nat → Bool) (k : Nat) : List Nat := (List.range k).filter fun k => !done k
theorem freshTo_yes {done : Nat → Bool} {k : Nat} (h : done k = false) : freshTo done (k + 1) = freshTo done k ++ [k] := by unfold freshTo; rw [List.range_succ, List.filter_append]; simp [h]
theorem freshTo_no {done : Nat → Bool} {k : Nat} (h : done k = true) : freshTo done (k + 1) = freshTo done k := by unfold freshTo; rw [List.range_succ, List.filter_append]; simp [h]
theorem freshTo_len {done : Nat → Bool} {k : Nat} : (freshTo done k).length ≤ k := by unfold freshTo; exact Nat.le_trans (List.length_filter_le _ _) (by simp)
theorem set_few {ps : List Pk} {l : List Mem} (h : ckSet ps l = 0) (h8 : ps.length ≤ 8) : l.length ≤ 8 := by
 have h2 := (ckMs_rises (ckSet_zero h).2).2
 have h3 := ckMs_mem (ckSet_zero h).2
 have : ∀ (l : List Mem) (b : Int), (l.map Mem.pl).Pairwise (· < ·) → (∀ m ∈ l, b ≤ m.pl ∧ m.pl < ps.length) → b ≤ ps.length → (l.length : Int) ≤ ps.length - b := by
  intro l
  induction l with
  | nil => intro b _ _ hb; simp; omega
  | cons x r ih =>
   intro b hp hm hb
   rw [List.map_cons, List.pairwise_cons] at hp
   have hx := hm x (List.mem_cons_self ..)
   have := ih (x.pl + 1) hp.2 (fun m hmr => ⟨by have := hp.1 m.pl (List.mem_map.2 ⟨m, hmr, rfl⟩); omega, (hm m (List.mem_cons_of_mem _ hmr)).2⟩) (by omega)
   simp only [List.length_cons]; omega
 have := this l 0 h2 (fun m hm => ⟨(h3 m hm).1, (h3 m hm).2.1⟩) (by omega)
 omega
end
/- A map from ints to ints, by what it holds. What the operations on it give. -/
section
open Go.RowKit

def IntMap (P : Program) (w : World) (b : Nat) (K : Int → Option Int) (m : Nat) : Prop :=
 ∃ D : DataW Unit, w.ownsMap P 3 (plainElem P 3) b m D ∧ Maps.size D = m ∧ ∀ x : Int, (Lit.int .i64 x).wf = true → Maps.has D (.int .i64 x) = (K x).isSome ∧ D.atKey (.int .i64 x) (.lit (.int .i64 0)) = .lit (.int .i64 ((K x).getD 0))

section
variable {P : Program} {w w' : World} {b m : Nat} {K : Int → Option Int}
theorem IntMap.made (P : Program) (w : World) : IntMap P (w.alloc (.map #[] 0)) w.heap.size (fun _ => none) 0 :=
 ⟨.map [], World.ownsMap_made w P 3 _, rfl, fun x _ => ⟨rfl, rfl⟩⟩
theorem IntMap.kept {row : Option Nat} (h : IntMap P w b K m) (hg : w.grownBy w' row) (hne : some b ≠ row) : IntMap P w' b K m := by
 obtain ⟨D, h1, h2⟩ := h
 exact ⟨D, h1.kept hg hne, h2⟩
theorem IntMap.lt (h : IntMap P w b K m) : b < w.heap.size := by obtain ⟨D, h1, _⟩ := h; exact h1.lt
theorem IntMap.congr {K' : Int → Option Int} {m' : Nat} (h : IntMap P w b K m) (hm : m = m') (hK : ∀ x, (Lit.int .i64 x).wf = true → K x = K' x) : IntMap P w b K' m' := by
 subst hm
 obtain ⟨D, h1, h2, h3⟩ := h
 exact ⟨D, h1, h2, fun x hx => by rw [← hK x hx]; exact h3 x hx⟩
theorem IntMap.look (h : IntMap P w b K m) (hk : P.underlying 3 = some (.int .i64)) (hz : (zeroValue 3).run P w = .ok (.int .i64 0) w) {t : TypeId} (ht : P.underlying t = some (.map 3 3)) {x : Int} (hx : (Lit.int .i64 x).wf = true) :
  (Instr.lookup t (.map (some b)) (.int .i64 x) false).run P w = .ok (.int .i64 ((K x).getD 0)) w := by
 obtain ⟨D, h1, _, h3⟩ := h
 obtain ⟨v, ps, hrun, hv⟩ := h1.lookup (Maps.int_keyed hk) ht hz (plainElem_int hk (by decide)) (Maps.keyOf_int_mk hk hx)
 rw [(h3 x hx).2] at hv
 obtain ⟨a, rfl, ha, _⟩ := plainElem_int_inv hk hv
 simp only [Prod.mk.injEq, DataW.lit.injEq, Lit.int.injEq, true_and] at ha
 rw [hrun, ha.1]
theorem IntMap.put (h : IntMap P w b K m) (hk : P.underlying 3 = some (.int .i64)) {t : TypeId} (ht : P.underlying t = some (.map 3 3)) {x y : Int} (hx : (Lit.int .i64 x).wf = true) (hy : (Lit.int .i64 y).wf = true) (hm : m < maxLen) :
  ∃ w', (Instr.mapUpdate t (.map (some b)) (.int .i64 x) (.int .i64 y)).run P w = .ok () w' ∧ IntMap P w' b (fun z => if z = x then some y else K z) (if (K x).isSome then m else m + 1) ∧ w.grownBy w' (some b) ∧ w'.heap.size = w.heap.size := by
 obtain ⟨D, h1, h2, h3⟩ := h
 have Kd := Maps.int_keyed (P := P) hk
 have hkey := Maps.keyOf_int_mk (P := P) hk hx
 have hkl : WideAt.IsKeyLit (.int .i64 x) := Kd.key hkey
 obtain ⟨w', hrun, h4, h5⟩ := h1.store Kd ht hm hkey (plainElem_int hk hy)
 have htd := h1.tidy Kd
 have hsz : Maps.size (D.put (.int .i64 x) (.lit (.int .i64 y))) = if (K x).isSome then m else m + 1 := by
  rw [Maps.size_put htd, (h3 x hx).1, h2]
 refine ⟨w', hrun, ⟨_, ?_, hsz, fun z hz => ?_⟩, h5.grown, ?_⟩
 ·have e : Maps.size (D.put (.int .i64 x) (.lit (.int .i64 y))) ≤ if (K x).isSome then m else m + 1 := by rw [hsz]; exact qr _
  obtain ⟨es, clock, hb, F, hs, hD⟩ := h4
  refine ⟨es, clock, hb, F, ?_, hD⟩
  rw [hD] at e
  simpa [Maps.size, length_sorted] using e
 ·by_cases hzx : z = x
  ·subst hzx
   rw [Maps.has_put_same htd.isMap hkl, Maps.atKey_put_same htd.isMap hkl]
   simp
  ·have hne : (Lit.int .i64 z) ≠ .int .i64 x := by intro e; injection e with _ e; exact hzx e
   rw [Maps.has_put_other hne, Maps.atKey_put_other hne]
   show _ = (if z = x then some y else K z).isSome ∧ _ = DataW.lit (.int .i64 ((if z = x then some y else K z).getD 0))
   rw [if_neg hzx]
   exact h3 z hz
 ·obtain ⟨es, clock, es', clock', _, rfl⟩ := h5
  simp [ChangeMaps.setBlock]
end
end
/- The document's own Planned: what its last loop keeps. -/
section
open Go.RowKit Qm

theorem zeroIntR (w : World) : (zeroValue 3).run Tryz.prog w = .ok (.int .i64 0) w := by kernel_rfl
theorem addr_add (b o t : Nat) : (⟨b, o, none⟩ : Addr).add t = ⟨b, o + t, none⟩ := by unfold Addr.add; split <;> simp_all
def toAc (l : List Mem) (p : Nat × Nat) : Ac := ⟨false, memAt l p.1, (p.2 : Int)⟩
structure Pq (r : Nat → Nat → Bool) (q : Nat) (old : Nat → Bool) (l : List Mem) (total : List Ac) (s : PSt) (K : Int → Option Int) (acts : List Ac) (fuel gk m : Nat) : Prop where
 left : leftO q s.done ≤ gk
 lt : gk < fuel
 sum : acts ++ (planGo r q old fuel s).map (toAc l) = total
 num : NumOk q old s K
 old : ∀ k, old k = true → s.done k = true
 few : m + gk * (q + 1) ≤ q * (q + 1)
 cyc : s.cyc + gk ≤ q
 len : acts.length + gk ≤ 16
theorem Pq.next {r : Nat → Nat → Bool} {q : Nat} {old : Nat → Bool} {l : List Mem} {total : List Ac} {s : PSt} {K K' : Int → Option Int} {acts : List Ac} {fuel gk m m' i : Nat} (h : Pq r q old l total s K acts fuel gk m) (hp : pickO r q s.done = some i)
  (hn : NumOk q old (stepP r q old s i) K') (hm : m' ≤ m + (q + 1)) (hc : (stepP r q old s i).cyc ≤ s.cyc + 1) : 0 < gk ∧ Pq r q old l total (stepP r q old s i) K' (acts ++ [⟨false, memAt l i, ((stepP r q old s i).num i : Int)⟩]) (fuel - 1) (gk - 1) m' := by
 have hl := leftO_step (r := r) (old := old) (s := s) hp
 have h0 := h.left
 have hg : 0 < gk := by omega
 have hf := h.lt
 obtain ⟨g, rfl⟩ : ∃ g, gk = g + 1 := ⟨gk - 1, by omega⟩
 obtain ⟨f, rfl⟩ : ∃ f, fuel = f + 1 := ⟨fuel - 1, by omega⟩
 refine ⟨hg, by simp only [Nat.add_sub_cancel]; omega, by simp only [Nat.add_sub_cancel]; omega, ?_, hn, fun k hk => ?_, ?_, by have := h.cyc; simp only [Nat.add_sub_cancel]; omega, by have := h.len; rw [List.length_append, List.length_singleton]; simp only [Nat.add_sub_cancel]; omega⟩
 ·have hs := h.sum
  rw [planGo_next hp, List.map_cons] at hs
  rw [Nat.add_sub_cancel, List.append_assoc]
  exact hs
 ·rw [stepP_done]
  show (decide (k = i) || s.done k) = true
  rw [h.old k hk]; simp
 ·have := h.few
  simp only [Nat.add_sub_cancel]
  rw [Nat.succ_mul] at this
  omega
structure Lp (ob gm B0 : Nat) (u7 : Value) (w5 : World) (v : Value) (cs : List (List Value)) (acts : List Ac) (F : Option Addr) (fl fc : Nat) (fr : List Nat) (K : Int → Option Int) (m : Nat) (wr : World) : Prop where
 far : Far (fun k => k = ob + 1 ∨ k = gm ∨ u7.ownBlock = some k) w5 wr
 g : Ga B0 v cs acts wr
 vb : ∀ k, v.ownBlock = some k → k < w5.heap.size → u7.ownBlock = some k
 fb : Whole wr (ob + 1) 60 [.slice F fl fc]
 fr : RInts wr (fun k => k < wr.heap.size ∧ k ≠ ob + 1 ∧ k ≠ gm ∧ v.ownBlock ≠ some k) F fl (fr.map fun (k : Nat) => (k : Int))
 fc : fl ≤ fc ∧ fc ≤ maxLen
 mp : IntMap Tryz.prog wr gm K m
 vn : v.ownBlock ≠ some (ob + 1) ∧ v.ownBlock ≠ some gm ∧ ob + 1 ≠ gm
 lo : B0 ≤ ob + 1 ∧ B0 ≤ gm
section
variable {ob gm B0 : Nat} {u7 : Value} {w5 : World} {v v8 : Value} {cs : List (List Value)} {acts : List Ac} {F F' : Option Addr} {fl fc fl' fc' : Nat} {fr fr' : List Nat} {K K' : Int → Option Int} {m m' : Nat} {wr wy w8 : World} {x : List Value} {a : Ac}
theorem Lp.move (h : Lp ob gm B0 u7 w5 v cs acts F fl fc fr K m wr) (hb : Below wr.heap.size wr wy) : Lp ob gm B0 u7 w5 v cs acts F fl fc fr K m wy :=
 ⟨h.far.trans (Far.of_below (fun _ => False) hb) fun _ _ e => e.elim, h.g.move hb, h.vb, h.fb.below hb h.fb.lt, (h.fr.below hb fun k hk => hk.1).more fun k hk => ⟨ql hk.1 hb.size, hk.2⟩, h.fc, h.mp.kept (grown_of_below hb none) (by simp), h.vn, h.lo⟩
theorem Lp.map (h : Lp ob gm B0 u7 w5 v cs acts F fl fc fr K m wr) (hm : IntMap Tryz.prog wy gm K' m') (hf : Far (fun k => k = gm) wr wy) : Lp ob gm B0 u7 w5 v cs acts F fl fc fr K' m' wy :=
 ⟨h.far.trans hf fun _ _ e => .inr (.inl e), h.g.far hf fun i e => by subst e; exact ⟨h.lo.2, h.vn.2.1⟩, h.vb, hf.whole h.fb h.vn.2.2, (hf.ints h.fr fun k hk => ⟨hk.1, hk.2.2.1⟩).more fun k hk => ⟨ql hk.1 hf.size, hk.2⟩, h.fc, hm, h.vn, h.lo⟩
theorem Lp.less (h : Lp ob gm B0 u7 w5 v cs acts F fl fc fr K m wr) (hf : Far (fun k => k = ob + 1) wr wy) (hb : Whole wy (ob + 1) 60 [.slice F' fl' fc']) (hr : RInts wy (fun k => k < wy.heap.size ∧ k ≠ ob + 1 ∧ k ≠ gm ∧ v.ownBlock ≠ some k) F' fl' (fr'.map fun (k : Nat) => (k : Int))) (hc : fl' ≤ fc' ∧ fc' ≤ maxLen)
  (hm : IntMap Tryz.prog wy gm K m) : Lp ob gm B0 u7 w5 v cs acts F' fl' fc' fr' K m wy :=
 ⟨h.far.trans hf fun _ _ e => .inl e, h.g.far hf fun i e => by subst e; exact ⟨h.lo.1, h.vn.1⟩, h.vb, hb, hr, hc, hm, h.vn, h.lo⟩
theorem Lp.put (h : Lp ob gm B0 u7 w5 v cs acts F fl fc fr K m wr) {val : Value} (hg : wr.grownBy wy none) (hv : Whole (wy.setCell ⟨ob + 1, 0, none⟩ val) (ob + 1) 60 [.slice F' fl' fc'])
  (hr : RInts wy (fun k => k < wy.heap.size ∧ k ≠ ob + 1 ∧ k ≠ gm ∧ v.ownBlock ≠ some k) F' fl' (fr'.map fun (k : Nat) => (k : Int))) (hc : fl' ≤ fc' ∧ fc' ≤ maxLen) : Lp ob gm B0 u7 w5 v cs acts F' fl' fc' fr' K m (wy.setCell ⟨ob + 1, 0, none⟩ val) := by
 have f1 : Far (fun k => k = ob + 1) wr wy := Far.of_grown hg fun i e => by cases e
 have f2 : Far (fun k => k = ob + 1) wy (wy.setCell ⟨ob + 1, 0, none⟩ val) := Far.set_ (D := fun k => k = ob + 1) rfl 0 val
 have m1 : IntMap Tryz.prog wy gm K m := h.mp.kept hg (by simp)
 have m2 : IntMap Tryz.prog (wy.setCell ⟨ob + 1, 0, none⟩ val) gm K m := m1.kept (grown_set (grown_of_below (Below.refl _ wy) (some (ob + 1))) 0 val) (by intro e; injection e with e; exact h.vn.2.2 e.symm)
 exact h.less (f1.trans f2 fun _ _ e => e) hv ((f2.ints hr fun k hk => ⟨hk.1, hk.2.1⟩).more fun k hk => ⟨ql hk.1 f2.size, hk.2⟩) hc m2
theorem Lp.erase {at_ k1 c7 : Nat} {A7 : Option Addr} {vals : List Value} (h : Lp ob gm B0 u7 w5 v cs acts F fl fc fr K m wr) (hk : k1 = at_ + 1) (hat : k1 ≤ fl) (hvals : vals.take at_ ++ vals.drop k1 = ((fr.eraseIdx at_).map fun (k : Nat) => (k : Int)).map (Value.int .i64))
  (hown : wy.ownsRow wr.heap.size 3 1 (.slice A7 (at_ + (fl - k1) : Nat) c7) (at_ + (fl - k1)) (vals.take at_ ++ vals.drop k1)) (hg : wr.grownBy wy none) : Lp ob gm B0 u7 w5 v cs acts A7 (fl - 1) c7 (fr.eraseIdx at_) K m (wy.setCell ⟨ob + 1, 0, none⟩ (.slice A7 (at_ + (fl - k1) : Nat) c7)) := by
 have hlen : at_ + (fl - k1) = fl - 1 := by omega
 rw [hlen] at hown ⊢
 obtain ⟨A2, c2, he, h1, h2, hr⟩ := own_form hown
 injection he with he1 he2 he3
 subst he1 he3
 have fb : Whole wy (ob + 1) 60 [.slice F fl fc] := (Far.of_grown hg (D := fun _ => False) fun i e => by cases e).whole h.fb fun h => h
 have hob := h.fb.lt
 have hgm := h.mp.lt
 refine h.put hg (fb.set_ 0 _) ?_ ⟨h1, h2⟩
 have h3 := Row.more hr (S' := fun k => k < wy.heap.size ∧ k ≠ ob + 1 ∧ k ≠ gm ∧ v.ownBlock ≠ some k) fun k hk => ⟨hk.2, by omega, by omega, fun e => by have := (h.g.own.lt k e).2; omega⟩
 rw [hvals] at h3
 exact h3
theorem Lp.eraseLast {at_ k1 : Nat} (h : Lp ob gm B0 u7 w5 v cs acts F fl fc fr K m wr) (hk : k1 = at_ + 1) (hat : fl = k1) (hfr : fr.length = fl) : Lp ob gm B0 u7 w5 v cs acts F (fl - 1) at_ (fr.eraseIdx at_) K m (wr.setCell ⟨ob + 1, 0, none⟩ (.slice F (at_ + (fl - k1) : Nat) at_)) := by
 have hlen : at_ + (fl - k1) = fl - 1 := by omega
 have hl1 : fl - 1 = at_ := by omega
 rw [hlen]
 refine h.put (grown_of_below (Below.refl _ _) _) (h.fb.set_ 0 _) ?_ ⟨by omega, by have := h.fc; omega⟩
 have h3 := RInts.take h.fr (k := fl - 1) (by omega)
 have e : fr.eraseIdx at_ = fr.take (fl - 1) := by
  rw [List.eraseIdx_eq_take_drop_succ, List.drop_eq_nil_of_le (by omega), List.append_nil, hl1]
 rw [e, List.map_take]
 exact h3
theorem Lp.push (h : Lp ob gm B0 u7 w5 v cs acts F fl fc fr K m wr) (hx : RAct wr (fun k => k < B0) x a) (h4 : x.length = 4) {o : Obj} (hown : w8.ownsRow B0 48 4 v8 (acts.length + 1) (cs.flatten ++ x)) (hg : (wr.alloc o).grownBy w8 v.ownBlock)
  (hv : v8.ownBlock = v.ownBlock ∨ v8.ownBlock = some (wr.heap.size + 1)) : Lp ob gm B0 u7 w5 v8 (cs ++ [x]) (acts ++ [a]) F fl fc fr K m w8 := by
 obtain ⟨g, far⟩ := h.g.push hx h4 hown hg
 have hlt := far.size
 have hs := h.far.size
 have hgm := h.mp.lt
 have hob := h.fb.lt
 have hn : ∀ k, k < wr.heap.size → v.ownBlock ≠ some k → v8.ownBlock ≠ some k := fun k hk hv0 e => by
  rcases hv with e2 | e2
  ·rw [e2] at e; exact hv0 e
  ·rw [e2] at e; injection e with e; omega
 have hal : (wr.alloc o).grownBy w8 v.ownBlock := hg
 refine ⟨?_, g, fun k hk hk5 => ?_, far.whole h.fb h.vn.1, (far.ints h.fr fun k hk => ⟨hk.1, hk.2.2.2⟩).more fun k hk => ⟨ql hk.1 hlt, hk.2.1, hk.2.2.1, hn k hk.1 hk.2.2.2⟩, h.fc, ?_, ⟨hn _ hob h.vn.1, hn _ hgm h.vn.2.1, h.vn.2.2⟩, h.lo⟩
 ·exact h.far.trans far fun k hk e => .inr (.inr (h.vb k e hk))
 ·rcases hv with e2 | e2
  ·rw [e2] at hk; exact h.vb k hk hk5
  ·rw [e2] at hk; injection hk with hk; omega
 ·have h1 : IntMap Tryz.prog (wr.alloc o) gm K m := h.mp.kept (World.grownBy_alloc _ _ none) (by simp)
  exact h1.kept hg fun e => h.vn.2.1 e.symm
end
structure Kp (D : Nat → Prop) (w : World) (A : Option Addr) (n c ob : Nat) (LA : Option Addr) (q Lc : Nat) (ls : List (List Int)) (AA : Option Addr) (LN : Nat) (xs : List Int) (n5 : Nat) (wr : World) : Prop where
 t : Whole wr w.heap.size 24 [.slice A n c]
 o : Whole wr ob 55 [.slice LA q Lc]
 rl : RClauses wr (fun k => k < n5 ∧ ¬ D k) LA q ls
 al : RInts wr (fun k => k < n5 ∧ ¬ D k) AA LN xs
 bel : Below w.heap.size w wr
 nt : ¬ D w.heap.size
 no : ¬ D ob
 nb : ∀ k, D k → w.heap.size ≤ k
 le : n5 ≤ wr.heap.size
theorem Kp.far {D : Nat → Prop} {w w5 wr : World} {A : Option Addr} {n c ob : Nat} {LA : Option Addr} {q Lc : Nat} {ls : List (List Int)} {AA : Option Addr} {LN : Nat} {xs : List Int} (h : Kp D w A n c ob LA q Lc ls AA LN xs w5.heap.size w5) (f : Far D w5 wr) : Kp D w A n c ob LA q Lc ls AA LN xs w5.heap.size wr :=
 ⟨f.whole h.t h.nt, f.whole h.o h.no, f.clauses h.rl fun _ hk => hk, f.ints h.al fun _ hk => hk, h.bel.trans (f.below h.bel.size h.nb), h.nt, h.no, h.nb, f.size⟩
def ringTo (r : Nat → Nat → Bool) (xs : List Nat) (i k : Nat) : List Nat := (xs.take k).filter fun y => decide (y ≠ i) && (r i y && r y i)
theorem ringTo_step {r : Nat → Nat → Bool} {xs : List Nat} {i k y : Nat} (h : xs[k]? = some y) : ringTo r xs i (k + 1) = if (decide (y ≠ i) && (r i y && r y i)) = true then ringTo r xs i k ++ [y] else ringTo r xs i k := by
 obtain ⟨hk, rfl⟩ := List.getElem?_eq_some_iff.1 h
 unfold ringTo
 rw [List.take_succ_eq_append_getElem hk, List.filter_append, List.filter_cons]
 split
 ·simp
 ·simp
theorem ringTo_len {r : Nat → Nat → Bool} {xs : List Nat} {i k : Nat} : (ringTo r xs i k).length ≤ k := by
 unfold ringTo
 exact Nat.le_trans (List.length_filter_le _ _) (List.length_take_le _ _)
theorem ringTo_all {r : Nat → Nat → Bool} {n : Nat} {old : Nat → Bool} {i k : Nat} (h : (freshO n old).length ≤ k) : ringTo r (freshO n old) i k = ringL r n old i := by
 unfold ringTo ringL; rw [List.take_of_length_le h]
def numTo (K : Int → Option Int) (xs : List Nat) (c : Int) (k : Nat) (x : Int) : Option Int := if (xs.take k).any (fun y => x == (y : Int)) = true then some c else K x
theorem numTo_zero {K : Int → Option Int} {xs : List Nat} {c : Int} : numTo K xs c 0 = K := by funext x; unfold numTo; simp
theorem numTo_step {K : Int → Option Int} {xs : List Nat} {c : Int} {k y : Nat} (h : xs[k]? = some y) (x : Int) : (if x = (y : Int) then some c else numTo K xs c k x) = numTo K xs c (k + 1) x := by
 obtain ⟨hk, rfl⟩ := List.getElem?_eq_some_iff.1 h
 unfold numTo
 rw [List.take_succ_eq_append_getElem hk, List.any_append]
 by_cases e : x = ((xs[k] : Nat) : Int)
 ·rw [if_pos e, if_pos]; subst e; simp
 ·rw [if_neg e]
  have : [xs[k]].any (fun y => x == (y : Int)) = false := by simpa using e
  rw [this, Bool.or_false]
theorem numTo_all {K : Int → Option Int} {xs : List Nat} {c : Int} {k : Nat} (h : xs.length ≤ k) (x : Nat) : numTo K xs c k (x : Int) = if x ∈ xs then some c else K x := by
 unfold numTo
 rw [List.take_of_length_le h]
 by_cases e : x ∈ xs
 ·rw [if_pos e, if_pos (List.any_eq_true.2 ⟨x, e, by simp⟩)]
 ·rw [if_neg e, if_neg]
  intro h2
  obtain ⟨y, hy, h3⟩ := List.any_eq_true.1 h2
  have h3 : (x : Int) = (y : Int) := by simpa using h3
  exact e (by rw [show x = y by omega]; exact hy)
end
end Go.Proofs.YtpipgffbhpnmkaaGreatDoor
