/- Parts of the proof: walks and plain laws, side by side. -/
import Derived.Test.YthpkffeiehnamaaGreatDoorM2
import Derived.Deep.AppendLies
import Derived.OwnWalk
import Derived.Maps.AppendAt
import Derived.Lib.AppendZerosOnto
import Derived.Lib.Walk
import Derived.Test.YthpkffeiehnamaaGreatDoorM3
import Derived.Test.YthpkffeiehnamaaGreatDoorShelf
import Derived.Deep.QuietTactic
import Derived.BigQuiet
import Derived.Deep.RegionHeld3
import Derived.Deep.DeepCutAuto
set_option linter.unusedVariables false
set_option linter.unusedSimpArgs false
set_option linter.unusedSectionVars false
/- Laws: append of whatever row. -/
namespace Go.Proofs.YthpkffeiehnamaaGreatDoor
open Go.RowKit
theorem own_form {w : World} {base : Nat} {e : TypeId} {v : Value} {n : Nat} {vs : List Value} (h : w.ownsRow base e 1 v n vs) : ∃ (A : Option Addr) (c : Nat), v = .slice A n c ∧ n ≤ c ∧ c ≤ maxLen ∧ Row w (fun k => base ≤ k ∧ k < w.heap.size) A n vs := by
  have h' := h
  rcases h'.2 with ⟨rfl, rfl⟩ | ⟨g, cap, cur, rfl, hb, hh, hc, hm, _⟩
  · exact ⟨none, 0, rfl, Nat.le_refl _, Nat.zero_le _, by have := h.1; simpa using this, fun h => absurd h (by omega)⟩
  · exact ⟨_, cap, rfl, hc, hm, row_of_own h (fun g' e => by simp [Value.ownBlock] at e; subst e; exact ⟨hb, lt_of_block hh⟩)⟩
theorem own_formK {w : World} {base : Nat} {e : TypeId} {size : Nat} {v : Value} {n : Nat} {vs : List Value} (h : w.ownsRow base e size v n vs) : ∃ (A : Option Addr) (c : Nat), v = .slice A n c ∧ n ≤ c ∧ c ≤ maxLen ∧ Row w (fun k => v.ownBlock = some k) A (n * size) vs := by
  rcases h.2 with ⟨rfl, rfl⟩ | ⟨g, cap, cur, rfl, hb, hh, hc, hm, hs, ht⟩
  · exact ⟨none, 0, rfl, Nat.le_refl _, Nat.zero_le _, by have := h.1; simpa using this, fun h => absurd h (by omega)⟩
  · refine ⟨_, cap, rfl, hc, hm, h.1, fun hn => ⟨g, 0, rfl, rfl, fun j hj => ?_⟩⟩
    have hj' : j < cur.size := by rw [hs]; exact Nat.lt_of_lt_of_le hj (Nat.mul_le_mul_right _ hc)
    rw [cell_of_row w g _ _ _ (0, 0) hh, Nat.zero_add, ← ht, List.getElem?_take_of_lt hj]
    simp
theorem news_of_row {w : World} {S : Nat → Prop} {b o n : Nat} {vs : List Value} (h : Row w S (some ⟨b, o, none⟩) n vs) : ∀ j u, vs[j]? = some u → w.cell? ((⟨b, o, none⟩ : Addr).add j) = some u := by
  intro j u hj
  have hjn : j < n := by have := (List.getElem?_eq_some_iff.1 hj).1; rw [h.len] at this; exact this
  obtain ⟨b', o', e, _, hc⟩ := h.at_ hjn
  injection e with e; injection e with e1 e2
  subst e1 e2
  have hadd : (⟨b, o, none⟩ : Addr).add j = ⟨b, o + j, none⟩ := by unfold Addr.add; split <;> simp_all
  rw [hadd, hc, hj]
theorem Row.some_lit {w : World} {S : Nat → Prop} {A : Option Addr} {n : Nat} {vs : List Value} (h : Row w S A n vs) (hn : 0 < n) : ∃ b o, A = some ⟨b, o, none⟩ ∧ S b := by
  obtain ⟨b, o, e, hS, _⟩ := h.at_ hn
  exact ⟨b, o, e, hS⟩
theorem run_append_row {P : Program} (w : World) (base : Nat) (t ty e : TypeId) (i : TypeInfo) (z : Value) (bytes : Nat) (ht : P.underlying t = some (.slice e)) (hi : P.info? e = some i) (hz : i.zero = some z)
    (hsize : i.size = 1) (hby : i.bytes = bytes) (hzs : z.cells.size = 1) (v : Value) (n : Nat) (xs : List Value) (hown : w.ownsRow base e 1 v n xs)
    (A : Option Addr) (m c : Nat) (news : List Value) (S : Nat → Prop) (hrow : Row w S A m news) (h1 : ∀ u ∈ news, u.oneCell' = true)
    (h63 : n + m ≤ maxLen) (hbytes : (n + m) * bytes ≤ 140737488355328) (hbase : base ≤ w.heap.size) :
    ∃ v' w', (Builtin.append_ #[t, t] ty #[v, .slice A m c]).run P w = .ok v' w' ∧ w'.ownsRow base e 1 v' (n + m) (xs ++ news) ∧ w.grownBy w' v.ownBlock := by
  cases A with
  | none =>
    obtain rfl : m = 0 := by
      by_cases h0 : 0 < m
      · obtain ⟨b, o, e, _⟩ := hrow.some_lit h0; cases e
      · omega
    obtain rfl : news = [] := List.eq_nil_of_length_eq_zero hrow.len
    refine ⟨v, w, ?_, by simpa using hown, World.grownBy.refl _ _⟩
    rcases hown.2 with ⟨rfl, rfl⟩ | ⟨g, cap, cur, rfl, _, _, hnc, _⟩
    · simp [Builtin.append_, run_underlying ht, sizeOf, typeInfo, hi, Builtin.lenOf, Builtin.firstCells]
    · simp [Builtin.append_, run_underlying ht, sizeOf, typeInfo, hi, Builtin.lenOf, Builtin.firstCells, hnc, storeCells]
  | some ad =>
    have hnews : ∀ j u, news[j]? = some u → w.cell? (ad.add j) = some u := by
      intro j u hj
      have hjn : j < m := by have := (List.getElem?_eq_some_iff.1 hj).1; rw [hrow.len] at this; exact this
      obtain ⟨b, o, e, _⟩ := hrow.some_lit (by omega)
      injection e with e
      subst e
      exact news_of_row hrow j u hj
    obtain ⟨v', w', hr, h2, h3, _⟩ := run_append_own (P := P) w base t ty e i z 1 bytes ht hi hz hsize hby hzs (by decide) v n xs hown ad m c news (by rw [hrow.len, Nat.mul_one]) hnews h1 h63 hbytes hbase
    exact ⟨v', w', hr, h2, h3⟩
theorem wpList_append_row {P : Program} {w : World} {ops : Array Oper} {rest : List Oper} {o : Oper} {a : Act} {Q : Exit → Act → World → Prop} (hgd : o.guard = none) (s x : Operand) (t : TypeId)
    (ho : o.op = .call { callee := .builtin .append, args := #[s, x], argTypes := #[t, t] })
    (base : Nat) (e : TypeId) (i : TypeInfo) (z : Value) (bytes : Nat) (ht : P.underlying t = some (.slice e)) (hi : P.info? e = some i) (hz : i.zero = some z)
    (hsize : i.size = 1) (hby : i.bytes = bytes) (hzs : z.cells.size = 1) (v : Value) (n : Nat) (xs : List Value) (hs : a.eval s = v) (hown : w.ownsRow base e 1 v n xs)
    (A : Option Addr) (m c : Nat) (news : List Value) (hx : a.eval x = .slice A m c) (S : Nat → Prop) (hrow : Row w S A m news) (h1 : ∀ u ∈ news, u.oneCell' = true)
    (h63 : n + m ≤ maxLen) (hbytes : (n + m) * bytes ≤ 140737488355328) (hbase : base ≤ w.heap.size)
    (h : ∀ A' c' w', n + m ≤ c' → c' ≤ maxLen → w'.ownsRow base e 1 (.slice A' (n + m) c') (n + m) (xs ++ news) → w.grownBy w' v.ownBlock → wpList P ops Q rest (a.put o.dst (.slice A' (n + m) c')) w') : wpList P ops Q (o :: rest) a w := by
  refine wpList_plain hgd fun K hK => ?_
  obtain ⟨v', w', hr, h2, h3⟩ := run_append_row (P := P) w base t o.type e i z bytes ht hi hz hsize hby hzs v n xs hown A m c news S hrow h1 h63 hbytes hbase
  obtain ⟨A', c', rfl, h4, h5, _⟩ := own_form h2
  unfold Oper.wp execOp
  simp only [ho, resolve, invoke, builtin, Sem.run_bind, Sem.run_pure, Result.andThen_ok, List.map_toArray, List.map_cons, List.map_nil, hs, hx, hr]
  exact hK _ _ (h A' c' w' h4 h5 h2 h3)
end Go.Proofs.YthpkffeiehnamaaGreatDoor

/- atom.ops, atom.Print, walked. -/
namespace Go.Proofs.YthpkffeiehnamaaGreatDoor
open Go.RowKit Qm

def opsV : Value := .agg #[.string ⟨#[]⟩, .string ⟨#[61]⟩, .string ⟨#[62, 61]⟩, .string ⟨#[60]⟩]

set_option maxHeartbeats 1600000 in
theorem ops_any (w : World) :
    Calls Tryz.prog 138 #[] w fun e w' => e = .returned opsV ∧ Below w.heap.size w w' := by
  go_enter Tryz.func138, Tryz.ntmps138
  go_wp2
  refine bodyPost_ret (v := opsV) (by simp [results, Tryz.results138, go_sem]; rfl) rfl ⟨rfl, ?_⟩
  exact (Below.refl _ _).alloc (Nat.le_refl _) _

theorem ops_any' (w : World) : Calls Tryz.prog 138 #[] w fun e w' => e = .returned (.agg #[.string ⟨#[]⟩, .string ⟨#[61]⟩, .string ⟨#[62, 61]⟩, .string ⟨#[60]⟩]) ∧ Below w.heap.size w w' := ops_any w

/-- The atom in its box, in a world later than w. -/
structure Boxed (w : World) (s : ByteArray) (op ver slot : Int) (f : ByteArray) (on : Bool) (wx : World) : Prop where
  c0 : wx.cell? ⟨w.heap.size, 0, none⟩ = some (.string s)
  c1 : wx.cell? ⟨w.heap.size, 1, none⟩ = some (.int .i64 op)
  c2 : wx.cell? ⟨w.heap.size, 2, none⟩ = some (.int .i64 ver)
  c3 : wx.cell? ⟨w.heap.size, 3, none⟩ = some (.int .i64 slot)
  c4 : wx.cell? ⟨w.heap.size, 4, none⟩ = some (.string f)
  c5 : wx.cell? ⟨w.heap.size, 5, none⟩ = some (.bool on)
  b : Below w.heap.size w wx
theorem Boxed.below {w : World} {s : ByteArray} {op ver slot : Int} {f : ByteArray} {on : Bool} {wx wy : World} (h : Boxed w s op ver slot f on wx) (hb : Below wx.heap.size wx wy) : Boxed w s op ver slot f on wy :=
  ⟨(hb.cell (World.block_lt_of_cell? _ _ h.c0)).trans h.c0, (hb.cell (World.block_lt_of_cell? _ _ h.c1)).trans h.c1, (hb.cell (World.block_lt_of_cell? _ _ h.c2)).trans h.c2,
    (hb.cell (World.block_lt_of_cell? _ _ h.c3)).trans h.c3, (hb.cell (World.block_lt_of_cell? _ _ h.c4)).trans h.c4, (hb.cell (World.block_lt_of_cell? _ _ h.c5)).trans h.c5, h.b.trans (hb.mono h.b.size)⟩
theorem Boxed.new (w : World) (s : ByteArray) (op ver slot : Int) (f : ByteArray) (on : Bool) {t : TypeId} : Boxed w s op ver slot f on (w.alloc (.cells #[.string s, .int .i64 op, .int .i64 ver, .int .i64 slot, .string f, .bool on] t)) := by
  refine ⟨?_, ?_, ?_, ?_, ?_, ?_, (Below.refl _ w).alloc (Nat.le_refl _) _⟩ <;> simp [World.cell?, World.alloc, -World.alloc_eq]

theorem bs_add (a b : List UInt8) : (⟨a.toArray⟩ : ByteArray) ++ ⟨b.toArray⟩ = ⟨(a ++ b).toArray⟩ := by rw [ByteArray.mk_append_mk]; try simp
theorem bs_self (s : ByteArray) : (⟨s.data.toList.toArray⟩ : ByteArray) = s := by cases s; rfl
theorem bs_size (a : List UInt8) : (⟨a.toArray⟩ : ByteArray).size = a.length := by show a.toArray.size = _; simp

theorem ops_at1 (wx : World) : (Instr.index 107 (.agg #[.string ⟨#[]⟩, .string ⟨#[61]⟩, .string ⟨#[62, 61]⟩, .string ⟨#[60]⟩]) (.int .i64 1)).run Tryz.prog wx = .ok (.string ⟨#[61]⟩) wx := by
  simp [Instr.index, run_underlying Tryz.underlying107, go_sem]
theorem ops_at2 (wx : World) : (Instr.index 107 (.agg #[.string ⟨#[]⟩, .string ⟨#[61]⟩, .string ⟨#[62, 61]⟩, .string ⟨#[60]⟩]) (.int .i64 2)).run Tryz.prog wx = .ok (.string ⟨#[62, 61]⟩) wx := by
  simp [Instr.index, run_underlying Tryz.underlying107, go_sem]
theorem ops_at3 (wx : World) : (Instr.index 107 (.agg #[.string ⟨#[]⟩, .string ⟨#[61]⟩, .string ⟨#[62, 61]⟩, .string ⟨#[60]⟩]) (.int .i64 3)).run Tryz.prog wx = .ok (.string ⟨#[60]⟩) wx := by
  simp [Instr.index, run_underlying Tryz.underlying107, go_sem]
def printE (a : At) : Int := ckAtom a
def printS (a : At) : List UInt8 := if ckAtom a = 0 then textOf a else []

set_option maxRecDepth 100000 in
set_option maxHeartbeats 3200000 in
theorem print_any (s f : ByteArray) (op ver slot : Int) (on : Bool) (w : World) (hs : s.size ≤ maxLen) (hf : f.size ≤ maxLen) :
    Calls Tryz.prog 109 #[atv s op ver slot f on] w fun e w' =>
      e = .returned (.tuple #[.string ⟨(printS (atOf s op ver slot f on)).toArray⟩, .int .i64 (printE (atOf s op ver slot f on))]) ∧ Below w.heap.size w w' := by
  have hck := check_any s f op ver slot on (w.alloc (.cells #[.string s, .int .i64 op, .int .i64 ver, .int .i64 slot, .string f, .bool on] 26)) hs hf
  have BN := Lib.hid (Boxed.new w s op ver slot f on (t := 26))
  unfold atv at hck ⊢
  have HE := Lib.hid (show printE (atOf s op ver slot f on) = ckAtom (atOf s op ver slot f on) from rfl)
  by_cases hk : ckAtom (atOf s op ver slot f on) = 0
  · have hk1 : (ckAtom (atOf s op ver slot f on) != 0) = false := by simpa using hk
    have HO := Lib.hid (atOk hk)
    rw [hk] at hck
    have HK := Lib.hid hk; clear hk hk1
    go_enter Tryz.func109, Tryz.ntmps109
    go_wp2_with (first | (go_at_call 30; refine hck.mono ?_; rintro e w1 ⟨rfl, hb1⟩; have B1 := Lib.hid (BN.out.below hb1); clear hck BN hb1; have d0 := B1.out.c0; have d1 := B1.out.c1; have d2 := B1.out.c2; have d3 := B1.out.c3; have d4 := B1.out.c4; have d5 := B1.out.c5; refine Hid.out ?_))
    refine Lib.hid ?_
    have hsz : s.size ≤ 8 := by
      have h1 := isName_len HO.out.nm
      have h2 : s.size = s.data.toList.length := Lib.size_eq s
      have h3 : (atOf s op ver slot f on).nm = s.data.toList := rfl
      rw [h3] at h1
      omega
    have Hsz := Lib.hid hsz; clear hsz
    go_upto_if 16 with fail
    go_cut [5] (fun s5 wx => s5 = .string ⟨((atOf s op ver slot f on).nm ++ opPart (atOf s op ver slot f on)).toArray⟩ ∧ Boxed w s op ver slot f on wx)
    case first =>
      by_cases z : op = 0
      · subst z
        go_wp2
        go_meet
        case rel => exact ⟨by simp [opPart, atOf, bs_self], B1.out⟩
      · have z1 : (op != 0) = true := by simpa using z
        obtain ⟨i, hi⟩ : ∃ i : Nat, ver = (i : Int) := ⟨ver.toNat, by have := HO.out.some z; simp only [atOf] at this; omega⟩
        subst hi
        have hi : i < 100 := by have := HO.out.some z; simp only [atOf] at this; omega
        have ho : op = 1 ∨ op = 2 ∨ op = 3 := by have := HO.out.op; simp only [atOf] at this; omega
        have hit : Lib.itoa (i : Int) = Lib.decDigits i := by unfold Lib.itoa; rw [if_neg (by omega)]; rfl
        have hD : (Lib.decDigits i).length ≤ 2 := by rw [← hit]; exact (itoa_len (by omega) (by omega)).2
        have hitoa := fun wx => Tryz.strconv_Itoa_small i hi wx
        have Hit := Lib.hid hit
        clear hit
        generalize Lib.decDigits i = D at hD hitoa Hit
        have HD := Lib.hid hD; clear hD
        have Hitoa := Lib.hid hitoa; clear hitoa
        rcases ho with ho | ho | ho
        · subst ho
          have hadd1 : ∀ wx, (Op.stringOp .add ⟨#[61]⟩ ⟨D.toArray⟩).run Tryz.prog wx = .ok (.string ⟨(61 :: D).toArray⟩) wx := fun wx => by
            rw [run_string_add_sum wx _ _ (by have h1 := bs_size D; have h2 := HD.out; have h3 : ByteArray.size ⟨#[61]⟩ ≤ 2 := (by decide); omega)]
            exact congrArg (fun z => Result.ok (Value.string z) wx) (bs_add _ D)
          have hadd2 : ∀ wx, (Op.stringOp .add s ⟨(61 :: D).toArray⟩).run Tryz.prog wx = .ok (.string ⟨(s.data.toList ++ 61 :: D).toArray⟩) wx := fun wx => by
            rw [run_string_add_sum wx _ _ (by have h1 := bs_size (61 :: D); have h2 := HD.out; have h3 := Hsz.out; have h4 : (61 :: D).length ≤ 4 := (by simp; omega); omega)]
            have := bs_add s.data.toList (61 :: D)
            rw [bs_self] at this
            rw [this]
          have hidx : ∀ wx, (Instr.index 107 (.agg #[.string ⟨#[]⟩, .string ⟨#[61]⟩, .string ⟨#[62, 61]⟩, .string ⟨#[60]⟩]) (.int .i64 1)).run Tryz.prog wx = .ok (.string ⟨#[61]⟩) wx := ops_at1
          go_wp2_with fail
          go_region_held3 (fun w' => w'.cell? ⟨w.heap.size, 1, none⟩ = some (.int .i64 1) ∧ w'.cell? ⟨w.heap.size, 2, none⟩ = some (.int .i64 (i : Int)))
            (first
              | go_keep
              | exact ⟨(B5.out).c1, (B5.out).c2⟩)
            (first
              | (go_at_call 138; refine (ops_any' _).mono ?_; rintro e w5 ⟨rfl, hb5⟩; have B5 := Lib.hid (B1.out.below ((below_drewN (Below.refl _ w1) _).trans hb5)))
              | (go_at_call 40; refine (Hitoa.out _).mono ?_; rintro e w6 ⟨rfl, rfl⟩))
          all_goals
            go_wp2_with fail
            go_meet
            case rel => exact ⟨by simp [opPart, atOf, opText, Hit.out], B5.out⟩
        · subst ho
          have hadd1 : ∀ wx, (Op.stringOp .add ⟨#[62, 61]⟩ ⟨D.toArray⟩).run Tryz.prog wx = .ok (.string ⟨(62 :: 61 :: D).toArray⟩) wx := fun wx => by
            rw [run_string_add_sum wx _ _ (by have h1 := bs_size D; have h2 := HD.out; have h3 : ByteArray.size ⟨#[62, 61]⟩ ≤ 2 := (by decide); omega)]
            exact congrArg (fun z => Result.ok (Value.string z) wx) (bs_add _ D)
          have hadd2 : ∀ wx, (Op.stringOp .add s ⟨(62 :: 61 :: D).toArray⟩).run Tryz.prog wx = .ok (.string ⟨(s.data.toList ++ 62 :: 61 :: D).toArray⟩) wx := fun wx => by
            rw [run_string_add_sum wx _ _ (by have h1 := bs_size (62 :: 61 :: D); have h2 := HD.out; have h3 := Hsz.out; have h4 : (62 :: 61 :: D).length ≤ 4 := (by simp; omega); omega)]
            have := bs_add s.data.toList (62 :: 61 :: D)
            rw [bs_self] at this
            rw [this]
          have hidx : ∀ wx, (Instr.index 107 (.agg #[.string ⟨#[]⟩, .string ⟨#[61]⟩, .string ⟨#[62, 61]⟩, .string ⟨#[60]⟩]) (.int .i64 2)).run Tryz.prog wx = .ok (.string ⟨#[62, 61]⟩) wx := ops_at2
          go_wp2_with fail
          go_region_held3 (fun w' => w'.cell? ⟨w.heap.size, 1, none⟩ = some (.int .i64 2) ∧ w'.cell? ⟨w.heap.size, 2, none⟩ = some (.int .i64 (i : Int)))
            (first
              | go_keep
              | exact ⟨(B5.out).c1, (B5.out).c2⟩)
            (first
              | (go_at_call 138; refine (ops_any' _).mono ?_; rintro e w5 ⟨rfl, hb5⟩; have B5 := Lib.hid (B1.out.below ((below_drewN (Below.refl _ w1) _).trans hb5)))
              | (go_at_call 40; refine (Hitoa.out _).mono ?_; rintro e w6 ⟨rfl, rfl⟩))
          all_goals
            go_wp2_with fail
            go_meet
            case rel => exact ⟨by simp [opPart, atOf, opText, Hit.out], B5.out⟩
        · subst ho
          have hadd1 : ∀ wx, (Op.stringOp .add ⟨#[60]⟩ ⟨D.toArray⟩).run Tryz.prog wx = .ok (.string ⟨(60 :: D).toArray⟩) wx := fun wx => by
            rw [run_string_add_sum wx _ _ (by have h1 := bs_size D; have h2 := HD.out; have h3 : ByteArray.size ⟨#[60]⟩ ≤ 2 := (by decide); omega)]
            exact congrArg (fun z => Result.ok (Value.string z) wx) (bs_add _ D)
          have hadd2 : ∀ wx, (Op.stringOp .add s ⟨(60 :: D).toArray⟩).run Tryz.prog wx = .ok (.string ⟨(s.data.toList ++ 60 :: D).toArray⟩) wx := fun wx => by
            rw [run_string_add_sum wx _ _ (by have h1 := bs_size (60 :: D); have h2 := HD.out; have h3 := Hsz.out; have h4 : (60 :: D).length ≤ 4 := (by simp; omega); omega)]
            have := bs_add s.data.toList (60 :: D)
            rw [bs_self] at this
            rw [this]
          have hidx : ∀ wx, (Instr.index 107 (.agg #[.string ⟨#[]⟩, .string ⟨#[61]⟩, .string ⟨#[62, 61]⟩, .string ⟨#[60]⟩]) (.int .i64 3)).run Tryz.prog wx = .ok (.string ⟨#[60]⟩) wx := ops_at3
          go_wp2_with fail
          go_region_held3 (fun w' => w'.cell? ⟨w.heap.size, 1, none⟩ = some (.int .i64 3) ∧ w'.cell? ⟨w.heap.size, 2, none⟩ = some (.int .i64 (i : Int)))
            (first
              | go_keep
              | exact ⟨(B5.out).c1, (B5.out).c2⟩)
            (first
              | (go_at_call 138; refine (ops_any' _).mono ?_; rintro e w5 ⟨rfl, hb5⟩; have B5 := Lib.hid (B1.out.below ((below_drewN (Below.refl _ w1) _).trans hb5)))
              | (go_at_call 40; refine (Hitoa.out _).mono ?_; rintro e w6 ⟨rfl, rfl⟩))
          all_goals
            go_wp2_with fail
            go_meet
            case rel => exact ⟨by simp [opPart, atOf, opText, Hit.out], B5.out⟩
    case rest =>
      obtain ⟨rfl, B2⟩ := hcut
      replace B2 := Lib.hid B2
      clear B1 d0 d1 d2 d3 d4 d5
      have d0 := B2.out.c0; have d1 := B2.out.c1; have d2 := B2.out.c2; have d3 := B2.out.c3; have d4 := B2.out.c4; have d5 := B2.out.c5
      have hall : textOf (atOf s op ver slot f on) = ((atOf s op ver slot f on).nm ++ opPart (atOf s op ver slot f on)) ++ slotPart (atOf s op ver slot f on) ++ (if (atOf s op ver slot f on).fl ≠ [] then (if (atOf s op ver slot f on).on then 43 else 45) :: (atOf s op ver slot f on).fl else []) := rfl
      have hlen := textOf_len HO.out
      generalize (atOf s op ver slot f on).nm ++ opPart (atOf s op ver slot f on) = T at hall ⊢
      have HA := Lib.hid hall; clear hall
      have HL := Lib.hid hlen; clear hlen
      have HT : Hid (T.length ≤ 100) := Lib.hid (by have h1 := HL.out; rw [HA.out] at h1; simp only [List.length_append] at h1; omega)
      go_upto_if 29 with fail
      go_cut [5] (fun s5 wx => s5 = .string ⟨(T ++ slotPart (atOf s op ver slot f on)).toArray⟩ ∧ Boxed w s op ver slot f on wx)
      case first =>
        by_cases z : 0 < slot
        · obtain ⟨i, hi⟩ : ∃ i : Nat, slot = (i : Int) := ⟨slot.toNat, by omega⟩
          subst hi
          have hi : i < 100 := by have := HO.out.slot; simp only [atOf] at this; omega
          have hit : Lib.itoa (i : Int) = Lib.decDigits i := by unfold Lib.itoa; rw [if_neg (by omega)]; rfl
          have hD : (Lib.decDigits i).length ≤ 2 := by rw [← hit]; exact (itoa_len (by omega) (by omega)).2
          have hitoa := fun wx => Tryz.strconv_Itoa_small i hi wx
          have Hit := Lib.hid hit
          clear hit
          generalize Lib.decDigits i = D at hD hitoa Hit
          have HD := Lib.hid hD; clear hD
          have Hitoa := Lib.hid hitoa; clear hitoa
          have hadd1 : ∀ wx, (Op.stringOp .add ⟨#[58]⟩ ⟨D.toArray⟩).run Tryz.prog wx = .ok (.string ⟨(58 :: D).toArray⟩) wx := fun wx => by
            rw [run_string_add_sum wx _ _ (by have h1 := bs_size D; have h2 := HD.out; have h3 : ByteArray.size ⟨#[58]⟩ ≤ 2 := (by decide); omega)]
            exact congrArg (fun z => Result.ok (Value.string z) wx) (bs_add _ D)
          have hadd2 : ∀ wx, (Op.stringOp .add ⟨T.toArray⟩ ⟨(58 :: D).toArray⟩).run Tryz.prog wx = .ok (.string ⟨(T ++ 58 :: D).toArray⟩) wx := fun wx => by
            rw [run_string_add_sum wx _ _ (by have h1 := bs_size (58 :: D); have h2 := HD.out; have h3 := HT.out; have h5 := bs_size T; have h4 : (58 :: D).length ≤ 4 := (by simp; omega); omega)]
            rw [bs_add]
          have HSP : Hid (slotPart (atOf s op ver (i : Int) f on) = 58 :: D) := Lib.hid (by rw [show slotPart (atOf s op ver (i : Int) f on) = 58 :: Lib.itoa (i : Int) from if_pos z, Hit.out])
          go_wp2_with (first | (go_at_call 40; refine (Hitoa.out _).mono ?_; rintro e w6 ⟨rfl, rfl⟩))
          go_meet
          case rel => exact ⟨by rw [HSP.out], B2.out⟩
        · have z1 : decide (0 < slot) = false := by simpa using z
          have HSP : Hid (slotPart (atOf s op ver slot f on) = []) := Lib.hid (show slotPart (atOf s op ver slot f on) = [] from if_neg z)
          go_wp2
          go_meet
          case rel => exact ⟨by rw [HSP.out, List.append_nil], B2.out⟩
      case rest =>
        obtain ⟨rfl, B3⟩ := hcut
        replace B3 := Lib.hid B3
        clear B2 d0 d1 d2 d3 d4 d5
        have d0 := B3.out.c0; have d1 := B3.out.c1; have d2 := B3.out.c2; have d3 := B3.out.c3; have d4 := B3.out.c4; have d5 := B3.out.c5
        have HT2 : Hid ((T ++ slotPart (atOf s op ver slot f on)).length ≤ 100) := Lib.hid (by have h1 := HL.out; rw [HA.out] at h1; simp only [List.length_append] at h1 ⊢; omega)
        generalize T ++ slotPart (atOf s op ver slot f on) = T2 at HA HT2 ⊢
        have hE : printE (atOf s op ver slot f on) = 0 := HK.out
        have hS : printS (atOf s op ver slot f on) = textOf (atOf s op ver slot f on) := by unfold printS; rw [if_pos HK.out]
        rw [HA.out] at hS
        have HE0 := Lib.hid hE; clear hE
        have HS0 := Lib.hid hS; clear hS
        by_cases h0 : f.data.toList = []
        · obtain ⟨e1, e2⟩ := empty_spell h0
          have H0 := Lib.hid h0; clear h0
          go_wp2
          go_ret2
          exact ⟨by rw [HE0.out, HS0.out]; simp [atOf, H0.out], B3.out.b⟩
        · obtain ⟨e1, e2⟩ := full_spell h0
          have H0 := Lib.hid h0
          have hf8 : Hid (f.size ≤ 8) := Lib.hid (by have h1 := isName_len (HO.out.fl h0); have h2 : f.size = f.data.toList.length := Lib.size_eq f; have h3 : (atOf s op ver slot f on).fl = f.data.toList := rfl; rw [h3] at h1; omega)
          clear h0
          cases on
          · have hadd1 : ∀ wx, (Op.stringOp .add ⟨#[45]⟩ f).run Tryz.prog wx = .ok (.string ⟨(45 :: f.data.toList).toArray⟩) wx := fun wx => by
              rw [run_string_add_sum wx _ _ (by have h2 := hf8.out; have h3 : ByteArray.size ⟨#[45]⟩ ≤ 2 := (by decide); omega)]
              have := bs_add [45] f.data.toList
              rw [bs_self] at this
              exact congrArg (fun z => Result.ok (Value.string z) wx) this
            have hadd2 : ∀ wx, (Op.stringOp .add ⟨T2.toArray⟩ ⟨(45 :: f.data.toList).toArray⟩).run Tryz.prog wx = .ok (.string ⟨(T2 ++ 45 :: f.data.toList).toArray⟩) wx := fun wx => by
              rw [run_string_add_sum wx _ _ (by have h1 := bs_size (45 :: f.data.toList); have h2 := hf8.out; have h3 := HT2.out; have h5 := bs_size T2; have h6 : f.size = f.data.toList.length := Lib.size_eq f; have h4 : (45 :: f.data.toList).length ≤ 10 := (by rw [List.length_cons, ← h6]; omega); omega)]
              rw [bs_add]
            go_wp2
            go_ret2
            exact ⟨by have e1 := HE0.out; have e2 := HS0.out; rw [e1, e2]; simp [atOf, H0.out], B3.out.b⟩
          · have hadd1 : ∀ wx, (Op.stringOp .add ⟨#[43]⟩ f).run Tryz.prog wx = .ok (.string ⟨(43 :: f.data.toList).toArray⟩) wx := fun wx => by
              rw [run_string_add_sum wx _ _ (by have h2 := hf8.out; have h3 : ByteArray.size ⟨#[43]⟩ ≤ 2 := (by decide); omega)]
              have := bs_add [43] f.data.toList
              rw [bs_self] at this
              exact congrArg (fun z => Result.ok (Value.string z) wx) this
            have hadd2 : ∀ wx, (Op.stringOp .add ⟨T2.toArray⟩ ⟨(43 :: f.data.toList).toArray⟩).run Tryz.prog wx = .ok (.string ⟨(T2 ++ 43 :: f.data.toList).toArray⟩) wx := fun wx => by
              rw [run_string_add_sum wx _ _ (by have h1 := bs_size (43 :: f.data.toList); have h2 := hf8.out; have h3 := HT2.out; have h5 := bs_size T2; have h6 : f.size = f.data.toList.length := Lib.size_eq f; have h4 : (43 :: f.data.toList).length ≤ 10 := (by rw [List.length_cons, ← h6]; omega); omega)]
              rw [bs_add]
            go_wp2
            go_ret2
            exact ⟨by have e1 := HE0.out; have e2 := HS0.out; rw [e1, e2]; simp [atOf, H0.out], B3.out.b⟩
  · have hk1 : (ckAtom (atOf s op ver slot f on) != 0) = true := by simpa using hk
    have hk2 : (ckAtom (atOf s op ver slot f on) == 0) = false := by simpa using hk
    have HK := Lib.hid hk; clear hk
    generalize ckAtom (atOf s op ver slot f on) = r at hck hk1 hk2 HE HK
    go_enter Tryz.func109, Tryz.ntmps109
    go_wp2_with (first | (go_at_call 30; refine hck.mono ?_; rintro e w1 ⟨rfl, hb1⟩))
    go_ret2
    refine ⟨?_, (BN.out.below hb1).b⟩
    have e1 : printE (atOf s op ver slot f on) = r := HE.out
    have e2 : printS (atOf s op ver slot f on) = [] := by
      unfold printS
      rw [if_neg]
      intro h
      exact HK.out (e1.symm.trans h)
    rw [e1, e2]; rfl
end Go.Proofs.YthpkffeiehnamaaGreatDoor
