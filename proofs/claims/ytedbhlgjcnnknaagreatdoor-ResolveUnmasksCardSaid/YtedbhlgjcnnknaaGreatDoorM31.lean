/- Parts of the proof: walks and plain laws, side by side. -/
import Derived.Test.YtedbhlgjcnnknaaGreatDoorM18
import Derived.Test.YtedbhlgjcnnknaaGreatDoorM30
import Derived.Test.YtedbhlgjcnnknaaGreatDoorM1
import Derived.HandedShaped
import Derived.Handed
import Derived.Shelf.Vars
set_option linter.unusedVariables false
set_option linter.unusedSimpArgs false
set_option linter.unusedSectionVars false
namespace Go.Proofs.YtedbhlgjcnnknaaGreatDoor
/- Arguments that can be read as sets of members, as wishes, opened. -/
section
open Go.ChangeShapes Go.WideShapes Go.ChangeAt Go.RowKit Qm

theorem flat_ones {α : Type} {f : α → Value} : ∀ {cs : List (List Value)} {ys : List α}, cs.length = ys.length → (∀ (j : Nat) (x : List Value) (y : α), cs[j]? = some x → ys[j]? = some y → x = [f y]) → cs.flatten = ys.map f
 | [], [], _, _ => rfl
 | [], _ :: _, h, _ => by simp at h
 | _ :: _, [], h, _ => by simp at h
 | r :: rs, y :: ys, h, hR => by
  rw [List.flatten_cons, hR 0 r y rfl rfl, flat_ones (f := f) (cs := rs) (ys := ys) (by simpa using h) fun j x z h1 h2 => hR (j + 1) x z (by simpa using h1) (by simpa using h2)]; rfl
section
variable {H : Type} {enc : TypeId × Value → H} {w : World} {base : Nat} {sp : Nat → Bool} {held : Bool}
theorem open_ones {α : Type} {f : α → Value} {t e : TypeId} {fuel : Nat} {v : Value} {x : DataW H × List MemPlace} (ht : Tryz.prog.underlying t = some (.slice e)) (hK : Tryz.prog.cellsOf e = 1)
  (h : DataW.trod enc Tryz.prog w base sp held fuel t [v] = some x) (hR : ∀ m (x : List Value) y, m < fuel → DataW.trod enc Tryz.prog w base sp held m e x = some y → ∃ z, x = [f z]) :
  ∃ (A : Option Addr) (n c : Nat) (ys : List α), v = .slice A n c ∧ n ≤ c ∧ c ≤ maxLen ∧ Row w (fun k => k < w.heap.size) A n (ys.map f) := by
 obtain ⟨A, n, c, ys, rfl, h1, h2, cs, hy, hc, hrow, _, hr⟩ := open_seq (R := fun x z => x = [f z]) ht hK (by decide) h hR
 refine ⟨A, n, c, ys, rfl, h1, h2, ?_⟩
 rw [← flat_ones (by omega) hr]
 simpa using hrow
theorem open_boolsV {fuel : Nat} {v : Value} {x : DataW H × List MemPlace} (h : DataW.trod enc Tryz.prog w base sp held fuel 40 [v] = some x) :
  ∃ (A : Option Addr) (n c : Nat) (ys : List Bool), v = .slice A n c ∧ n ≤ c ∧ c ≤ maxLen ∧ RBools w (fun k => k < w.heap.size) A n ys :=
 open_ones (f := Value.bool) Tryz.underlying40 (by kernel_rfl) h fun m x y _ hxy => by
  obtain ⟨b, e, _⟩ := DataW.trod_bool Tryz.underlying4 hxy
  exact ⟨b, e⟩
theorem open_intsV {fuel : Nat} {v : Value} {x : DataW H × List MemPlace} (h : DataW.trod enc Tryz.prog w base sp held fuel 27 [v] = some x) :
  ∃ (A : Option Addr) (n c : Nat) (ys : List Int), v = .slice A n c ∧ n ≤ c ∧ c ≤ maxLen ∧ RInts w (fun k => k < w.heap.size) A n ys :=
 open_ones (f := Value.int .i64) Tryz.underlying27 (by kernel_rfl) h fun m x y _ hxy => by
  obtain ⟨b, e, _⟩ := DataW.trod_int Tryz.underlying3 hxy
  exact ⟨b, e⟩
set_option maxRecDepth 100000 in
theorem member_cells {fuel : Nat} {cs : List Value} {x : DataW H × List MemPlace} (h : DataW.trod enc Tryz.prog w base sp held fuel 85 cs = some x) :
  ∃ m, RMem w (fun k => k < w.heap.size) cs m := by
 have hT := Tryz.underlying85
 obtain ⟨xs, n, hfu, _, hlen, hxl, hx⟩ := DataW.trod_struct hT h
 have hl : cs.length = 2 := by rw [hlen]; kernel_rfl
 obtain ⟨c0, n0, y0, e0, k0⟩ := field_cell hT h 0 rfl (by kernel_rfl) (of_decide_eq_true (by kernel_rfl))
 obtain ⟨c1, n1, y1, e1, k1⟩ := field_cell hT h 1 rfl (by kernel_rfl) (of_decide_eq_true (by kernel_rfl))
 obtain ⟨pl, rfl, _⟩ := int_oneA Tryz.underlying3 k0
 obtain ⟨A, m, c, on, rfl, hm, hc, hon⟩ := open_boolsV k1
 refine ⟨⟨pl, on⟩, A, m, c, ?_, hm, hc, hon⟩
 match cs, hl with
 | [d0, d1], _ =>
  have e0' : d0 = .int .i64 pl := by simpa using e0
  have e1' : d1 = .slice A m c := by simpa using e1
  subst e0' e1'; rfl
set_option maxRecDepth 100000 in
theorem open_setV {fuel : Nat} {v : Value} {x : DataW H × List MemPlace} (h : DataW.trod enc Tryz.prog w base sp held fuel 26 [v] = some x) :
  ∃ (A : Option Addr) (n c : Nat) (l : List Mem), v = .slice A n c ∧ n ≤ c ∧ c ≤ maxLen ∧ RSet w (fun k => k < w.heap.size) A n l := by
 obtain ⟨A, n, c, l, e, h1, h2, h3⟩ := open_seq (R := RMem w (fun k => k < w.heap.size)) Tryz.underlying26 (K := 2) (by kernel_rfl) (by decide) h fun m x y _ hxy => member_cells hxy
 exact ⟨A, n, c, l, e, h1, h2, h3⟩
set_option maxRecDepth 100000 in
theorem pair_cells {fuel : Nat} {cs : List Value} {x : DataW H × List MemPlace} (h : DataW.trod enc Tryz.prog w base sp held fuel 86 cs = some x) : ∃ q, RPair cs q := by
 obtain ⟨xs, m, _, ex, hlen, hl, hel⟩ := DataW.trod_array Tryz.underlying86 h
 have c1 : Tryz.prog.cellsOf 3 = 1 := by kernel_rfl
 have c2 : Tryz.prog.cellsOf 86 = 2 := by kernel_rfl
 rw [c2] at hlen
 have h0 := hel 0 (by decide)
 have h1 := hel 1 (by decide)
 rw [c1, List.getElem?_eq_getElem (by omega)] at h0 h1
 match cs, hlen with
 | [a, b], _ =>
  obtain ⟨x0, rfl, _⟩ := int_oneA Tryz.underlying3 (c := a) h0
  obtain ⟨x1, rfl, _⟩ := int_oneA Tryz.underlying3 (c := b) h1
  exact ⟨(x0, x1), rfl⟩
set_option maxRecDepth 100000 in
theorem wish_cells {fuel : Nat} {cs : List Value} {x : DataW H × List MemPlace} (h : DataW.trod enc Tryz.prog w base sp held fuel 30 cs = some x) :
  ∃ v, RWs w (fun k => k < w.heap.size) cs v := by
 have hT := Tryz.underlying30
 obtain ⟨xs, n, hfu, _, hlen, hxl, hx⟩ := DataW.trod_struct hT h
 have hl : cs.length = 4 := by rw [hlen]; kernel_rfl
 obtain ⟨d0, n0, y0, e0, k0⟩ := field_cell hT h 0 rfl (by kernel_rfl) (of_decide_eq_true (by kernel_rfl))
 obtain ⟨d1, n1, y1, e1, k1⟩ := field_cell hT h 1 rfl (by kernel_rfl) (of_decide_eq_true (by kernel_rfl))
 obtain ⟨d2, n2, y2, e2, k2⟩ := field_cell hT h 2 rfl (by kernel_rfl) (of_decide_eq_true (by kernel_rfl))
 obtain ⟨d3, n3, y3, e3, k3⟩ := field_cell hT h 3 rfl (by kernel_rfl) (of_decide_eq_true (by kernel_rfl))
 obtain ⟨A1, m1, c1, ts, rfl, a1, a2, a3⟩ := open_seq (R := RAt) Tryz.underlying25 (K := 6) (by kernel_rfl) (by decide) k0 fun m x y _ hxy => by
  obtain ⟨s, f, op, ver, slot, on, rfl, hs, hf, _⟩ := atom_cells hxy
  exact ⟨⟨s.data.toList, op, ver, slot, f.data.toList, on⟩, by unfold atRow; rw [← bs_list, ← bs_list], by rw [← Lib.size_eq]; exact hs, by rw [← Lib.size_eq]; exact hf⟩
 obtain ⟨A2, m2, c2, ins, rfl, b1, b2, b3⟩ := open_setV k1
 obtain ⟨A3, m3, c3, ms, rfl, g1, g2, g3⟩ := open_intsV k2
 obtain ⟨A4, m4, c4, on, rfl, f1, f2, f3⟩ := open_seq (R := RPair) Tryz.underlying28 (K := 2) (by kernel_rfl) (by decide) k3 fun m x y _ hxy => pair_cells hxy
 refine ⟨⟨ts, ins, ms, on⟩, A1, m1, c1, A2, m2, c2, A3, m3, c3, A4, m4, c4, ?_, ⟨⟨a1, a2⟩, ⟨b1, b2⟩, ⟨g1, g2⟩, ⟨f1, f2⟩, a3, b3, g3, f3⟩⟩
 match cs, hl with
 | [z0, z1, z2, z3], _ =>
  have e0' : z0 = .slice A1 m1 c1 := by simpa using e0
  have e1' : z1 = .slice A2 m2 c2 := by simpa using e1
  have e2' : z2 = .slice A3 m3 c3 := by simpa using e2
  have e3' : z3 = .slice A4 m4 c4 := by simpa using e3
  subst e0' e1' e2' e3'; rfl
set_option maxRecDepth 100000 in
theorem open_wish {r : Reach} {b0 : Nat} {v : Value} {d : DataW H} {p : List MemPlace} (hv : Value.okWide Tryz.prog w r b0 30 v) (h : DataW.Trod enc Tryz.prog w base sp held 30 v d p) :
  ∃ A1 n1 c1 A2 n2 c2 A3 n3 c3 A4 n4 c4 u, v = .agg #[.slice A1 n1 c1, .slice A2 n2 c2, .slice A3 n3 c3, .slice A4 n4 c4] ∧ WsAt w (fun k => k < w.heap.size) A1 n1 c1 A2 n2 c2 A3 n3 c3 A4 n4 c4 u := by
 obtain ⟨cs, rfl, _⟩ := okWide_struct Tryz.underlying30 hv
 obtain ⟨fuel, hf⟩ := h
 obtain ⟨u, A1, n1, c1, A2, n2, c2, A3, n3, c3, A4, n4, c4, e, hu⟩ := wish_cells hf
 refine ⟨A1, n1, c1, A2, n2, c2, A3, n3, c3, A4, n4, c4, u, ?_, hu⟩
 obtain ⟨l⟩ := cs
 simp only [Value.cells, wsRow] at e
 subst e
 rfl
end
end
/- The frame of a row that lists variables, and hands the world's shape on. -/
section
open Go.ChangeShapes Go.WideShapes Go.RowKit
variable {H : Type} {enc : TypeId × Value → H}

theorem handed_laid_shaped {a : Assume} {C : Checked} {os : Os} {f : FuncId} {fn : Func} {s : ChangeSpec} {conds : List PathCond} {apart fresh handsOn again : Bool} {X : World → Array Value → Prop}
  (hX : ∀ (w w' : World) (args : Array Value), w.heap = w'.heap → X w args → X w' args)
  (own : ownKnob C.prog.godebug = none) (started : os.Started) (noInit : C.prog.inits.idxOf? f = none) (hfn : C.prog.funcs[f]? = some fn)
  (witness : ∃ (w : World) (tape : Tape) (i : Input), w.os = os ∧ (w.forCall tape i).Shaped C.prog ∧ i.vars = [] ∧ Input.okWide C.prog (w.forCall tape i) .any w.heap.size f i ∧
   ((s.pre enc C.prog fn conds apart (w.forCall tape i).memory i.args ∧ X (w.forCall tape i).memory i.args) ∧ sizedMet enc C.prog fn (OpenSpec.ofChange s) apart (w.forCall tape i).memory i.args) ∧ a.holds C.prog (lone (Frame.enter C.prog f i.args .normal) [] (w.forCall tape i)))
  (walk : ∀ (W : World) (base : Nat) (args : Array Value) (ds gs : List (DataW H)) (before : List MemPlace),
   (∀ (j : Nat) t v, fn.params[j]? = some t → args[j]? = some v → Value.okWide C.prog W .any base t v) →
   DataW.Whole enc C.prog fn.params.toList s.vars apart W args.toList ds gs before →
   (DataW.weightsEach C.prog (fn.params.toList ++ s.plain.varTypes C.prog) (ds ++ gs)).all (· ≤ reachBytes) = true → X W args → W.ShapedOpen C.prog →
   Calls C.prog f args W fun e W' => ∃ v, e = .returned v ∧ s.post enc C.prog fn apart fresh handsOn again W args v W') :
  ReturnsInHanded a C os f .any (fun w args => (s.pre enc C.prog fn conds apart w args ∧ X w args) ∧ sizedMet enc C.prog fn (OpenSpec.ofChange s) apart w args) (s.post enc C.prog fn apart fresh handsOn again) :=
 returnsInHanded_of_calls own started noInit witness fun w tape i _ hsh _ hok hpre _ => by
  obtain ⟨_, _, _, fn', hfn', _, _, _, _, hval⟩ := hok
  obtain rfl : fn' = fn := Option.some.inj (hfn'.symm.trans hfn)
  obtain ⟨⟨⟨ds, gs, before, hw, _⟩, hx⟩, hz⟩ := hpre
  refine (walk (w.forCall tape i) w.heap.size i.args ds gs before hval (DataW.Whole.of_heap (w' := w.forCall tape i) (by rfl) hw) (hz.weights hw) (hX _ _ _ (by rfl) hx) hsh).mono ?_
  rintro e W' ⟨v, rfl, hp⟩
  exact ChangeSpec.post_blind hp
end
end Go.Proofs.YtedbhlgjcnnknaaGreatDoor
