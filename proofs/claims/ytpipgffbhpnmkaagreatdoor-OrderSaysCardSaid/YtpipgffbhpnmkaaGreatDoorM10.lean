/- Parts of the proof: walks and plain laws, side by side. -/
import Derived.Deep.RegionHeld3
import Derived.Test.YtpipgffbhpnmkaaGreatDoorM1
set_option linter.unusedVariables false
set_option linter.unusedSimpArgs false
set_option linter.unusedSectionVars false
namespace Go.Proofs.YtpipgffbhpnmkaaGreatDoor
/- A region's operations by their places in the written-out row. -/
section
theorem held_at0 {o0 : Oper} {r : List Oper} : (List.toArray (o0 :: r))[0]? = some o0 := rfl
theorem held_at1 {o0 o1 : Oper} {r : List Oper} : (List.toArray (o0 :: o1 :: r))[1]? = some o1 := rfl
theorem held_at2 {o0 o1 o2 : Oper} {r : List Oper} : (List.toArray (o0 :: o1 :: o2 :: r))[2]? = some o2 := rfl
theorem held_at3 {o0 o1 o2 o3 : Oper} {r : List Oper} : (List.toArray (o0 :: o1 :: o2 :: o3 :: r))[3]? = some o3 := rfl
theorem held_at4 {o0 o1 o2 o3 o4 : Oper} {r : List Oper} : (List.toArray (o0 :: o1 :: o2 :: o3 :: o4 :: r))[4]? = some o4 := rfl
theorem held_at5 {o0 o1 o2 o3 o4 o5 : Oper} {r : List Oper} : (List.toArray (o0 :: o1 :: o2 :: o3 :: o4 :: o5 :: r))[5]? = some o5 := rfl
theorem held_at6 {o0 o1 o2 o3 o4 o5 o6 : Oper} {r : List Oper} : (List.toArray (o0 :: o1 :: o2 :: o3 :: o4 :: o5 :: o6 :: r))[6]? = some o6 := rfl
theorem held_at7 {o0 o1 o2 o3 o4 o5 o6 o7 : Oper} {r : List Oper} : (List.toArray (o0 :: o1 :: o2 :: o3 :: o4 :: o5 :: o6 :: o7 :: r))[7]? = some o7 := rfl
theorem held_at8 {o0 o1 o2 o3 o4 o5 o6 o7 o8 : Oper} {r : List Oper} : (List.toArray (o0 :: o1 :: o2 :: o3 :: o4 :: o5 :: o6 :: o7 :: o8 :: r))[8]? = some o8 := rfl
theorem held_at9 {o0 o1 o2 o3 o4 o5 o6 o7 o8 o9 : Oper} {r : List Oper} : (List.toArray (o0 :: o1 :: o2 :: o3 :: o4 :: o5 :: o6 :: o7 :: o8 :: o9 :: r))[9]? = some o9 := rfl
theorem held_at10 {o0 o1 o2 o3 o4 o5 o6 o7 o8 o9 o10 : Oper} {r : List Oper} : (List.toArray (o0 :: o1 :: o2 :: o3 :: o4 :: o5 :: o6 :: o7 :: o8 :: o9 :: o10 :: r))[10]? = some o10 := rfl
theorem held_at11 {o0 o1 o2 o3 o4 o5 o6 o7 o8 o9 o10 o11 : Oper} {r : List Oper} : (List.toArray (o0 :: o1 :: o2 :: o3 :: o4 :: o5 :: o6 :: o7 :: o8 :: o9 :: o10 :: o11 :: r))[11]? = some o11 := rfl
theorem held_at12 {o0 o1 o2 o3 o4 o5 o6 o7 o8 o9 o10 o11 o12 : Oper} {r : List Oper} : (List.toArray (o0 :: o1 :: o2 :: o3 :: o4 :: o5 :: o6 :: o7 :: o8 :: o9 :: o10 :: o11 :: o12 :: r))[12]? = some o12 := rfl
theorem held_at13 {o0 o1 o2 o3 o4 o5 o6 o7 o8 o9 o10 o11 o12 o13 : Oper} {r : List Oper} : (List.toArray (o0 :: o1 :: o2 :: o3 :: o4 :: o5 :: o6 :: o7 :: o8 :: o9 :: o10 :: o11 :: o12 :: o13 :: r))[13]? = some o13 := rfl
theorem held_at14 {o0 o1 o2 o3 o4 o5 o6 o7 o8 o9 o10 o11 o12 o13 o14 : Oper} {r : List Oper} : (List.toArray (o0 :: o1 :: o2 :: o3 :: o4 :: o5 :: o6 :: o7 :: o8 :: o9 :: o10 :: o11 :: o12 :: o13 :: o14 :: r))[14]? = some o14 := rfl
section
variable {P : Program} {ops : Array Oper} {Q : Exit → Act → World → Prop} {md : Region.Mode} {S : World → Prop} {i : Nat} {oi : Oper} {v : Value} {fuel : Nat} {listed : Array Bool} {a : Act} {w : World}
theorem tkA (hi : ops[i]? = some oi) (hy : ∀ w, S w → (execOp a.eval oi).run P w = .ok (.value v) w) (h : wpAnyH P md ops Q S fuel (listed.setIfInBounds i true) (a.put oi.dst v) w)
  (hs : Region.noSelect ops = true := by kernel_rfl) (hf : Region.free md ops listed i = true := by kernel_rfl) (hr : (Region.ready md ops listed).contains i = true := by kernel_rfl) (hQ : ∀ c a w, Q (.panic c) (a.put oi.dst v) w → Q (.panic c) a w := by exact fun _ _ _ h => h)
  (hw : Region.wanted oi (yielded ops a.tmps) = true := by rfl) (hS : S w := by assumption) : wpAnyH P md ops Q S (fuel + 1) listed a w := wpAnyH_take hi hs hf hr hQ (Or.inl ⟨hw, hy⟩) hS h
theorem tkB (hi : ops[i]? = some oi) (h : wpAnyH P md ops Q S fuel (listed.setIfInBounds i true) (a.put oi.dst undef) w)
  (hs : Region.noSelect ops = true := by kernel_rfl) (hf : Region.free md ops listed i = true := by kernel_rfl) (hr : (Region.ready md ops listed).contains i = true := by kernel_rfl) (hQ : ∀ c a w, Q (.panic c) (a.put oi.dst undef) w → Q (.panic c) a w := by exact fun _ _ _ h => h)
  (hw : Region.wanted oi (yielded ops a.tmps) = false := by rfl) (hS : S w := by assumption) : wpAnyH P md ops Q S (fuel + 1) listed a w := wpAnyH_take hi hs hf hr hQ (Or.inr ⟨hw, rfl⟩) hS h
end
end
end Go.Proofs.YtpipgffbhpnmkaaGreatDoor
