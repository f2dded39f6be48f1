/-
  No cell of these rows narrows 'for every input' (looked for: loops, veiled, ifaces, maps, wideKeys, modest, calm, conditions, laid).
  DERIVED. THE GIVEN ROWS OF THIS SEAT. 10 by the template 'for every input the law returns true; each argument reads behind the call as it read before'; 0 by the template 'total and deterministic' (their statements: YtpkbncfnkgofmaaTotals.lean).
  GIVEN WITH THE SEED: the statements are not yours to turn. If you find one false, say at which input.
  Laid BY PROGRAM, IN A SANDBOX (cutbox-rows.mjs): the forced cells as the released guide's own fill.sh prints them over the translation 11a603244101a0a1… (all of the seat's roots in one cut). By AI agents, Wed Nov 11 2026. No macro, syntax, notation, axiom, sorry.
-/
import Derived.Test.YtpkbncfnkgofmaaChecked
import GoSem.Claim
import GoSem.ClaimJoined
import GoSem.ClaimMapViews
import Derived.JoinedTies
import Derived.KernelRfl
namespace Go.Proofs.Ytpkbncfnkgofmaa
/- THE CELL 'sum', in the pinned program and in every row, IS THE sha256 OF THE DUMP (.gsa) THAT YtpkbncfnkgofmaaProg.lean LOADS. Nothing in Lean hashes anything: it is a label: what it is worth is what the hold of that sum in a sandbox is worth. -/
noncomputable def Try.pinned : Pinned := { name := "ytpkbncfnkgofmaa", sum := "11a603244101a0a17e6c5714883da6684ccaeb9e1efda781501d259a0adc1383", checked := Try.checked }
namespace Rows
def none {H : Type} : Left H := { results := [], args := [] }

/-- 'quartermasterlaw.Names': WHATEVER THE INPUT: true; the input reads as it did. -/
def namesSpec : ChangeSpec := { name := "names", fn := fun _ => fun
  | [] => { results := [.lit (.bool true)], args := [] }
  | _ => none }
def namesRow : OpenClaim := { program := "ytpkbncfnkgofmaa", sum := "11a603244101a0a17e6c5714883da6684ccaeb9e1efda781501d259a0adc1383", func := "quartermaster/quartermasterlaw.Names", spec := "names", apart := false }
def NamesSaid : Prop := namesRow.holds Try.pinned (OpenSpec.ofChange namesSpec)

/-- ITS FALSE NEIGHBOUR: 'it returns false'. Refute it at one input. -/
def namesWrong : ChangeSpec := { name := "names", fn := fun _ => fun
  | [] => { results := [.lit (.bool false)], args := [] }
  | _ => none }
def NamesWrongFalsely : Prop := namesRow.holds Try.pinned (OpenSpec.ofChange namesWrong)

/-- 'quartermasterlaw.RupSays': WHATEVER THE INPUT: true; the input reads as it did. -/
def rupSaysSpec : ChangeSpec := { name := "rupSays", fn := fun _ => fun
  | [d1, d2, d3] => { results := [.lit (.bool true)], args := [d1, d2, d3] }
  | _ => none }
def rupSaysRow : OpenClaim := { program := "ytpkbncfnkgofmaa", sum := "11a603244101a0a17e6c5714883da6684ccaeb9e1efda781501d259a0adc1383", func := "quartermaster/quartermasterlaw.RupSays", spec := "rupSays", apart := false }
def RupSaysSaid : Prop := rupSaysRow.holds Try.pinned (OpenSpec.ofChange rupSaysSpec)

/-- ITS FALSE NEIGHBOUR: 'it returns false'. Refute it at one input. -/
def rupSaysWrong : ChangeSpec := { name := "rupSays", fn := fun _ => fun
  | [d1, d2, d3] => { results := [.lit (.bool false)], args := [d1, d2, d3] }
  | _ => none }
def RupSaysWrongFalsely : Prop := rupSaysRow.holds Try.pinned (OpenSpec.ofChange rupSaysWrong)

/-- 'quartermasterlaw.RupSound': WHATEVER THE INPUT: true; the input reads as it did. -/
def rupSoundSpec : ChangeSpec := { name := "rupSound", fn := fun _ => fun
  | [d1, d2, d3] => { results := [.lit (.bool true)], args := [d1, d2, d3] }
  | _ => none }
def rupSoundRow : OpenClaim := { program := "ytpkbncfnkgofmaa", sum := "11a603244101a0a17e6c5714883da6684ccaeb9e1efda781501d259a0adc1383", func := "quartermaster/quartermasterlaw.RupSound", spec := "rupSound", unfollowed := true, recurses := true, apart := false }
def RupSoundSaid : Prop := rupSoundRow.holds Try.pinned (OpenSpec.ofChange rupSoundSpec)

/-- ITS FALSE NEIGHBOUR: 'it returns false'. Refute it at one input. -/
def rupSoundWrong : ChangeSpec := { name := "rupSound", fn := fun _ => fun
  | [d1, d2, d3] => { results := [.lit (.bool false)], args := [d1, d2, d3] }
  | _ => none }
def RupSoundWrongFalsely : Prop := rupSoundRow.holds Try.pinned (OpenSpec.ofChange rupSoundWrong)

/-- 'quartermasterlaw.CnfSays': WHATEVER THE INPUT: true; the input reads as it did. -/
def cnfSaysSpec : ChangeSpec := { name := "cnfSays", fn := fun _ => fun
  | [d1, d2, d3, d4, d5] => { results := [.lit (.bool true)], args := [d1, d2, d3, d4, d5] }
  | _ => none }
def cnfSaysRow : OpenClaim := { program := "ytpkbncfnkgofmaa", sum := "11a603244101a0a17e6c5714883da6684ccaeb9e1efda781501d259a0adc1383", func := "quartermaster/quartermasterlaw.CnfSays", spec := "cnfSays", unfollowed := true, recurses := true, apart := false }
def CnfSaysSaid : Prop := cnfSaysRow.holds Try.pinned (OpenSpec.ofChange cnfSaysSpec)

/-- ITS FALSE NEIGHBOUR: 'it returns false'. Refute it at one input. -/
def cnfSaysWrong : ChangeSpec := { name := "cnfSays", fn := fun _ => fun
  | [d1, d2, d3, d4, d5] => { results := [.lit (.bool false)], args := [d1, d2, d3, d4, d5] }
  | _ => none }
def CnfSaysWrongFalsely : Prop := cnfSaysRow.holds Try.pinned (OpenSpec.ofChange cnfSaysWrong)

/-- 'quartermasterlaw.RupMore': WHATEVER THE INPUT: true; the input reads as it did. -/
def rupMoreSpec : ChangeSpec := { name := "rupMore", fn := fun _ => fun
  | [d1, d2, d3] => { results := [.lit (.bool true)], args := [d1, d2, d3] }
  | _ => none }
def rupMoreRow : OpenClaim := { program := "ytpkbncfnkgofmaa", sum := "11a603244101a0a17e6c5714883da6684ccaeb9e1efda781501d259a0adc1383", func := "quartermaster/quartermasterlaw.RupMore", spec := "rupMore", apart := false }
def RupMoreSaid : Prop := rupMoreRow.holds Try.pinned (OpenSpec.ofChange rupMoreSpec)

/-- ITS FALSE NEIGHBOUR: 'it returns false'. Refute it at one input. -/
def rupMoreWrong : ChangeSpec := { name := "rupMore", fn := fun _ => fun
  | [d1, d2, d3] => { results := [.lit (.bool false)], args := [d1, d2, d3] }
  | _ => none }
def RupMoreWrongFalsely : Prop := rupMoreRow.holds Try.pinned (OpenSpec.ofChange rupMoreWrong)

/-- 'quartermasterlaw.CnfSound': WHATEVER THE INPUT: true; the input reads as it did. -/
def cnfSoundSpec : ChangeSpec := { name := "cnfSound", fn := fun _ => fun
  | [d1, d2, d3] => { results := [.lit (.bool true)], args := [d1, d2, d3] }
  | _ => none }
def cnfSoundRow : OpenClaim := { program := "ytpkbncfnkgofmaa", sum := "11a603244101a0a17e6c5714883da6684ccaeb9e1efda781501d259a0adc1383", func := "quartermaster/quartermasterlaw.CnfSound", spec := "cnfSound", unfollowed := true, recurses := true, apart := false }
def CnfSoundSaid : Prop := cnfSoundRow.holds Try.pinned (OpenSpec.ofChange cnfSoundSpec)

/-- ITS FALSE NEIGHBOUR: 'it returns false'. Refute it at one input. -/
def cnfSoundWrong : ChangeSpec := { name := "cnfSound", fn := fun _ => fun
  | [d1, d2, d3] => { results := [.lit (.bool false)], args := [d1, d2, d3] }
  | _ => none }
def CnfSoundWrongFalsely : Prop := cnfSoundRow.holds Try.pinned (OpenSpec.ofChange cnfSoundWrong)

/-- 'quartermasterlaw.SatSays': WHATEVER THE INPUT: true; the input reads as it did. -/
def satSaysSpec : ChangeSpec := { name := "satSays", fn := fun _ => fun
  | [d1, d2] => { results := [.lit (.bool true)], args := [d1, d2] }
  | _ => none }
def satSaysRow : OpenClaim := { program := "ytpkbncfnkgofmaa", sum := "11a603244101a0a17e6c5714883da6684ccaeb9e1efda781501d259a0adc1383", func := "quartermaster/quartermasterlaw.SatSays", spec := "satSays", unfollowed := true, recurses := true, apart := false }
def SatSaysSaid : Prop := satSaysRow.holds Try.pinned (OpenSpec.ofChange satSaysSpec)

/-- ITS FALSE NEIGHBOUR: 'it returns false'. Refute it at one input. -/
def satSaysWrong : ChangeSpec := { name := "satSays", fn := fun _ => fun
  | [d1, d2] => { results := [.lit (.bool false)], args := [d1, d2] }
  | _ => none }
def SatSaysWrongFalsely : Prop := satSaysRow.holds Try.pinned (OpenSpec.ofChange satSaysWrong)

/-- 'quartermasterlaw.CnfMore': WHATEVER THE INPUT: true; the input reads as it did. -/
def cnfMoreSpec : ChangeSpec := { name := "cnfMore", fn := fun _ => fun
  | [d1, d2, d3, d4] => { results := [.lit (.bool true)], args := [d1, d2, d3, d4] }
  | _ => none }
def cnfMoreRow : OpenClaim := { program := "ytpkbncfnkgofmaa", sum := "11a603244101a0a17e6c5714883da6684ccaeb9e1efda781501d259a0adc1383", func := "quartermaster/quartermasterlaw.CnfMore", spec := "cnfMore", unfollowed := true, recurses := true, apart := false }
def CnfMoreSaid : Prop := cnfMoreRow.holds Try.pinned (OpenSpec.ofChange cnfMoreSpec)

/-- ITS FALSE NEIGHBOUR: 'it returns false'. Refute it at one input. -/
def cnfMoreWrong : ChangeSpec := { name := "cnfMore", fn := fun _ => fun
  | [d1, d2, d3, d4] => { results := [.lit (.bool false)], args := [d1, d2, d3, d4] }
  | _ => none }
def CnfMoreWrongFalsely : Prop := cnfMoreRow.holds Try.pinned (OpenSpec.ofChange cnfMoreWrong)

/-- 'quartermasterlaw.SatNext': WHATEVER THE INPUT: true; the input reads as it did. -/
def satNextSpec : ChangeSpec := { name := "satNext", fn := fun _ => fun
  | [d1, d2] => { results := [.lit (.bool true)], args := [d1, d2] }
  | _ => none }
def satNextRow : OpenClaim := { program := "ytpkbncfnkgofmaa", sum := "11a603244101a0a17e6c5714883da6684ccaeb9e1efda781501d259a0adc1383", func := "quartermaster/quartermasterlaw.SatNext", spec := "satNext", unfollowed := true, recurses := true, apart := false }
def SatNextSaid : Prop := satNextRow.holds Try.pinned (OpenSpec.ofChange satNextSpec)

/-- ITS FALSE NEIGHBOUR: 'it returns false'. Refute it at one input. -/
def satNextWrong : ChangeSpec := { name := "satNext", fn := fun _ => fun
  | [d1, d2] => { results := [.lit (.bool false)], args := [d1, d2] }
  | _ => none }
def SatNextWrongFalsely : Prop := satNextRow.holds Try.pinned (OpenSpec.ofChange satNextWrong)

/-- 'quartermasterlaw.SatTells': WHATEVER THE INPUT: true; the input reads as it did. -/
def satTellsSpec : ChangeSpec := { name := "satTells", fn := fun _ => fun
  | [d1, d2] => { results := [.lit (.bool true)], args := [d1, d2] }
  | _ => none }
def satTellsRow : OpenClaim := { program := "ytpkbncfnkgofmaa", sum := "11a603244101a0a17e6c5714883da6684ccaeb9e1efda781501d259a0adc1383", func := "quartermaster/quartermasterlaw.SatTells", spec := "satTells", unfollowed := true, recurses := true, apart := false }
def SatTellsSaid : Prop := satTellsRow.holds Try.pinned (OpenSpec.ofChange satTellsSpec)

/-- ITS FALSE NEIGHBOUR: 'it returns false'. Refute it at one input. -/
def satTellsWrong : ChangeSpec := { name := "satTells", fn := fun _ => fun
  | [d1, d2] => { results := [.lit (.bool false)], args := [d1, d2] }
  | _ => none }
def SatTellsWrongFalsely : Prop := satTellsRow.holds Try.pinned (OpenSpec.ofChange satTellsWrong)

/- THE SECOND FORM. 'bulk': how many values and letters a reading holds, each counted each time it is reached (what is shared counts as often as it is met; a slice's spare places count too). A statement '..UptoSaid' is the law's where the arguments, and the package variables that the reading takes, are together of bulk at most 1048576: NARROWER than '..Said'. Prove '..Said' where nothing that the law and all that it calls make is longer than what came in: it says more and counts as full. Else prove '..UptoSaid'. A law counts once. -/
mutual
def uptoBulk {H : Type} : DataW H → Nat
  | .lit (.string bytes) => bytes.length + 1
  | .lit _ => 1
  | .nil => 1
  | .ptr d => uptoBulk d + 1
  | .slice elems spare => uptoBulkAll elems + uptoBulkAll spare + 1
  | .agg parts => uptoBulkAll parts + 1
  | .iface _ d => uptoBulk d + 1
  | .map entries => uptoBulkEntries entries + 1
  | .held _ => 1
def uptoBulkAll {H : Type} : List (DataW H) → Nat
  | [] => 0
  | d :: r => uptoBulk d + uptoBulkAll r
def uptoBulkEntries {H : Type} : List (Lit × DataW H) → Nat
  | [] => 0
  | x :: r => uptoBulkEntry x + uptoBulkEntries r
def uptoBulkEntry {H : Type} : Lit × DataW H → Nat
  | (.string bytes, d) => bytes.length + uptoBulk d + 1
  | (_, d) => uptoBulk d + 1
 end
def uptoSmall : (H : Type) → List (DataW H) → Bool := fun _ ds => decide (uptoBulkAll ds ≤ 1048576)
def OpenSpec.upto (s : _root_.Go.ChangeSpec) : _root_.Go.OpenSpec := { _root_.Go.OpenSpec.ofChange s with cond := some uptoSmall }

/-- 'quartermasterlaw.Names', WHERE WHAT IT READS IS OF BULK AT MOST 1048576: true; the input reads as it did. -/
def namesUptoRow : OpenClaim := { program := "ytpkbncfnkgofmaa", sum := "11a603244101a0a17e6c5714883da6684ccaeb9e1efda781501d259a0adc1383", func := "quartermaster/quartermasterlaw.Names", spec := "names", apart := false, narrowed := true }
def NamesUptoSaid : Prop := namesUptoRow.holds Try.pinned (OpenSpec.upto namesSpec)

/-- 'quartermasterlaw.RupSays', WHERE WHAT IT READS IS OF BULK AT MOST 1048576: true; the input reads as it did. -/
def rupSaysUptoRow : OpenClaim := { program := "ytpkbncfnkgofmaa", sum := "11a603244101a0a17e6c5714883da6684ccaeb9e1efda781501d259a0adc1383", func := "quartermaster/quartermasterlaw.RupSays", spec := "rupSays", apart := false, narrowed := true }
def RupSaysUptoSaid : Prop := rupSaysUptoRow.holds Try.pinned (OpenSpec.upto rupSaysSpec)

/-- 'quartermasterlaw.RupSound', WHERE WHAT IT READS IS OF BULK AT MOST 1048576: true; the input reads as it did. -/
def rupSoundUptoRow : OpenClaim := { program := "ytpkbncfnkgofmaa", sum := "11a603244101a0a17e6c5714883da6684ccaeb9e1efda781501d259a0adc1383", func := "quartermaster/quartermasterlaw.RupSound", spec := "rupSound", unfollowed := true, recurses := true, apart := false, narrowed := true }
def RupSoundUptoSaid : Prop := rupSoundUptoRow.holds Try.pinned (OpenSpec.upto rupSoundSpec)

/-- 'quartermasterlaw.CnfSays', WHERE WHAT IT READS IS OF BULK AT MOST 1048576: true; the input reads as it did. -/
def cnfSaysUptoRow : OpenClaim := { program := "ytpkbncfnkgofmaa", sum := "11a603244101a0a17e6c5714883da6684ccaeb9e1efda781501d259a0adc1383", func := "quartermaster/quartermasterlaw.CnfSays", spec := "cnfSays", unfollowed := true, recurses := true, apart := false, narrowed := true }
def CnfSaysUptoSaid : Prop := cnfSaysUptoRow.holds Try.pinned (OpenSpec.upto cnfSaysSpec)

/-- 'quartermasterlaw.RupMore', WHERE WHAT IT READS IS OF BULK AT MOST 1048576: true; the input reads as it did. -/
def rupMoreUptoRow : OpenClaim := { program := "ytpkbncfnkgofmaa", sum := "11a603244101a0a17e6c5714883da6684ccaeb9e1efda781501d259a0adc1383", func := "quartermaster/quartermasterlaw.RupMore", spec := "rupMore", apart := false, narrowed := true }
def RupMoreUptoSaid : Prop := rupMoreUptoRow.holds Try.pinned (OpenSpec.upto rupMoreSpec)

/-- 'quartermasterlaw.CnfSound', WHERE WHAT IT READS IS OF BULK AT MOST 1048576: true; the input reads as it did. -/
def cnfSoundUptoRow : OpenClaim := { program := "ytpkbncfnkgofmaa", sum := "11a603244101a0a17e6c5714883da6684ccaeb9e1efda781501d259a0adc1383", func := "quartermaster/quartermasterlaw.CnfSound", spec := "cnfSound", unfollowed := true, recurses := true, apart := false, narrowed := true }
def CnfSoundUptoSaid : Prop := cnfSoundUptoRow.holds Try.pinned (OpenSpec.upto cnfSoundSpec)

/-- 'quartermasterlaw.SatSays', WHERE WHAT IT READS IS OF BULK AT MOST 1048576: true; the input reads as it did. -/
def satSaysUptoRow : OpenClaim := { program := "ytpkbncfnkgofmaa", sum := "11a603244101a0a17e6c5714883da6684ccaeb9e1efda781501d259a0adc1383", func := "quartermaster/quartermasterlaw.SatSays", spec := "satSays", unfollowed := true, recurses := true, apart := false, narrowed := true }
def SatSaysUptoSaid : Prop := satSaysUptoRow.holds Try.pinned (OpenSpec.upto satSaysSpec)

/-- 'quartermasterlaw.CnfMore', WHERE WHAT IT READS IS OF BULK AT MOST 1048576: true; the input reads as it did. -/
def cnfMoreUptoRow : OpenClaim := { program := "ytpkbncfnkgofmaa", sum := "11a603244101a0a17e6c5714883da6684ccaeb9e1efda781501d259a0adc1383", func := "quartermaster/quartermasterlaw.CnfMore", spec := "cnfMore", unfollowed := true, recurses := true, apart := false, narrowed := true }
def CnfMoreUptoSaid : Prop := cnfMoreUptoRow.holds Try.pinned (OpenSpec.upto cnfMoreSpec)

/-- 'quartermasterlaw.SatNext', WHERE WHAT IT READS IS OF BULK AT MOST 1048576: true; the input reads as it did. -/
def satNextUptoRow : OpenClaim := { program := "ytpkbncfnkgofmaa", sum := "11a603244101a0a17e6c5714883da6684ccaeb9e1efda781501d259a0adc1383", func := "quartermaster/quartermasterlaw.SatNext", spec := "satNext", unfollowed := true, recurses := true, apart := false, narrowed := true }
def SatNextUptoSaid : Prop := satNextUptoRow.holds Try.pinned (OpenSpec.upto satNextSpec)

/-- 'quartermasterlaw.SatTells', WHERE WHAT IT READS IS OF BULK AT MOST 1048576: true; the input reads as it did. -/
def satTellsUptoRow : OpenClaim := { program := "ytpkbncfnkgofmaa", sum := "11a603244101a0a17e6c5714883da6684ccaeb9e1efda781501d259a0adc1383", func := "quartermaster/quartermasterlaw.SatTells", spec := "satTells", unfollowed := true, recurses := true, apart := false, narrowed := true }
def SatTellsUptoSaid : Prop := satTellsUptoRow.holds Try.pinned (OpenSpec.upto satTellsSpec)

end Rows
end Go.Proofs.Ytpkbncfnkgofmaa
