/-
  No cell of these rows narrows 'for every input' (looked for: loops, veiled, ifaces, maps, wideKeys, modest, calm, conditions, laid).
  DERIVED. THE GIVEN ROWS OF THIS SEAT. 7 by the template 'for every input the law returns true; each argument reads behind the call as it read before'; 0 by the template 'total and deterministic' (their statements: YtelelaaijfjjkaaTotals.lean).
  GIVEN WITH THE SEED: the statements are not yours to turn. If you find one false, say at which input.
  Laid BY PROGRAM, IN A SANDBOX (cutbox-rows.mjs): the forced cells as the released guide's own fill.sh prints them over the translation 2e4a73684aa6e250… (all of the seat's roots in one cut). By AI agents, Wed Nov 11 2026. No macro, syntax, notation, axiom, sorry.
-/
import Derived.Test.YtelelaaijfjjkaaChecked
import GoSem.Claim
import GoSem.ClaimJoined
import GoSem.ClaimMapViews
import Derived.JoinedTies
import Derived.KernelRfl
namespace Go.Proofs.Ytelelaaijfjjkaa
/- THE CELL 'sum', in the pinned program and in every row, IS THE sha256 OF THE DUMP (.gsa) THAT YtelelaaijfjjkaaProg.lean LOADS. Nothing in Lean hashes anything: it is a label: what it is worth is what the hold of that sum in a sandbox is worth. -/
noncomputable def Try.pinned : Pinned := { name := "ytelelaaijfjjkaa", sum := "2e4a73684aa6e250a7a9e545b35ed10cacb2980567cbeeadb2307e06b3c1c879", checked := Try.checked }
namespace Rows
def none {H : Type} : Left H := { results := [], args := [] }

/-- 'homehublaw03.DigestChecks': WHATEVER THE INPUT: true; the input reads as it did. -/
def digestChecksSpec : ChangeSpec := { name := "digestChecks", fn := fun _ => fun
  | [d] => { results := [.lit (.bool true)], args := [d] }
  | _ => none }
def digestChecksRow : OpenClaim := { program := "ytelelaaijfjjkaa", sum := "2e4a73684aa6e250a7a9e545b35ed10cacb2980567cbeeadb2307e06b3c1c879", func := "homehub/homehublaw03.DigestChecks", spec := "digestChecks", apart := false }
def DigestChecksSaid : Prop := digestChecksRow.holds Try.pinned (OpenSpec.ofChange digestChecksSpec)

/-- ITS FALSE NEIGHBOUR: 'it returns false'. Refute it at one input. -/
def digestChecksWrong : ChangeSpec := { name := "digestChecks", fn := fun _ => fun
  | [d] => { results := [.lit (.bool false)], args := [d] }
  | _ => none }
def DigestChecksWrongFalsely : Prop := digestChecksRow.holds Try.pinned (OpenSpec.ofChange digestChecksWrong)

/-- 'homehublaw03.DigestSeals': WHATEVER THE INPUT: true; the input reads as it did. -/
def digestSealsSpec : ChangeSpec := { name := "digestSeals", fn := fun _ => fun
  | [d1, d2] => { results := [.lit (.bool true)], args := [d1, d2] }
  | _ => none }
def digestSealsRow : OpenClaim := { program := "ytelelaaijfjjkaa", sum := "2e4a73684aa6e250a7a9e545b35ed10cacb2980567cbeeadb2307e06b3c1c879", func := "homehub/homehublaw03.DigestSeals", spec := "digestSeals", apart := false }
def DigestSealsSaid : Prop := digestSealsRow.holds Try.pinned (OpenSpec.ofChange digestSealsSpec)

/-- ITS FALSE NEIGHBOUR: 'it returns false'. Refute it at one input. -/
def digestSealsWrong : ChangeSpec := { name := "digestSeals", fn := fun _ => fun
  | [d1, d2] => { results := [.lit (.bool false)], args := [d1, d2] }
  | _ => none }
def DigestSealsWrongFalsely : Prop := digestSealsRow.holds Try.pinned (OpenSpec.ofChange digestSealsWrong)

/-- 'homehublaw03.DigestOpens': WHATEVER THE INPUT: true; the input reads as it did. -/
def digestOpensSpec : ChangeSpec := { name := "digestOpens", fn := fun _ => fun
  | [d1, d2, d3, d4] => { results := [.lit (.bool true)], args := [d1, d2, d3, d4] }
  | _ => none }
def digestOpensRow : OpenClaim := { program := "ytelelaaijfjjkaa", sum := "2e4a73684aa6e250a7a9e545b35ed10cacb2980567cbeeadb2307e06b3c1c879", func := "homehub/homehublaw03.DigestOpens", spec := "digestOpens", apart := false }
def DigestOpensSaid : Prop := digestOpensRow.holds Try.pinned (OpenSpec.ofChange digestOpensSpec)

/-- ITS FALSE NEIGHBOUR: 'it returns false'. Refute it at one input. -/
def digestOpensWrong : ChangeSpec := { name := "digestOpens", fn := fun _ => fun
  | [d1, d2, d3, d4] => { results := [.lit (.bool false)], args := [d1, d2, d3, d4] }
  | _ => none }
def DigestOpensWrongFalsely : Prop := digestOpensRow.holds Try.pinned (OpenSpec.ofChange digestOpensWrong)

/-- 'homehublaw03.DigestReturns': WHATEVER THE INPUT: true; the input reads as it did. -/
def digestReturnsSpec : ChangeSpec := { name := "digestReturns", fn := fun _ => fun
  | [d1, d2, d3] => { results := [.lit (.bool true)], args := [d1, d2, d3] }
  | _ => none }
def digestReturnsRow : OpenClaim := { program := "ytelelaaijfjjkaa", sum := "2e4a73684aa6e250a7a9e545b35ed10cacb2980567cbeeadb2307e06b3c1c879", func := "homehub/homehublaw03.DigestReturns", spec := "digestReturns", apart := false }
def DigestReturnsSaid : Prop := digestReturnsRow.holds Try.pinned (OpenSpec.ofChange digestReturnsSpec)

/-- ITS FALSE NEIGHBOUR: 'it returns false'. Refute it at one input. -/
def digestReturnsWrong : ChangeSpec := { name := "digestReturns", fn := fun _ => fun
  | [d1, d2, d3] => { results := [.lit (.bool false)], args := [d1, d2, d3] }
  | _ => none }
def DigestReturnsWrongFalsely : Prop := digestReturnsRow.holds Try.pinned (OpenSpec.ofChange digestReturnsWrong)

/-- 'homehublaw03.DigestLinear': WHATEVER THE INPUT: true; the input reads as it did. -/
def digestLinearSpec : ChangeSpec := { name := "digestLinear", fn := fun _ => fun
  | [d1, d2, d3] => { results := [.lit (.bool true)], args := [d1, d2, d3] }
  | _ => none }
def digestLinearRow : OpenClaim := { program := "ytelelaaijfjjkaa", sum := "2e4a73684aa6e250a7a9e545b35ed10cacb2980567cbeeadb2307e06b3c1c879", func := "homehub/homehublaw03.DigestLinear", spec := "digestLinear", apart := false }
def DigestLinearSaid : Prop := digestLinearRow.holds Try.pinned (OpenSpec.ofChange digestLinearSpec)

/-- ITS FALSE NEIGHBOUR: 'it returns false'. Refute it at one input. -/
def digestLinearWrong : ChangeSpec := { name := "digestLinear", fn := fun _ => fun
  | [d1, d2, d3] => { results := [.lit (.bool false)], args := [d1, d2, d3] }
  | _ => none }
def DigestLinearWrongFalsely : Prop := digestLinearRow.holds Try.pinned (OpenSpec.ofChange digestLinearWrong)

/-- 'homehublaw03.DigestBursts': WHATEVER THE INPUT: true; the input reads as it did. -/
def digestBurstsSpec : ChangeSpec := { name := "digestBursts", fn := fun _ => fun
  | [d1, d2, d3] => { results := [.lit (.bool true)], args := [d1, d2, d3] }
  | _ => none }
def digestBurstsRow : OpenClaim := { program := "ytelelaaijfjjkaa", sum := "2e4a73684aa6e250a7a9e545b35ed10cacb2980567cbeeadb2307e06b3c1c879", func := "homehub/homehublaw03.DigestBursts", spec := "digestBursts", apart := false }
def DigestBurstsSaid : Prop := digestBurstsRow.holds Try.pinned (OpenSpec.ofChange digestBurstsSpec)

/-- ITS FALSE NEIGHBOUR: 'it returns false'. Refute it at one input. -/
def digestBurstsWrong : ChangeSpec := { name := "digestBursts", fn := fun _ => fun
  | [d1, d2, d3] => { results := [.lit (.bool false)], args := [d1, d2, d3] }
  | _ => none }
def DigestBurstsWrongFalsely : Prop := digestBurstsRow.holds Try.pinned (OpenSpec.ofChange digestBurstsWrong)

/-- 'homehublaw03.DigestExtends': WHATEVER THE INPUT: true; the input reads as it did. -/
def digestExtendsSpec : ChangeSpec := { name := "digestExtends", fn := fun _ => fun
  | [d1, d2] => { results := [.lit (.bool true)], args := [d1, d2] }
  | _ => none }
def digestExtendsRow : OpenClaim := { program := "ytelelaaijfjjkaa", sum := "2e4a73684aa6e250a7a9e545b35ed10cacb2980567cbeeadb2307e06b3c1c879", func := "homehub/homehublaw03.DigestExtends", spec := "digestExtends", apart := false }
def DigestExtendsSaid : Prop := digestExtendsRow.holds Try.pinned (OpenSpec.ofChange digestExtendsSpec)

/-- ITS FALSE NEIGHBOUR: 'it returns false'. Refute it at one input. -/
def digestExtendsWrong : ChangeSpec := { name := "digestExtends", fn := fun _ => fun
  | [d1, d2] => { results := [.lit (.bool false)], args := [d1, d2] }
  | _ => none }
def DigestExtendsWrongFalsely : Prop := digestExtendsRow.holds Try.pinned (OpenSpec.ofChange digestExtendsWrong)

/- THE SECOND FORM. 'bulk': how many values and letters a reading holds, each counted each time it is reached (what is shared counts as often as it is met; a slice's spare places count too). A statement '..UptoSaid' is the law's where the arguments, and the package variables that the reading takes, are together of bulk at most 1048576: NARROWER than '..Said'. Prove '..Said' where nothing that the law and all that it calls make is longer than what came in: it says more and counts as full. Else prove '..UptoSaid'. A law counts once. -/
mutual
def uptoBulk {H : Type} : DataW H → Nat
  | .lit (.string bytes) => bytes.length + 1
  | .lit _ => 1
  | .nil => 1
  | .ptr d => uptoBulk d + 1
  | .slice elems spare => uptoBulkAll elems + uptoBulkAll spare + 1
  | .agg parts => uptoBulkAll parts + 1
  | .iface _ d => uptoBulk d + 1
  | .map entries => uptoBulkEntries entries + 1
  | .held _ => 1
def uptoBulkAll {H : Type} : List (DataW H) → Nat
  | [] => 0
  | d :: r => uptoBulk d + uptoBulkAll r
def uptoBulkEntries {H : Type} : List (Lit × DataW H) → Nat
  | [] => 0
  | x :: r => uptoBulkEntry x + uptoBulkEntries r
def uptoBulkEntry {H : Type} : Lit × DataW H → Nat
  | (.string bytes, d) => bytes.length + uptoBulk d + 1
  | (_, d) => uptoBulk d + 1
 end
def uptoSmall : (H : Type) → List (DataW H) → Bool := fun _ ds => decide (uptoBulkAll ds ≤ 1048576)
def OpenSpec.upto (s : _root_.Go.ChangeSpec) : _root_.Go.OpenSpec := { _root_.Go.OpenSpec.ofChange s with cond := some uptoSmall }

/-- 'homehublaw03.DigestChecks', WHERE WHAT IT READS IS OF BULK AT MOST 1048576: true; the input reads as it did. -/
def digestChecksUptoRow : OpenClaim := { program := "ytelelaaijfjjkaa", sum := "2e4a73684aa6e250a7a9e545b35ed10cacb2980567cbeeadb2307e06b3c1c879", func := "homehub/homehublaw03.DigestChecks", spec := "digestChecks", apart := false, narrowed := true }
def DigestChecksUptoSaid : Prop := digestChecksUptoRow.holds Try.pinned (OpenSpec.upto digestChecksSpec)

/-- 'homehublaw03.DigestSeals', WHERE WHAT IT READS IS OF BULK AT MOST 1048576: true; the input reads as it did. -/
def digestSealsUptoRow : OpenClaim := { program := "ytelelaaijfjjkaa", sum := "2e4a73684aa6e250a7a9e545b35ed10cacb2980567cbeeadb2307e06b3c1c879", func := "homehub/homehublaw03.DigestSeals", spec := "digestSeals", apart := false, narrowed := true }
def DigestSealsUptoSaid : Prop := digestSealsUptoRow.holds Try.pinned (OpenSpec.upto digestSealsSpec)

/-- 'homehublaw03.DigestOpens', WHERE WHAT IT READS IS OF BULK AT MOST 1048576: true; the input reads as it did. -/
def digestOpensUptoRow : OpenClaim := { program := "ytelelaaijfjjkaa", sum := "2e4a73684aa6e250a7a9e545b35ed10cacb2980567cbeeadb2307e06b3c1c879", func := "homehub/homehublaw03.DigestOpens", spec := "digestOpens", apart := false, narrowed := true }
def DigestOpensUptoSaid : Prop := digestOpensUptoRow.holds Try.pinned (OpenSpec.upto digestOpensSpec)

/-- 'homehublaw03.DigestReturns', WHERE WHAT IT READS IS OF BULK AT MOST 1048576: true; the input reads as it did. -/
def digestReturnsUptoRow : OpenClaim := { program := "ytelelaaijfjjkaa", sum := "2e4a73684aa6e250a7a9e545b35ed10cacb2980567cbeeadb2307e06b3c1c879", func := "homehub/homehublaw03.DigestReturns", spec := "digestReturns", apart := false, narrowed := true }
def DigestReturnsUptoSaid : Prop := digestReturnsUptoRow.holds Try.pinned (OpenSpec.upto digestReturnsSpec)

/-- 'homehublaw03.DigestLinear', WHERE WHAT IT READS IS OF BULK AT MOST 1048576: true; the input reads as it did. -/
def digestLinearUptoRow : OpenClaim := { program := "ytelelaaijfjjkaa", sum := "2e4a73684aa6e250a7a9e545b35ed10cacb2980567cbeeadb2307e06b3c1c879", func := "homehub/homehublaw03.DigestLinear", spec := "digestLinear", apart := false, narrowed := true }
def DigestLinearUptoSaid : Prop := digestLinearUptoRow.holds Try.pinned (OpenSpec.upto digestLinearSpec)

/-- 'homehublaw03.DigestBursts', WHERE WHAT IT READS IS OF BULK AT MOST 1048576: true; the input reads as it did. -/
def digestBurstsUptoRow : OpenClaim := { program := "ytelelaaijfjjkaa", sum := "2e4a73684aa6e250a7a9e545b35ed10cacb2980567cbeeadb2307e06b3c1c879", func := "homehub/homehublaw03.DigestBursts", spec := "digestBursts", apart := false, narrowed := true }
def DigestBurstsUptoSaid : Prop := digestBurstsUptoRow.holds Try.pinned (OpenSpec.upto digestBurstsSpec)

/-- 'homehublaw03.DigestExtends', WHERE WHAT IT READS IS OF BULK AT MOST 1048576: true; the input reads as it did. -/
def digestExtendsUptoRow : OpenClaim := { program := "ytelelaaijfjjkaa", sum := "2e4a73684aa6e250a7a9e545b35ed10cacb2980567cbeeadb2307e06b3c1c879", func := "homehub/homehublaw03.DigestExtends", spec := "digestExtends", apart := false, narrowed := true }
def DigestExtendsUptoSaid : Prop := digestExtendsUptoRow.holds Try.pinned (OpenSpec.upto digestExtendsSpec)

end Rows
end Go.Proofs.Ytelelaaijfjjkaa
