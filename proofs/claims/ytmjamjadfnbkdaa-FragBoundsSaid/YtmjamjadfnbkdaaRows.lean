/-
  No cell of these rows narrows 'for every input' (looked for: loops, veiled, ifaces, maps, wideKeys, modest, calm, conditions, laid).
  DERIVED. THE GIVEN ROWS OF THIS SEAT. 8 by the template 'for every input the law returns true; each argument reads behind the call as it read before'; 0 by the template 'total and deterministic' (their statements: YtmjamjadfnbkdaaTotals.lean).
  GIVEN WITH THE SEED: the statements are not yours to turn. If you find one false, say at which input.
  Laid BY PROGRAM, IN A SANDBOX (cutbox-rows.mjs): the forced cells as the released guide's own fill.sh prints them over the translation f10f0d20a7ce2347… (all of the seat's roots in one cut). By AI agents, Wed Nov 11 2026. No macro, syntax, notation, axiom, sorry.
-/
import Derived.Test.YtmjamjadfnbkdaaChecked
import GoSem.Claim
import GoSem.ClaimJoined
import GoSem.ClaimMapViews
import Derived.JoinedTies
import Derived.KernelRfl
namespace Go.Proofs.Ytmjamjadfnbkdaa
/- THE CELL 'sum', in the pinned program and in every row, IS THE sha256 OF THE DUMP (.gsa) THAT YtmjamjadfnbkdaaProg.lean LOADS. Nothing in Lean hashes anything: it is a label: what it is worth is what the hold of that sum in a sandbox is worth. -/
noncomputable def Try.pinned : Pinned := { name := "ytmjamjadfnbkdaa", sum := "f10f0d20a7ce234787552128af9198174b4c67b4f2f1e134e444750052e6cd79", checked := Try.checked }
namespace Rows
def none {H : Type} : Left H := { results := [], args := [] }

/-- 'homehublaw15.FragSplits': WHATEVER THE INPUT: true; the input reads as it did. -/
def fragSplitsSpec : ChangeSpec := { name := "fragSplits", fn := fun _ => fun
  | [d1, d2] => { results := [.lit (.bool true)], args := [d1, d2] }
  | _ => none }
def fragSplitsRow : OpenClaim := { program := "ytmjamjadfnbkdaa", sum := "f10f0d20a7ce234787552128af9198174b4c67b4f2f1e134e444750052e6cd79", func := "homehub/homehublaw15.FragSplits", spec := "fragSplits", inPlace := ["internal/abi.NoEscape", "internal/bytealg.MakeNoZero"], apart := false }
def FragSplitsSaid : Prop := fragSplitsRow.holds Try.pinned (OpenSpec.ofChange fragSplitsSpec)

/-- ITS FALSE NEIGHBOUR: 'it returns false'. Refute it at one input. -/
def fragSplitsWrong : ChangeSpec := { name := "fragSplits", fn := fun _ => fun
  | [d1, d2] => { results := [.lit (.bool false)], args := [d1, d2] }
  | _ => none }
def FragSplitsWrongFalsely : Prop := fragSplitsRow.holds Try.pinned (OpenSpec.ofChange fragSplitsWrong)

/-- 'homehublaw15.FragChecks': WHATEVER THE INPUT: true; the input reads as it did. -/
def fragChecksSpec : ChangeSpec := { name := "fragChecks", fn := fun _ => fun
  | [d] => { results := [.lit (.bool true)], args := [d] }
  | _ => none }
def fragChecksRow : OpenClaim := { program := "ytmjamjadfnbkdaa", sum := "f10f0d20a7ce234787552128af9198174b4c67b4f2f1e134e444750052e6cd79", func := "homehub/homehublaw15.FragChecks", spec := "fragChecks", inPlace := ["internal/abi.NoEscape", "internal/bytealg.MakeNoZero"], apart := false }
def FragChecksSaid : Prop := fragChecksRow.holds Try.pinned (OpenSpec.ofChange fragChecksSpec)

/-- ITS FALSE NEIGHBOUR: 'it returns false'. Refute it at one input. -/
def fragChecksWrong : ChangeSpec := { name := "fragChecks", fn := fun _ => fun
  | [d] => { results := [.lit (.bool false)], args := [d] }
  | _ => none }
def FragChecksWrongFalsely : Prop := fragChecksRow.holds Try.pinned (OpenSpec.ofChange fragChecksWrong)

/-- 'homehublaw15.FragAdds': WHATEVER THE INPUT: true; the input reads as it did. -/
def fragAddsSpec : ChangeSpec := { name := "fragAdds", fn := fun _ => fun
  | [d1, d2, d3, d4] => { results := [.lit (.bool true)], args := [d1, d2, d3, d4] }
  | _ => none }
def fragAddsRow : OpenClaim := { program := "ytmjamjadfnbkdaa", sum := "f10f0d20a7ce234787552128af9198174b4c67b4f2f1e134e444750052e6cd79", func := "homehub/homehublaw15.FragAdds", spec := "fragAdds", inPlace := ["internal/abi.NoEscape", "internal/bytealg.MakeNoZero"], apart := false }
def FragAddsSaid : Prop := fragAddsRow.holds Try.pinned (OpenSpec.ofChange fragAddsSpec)

/-- ITS FALSE NEIGHBOUR: 'it returns false'. Refute it at one input. -/
def fragAddsWrong : ChangeSpec := { name := "fragAdds", fn := fun _ => fun
  | [d1, d2, d3, d4] => { results := [.lit (.bool false)], args := [d1, d2, d3, d4] }
  | _ => none }
def FragAddsWrongFalsely : Prop := fragAddsRow.holds Try.pinned (OpenSpec.ofChange fragAddsWrong)

/-- 'homehublaw15.FragForms': WHATEVER THE INPUT: true; the input reads as it did. -/
def fragFormsSpec : ChangeSpec := { name := "fragForms", fn := fun _ => fun
  | [d1, d2] => { results := [.lit (.bool true)], args := [d1, d2] }
  | _ => none }
def fragFormsRow : OpenClaim := { program := "ytmjamjadfnbkdaa", sum := "f10f0d20a7ce234787552128af9198174b4c67b4f2f1e134e444750052e6cd79", func := "homehub/homehublaw15.FragForms", spec := "fragForms", inPlace := ["internal/abi.NoEscape", "internal/bytealg.MakeNoZero"], apart := false }
def FragFormsSaid : Prop := fragFormsRow.holds Try.pinned (OpenSpec.ofChange fragFormsSpec)

/-- ITS FALSE NEIGHBOUR: 'it returns false'. Refute it at one input. -/
def fragFormsWrong : ChangeSpec := { name := "fragForms", fn := fun _ => fun
  | [d1, d2] => { results := [.lit (.bool false)], args := [d1, d2] }
  | _ => none }
def FragFormsWrongFalsely : Prop := fragFormsRow.holds Try.pinned (OpenSpec.ofChange fragFormsWrong)

/-- 'homehublaw15.FragReturns': WHATEVER THE INPUT: true; the input reads as it did. -/
def fragReturnsSpec : ChangeSpec := { name := "fragReturns", fn := fun _ => fun
  | [d1, d2, d3, d4] => { results := [.lit (.bool true)], args := [d1, d2, d3, d4] }
  | _ => none }
def fragReturnsRow : OpenClaim := { program := "ytmjamjadfnbkdaa", sum := "f10f0d20a7ce234787552128af9198174b4c67b4f2f1e134e444750052e6cd79", func := "homehub/homehublaw15.FragReturns", spec := "fragReturns", inPlace := ["internal/abi.NoEscape", "internal/bytealg.MakeNoZero"], apart := false }
def FragReturnsSaid : Prop := fragReturnsRow.holds Try.pinned (OpenSpec.ofChange fragReturnsSpec)

/-- ITS FALSE NEIGHBOUR: 'it returns false'. Refute it at one input. -/
def fragReturnsWrong : ChangeSpec := { name := "fragReturns", fn := fun _ => fun
  | [d1, d2, d3, d4] => { results := [.lit (.bool false)], args := [d1, d2, d3, d4] }
  | _ => none }
def FragReturnsWrongFalsely : Prop := fragReturnsRow.holds Try.pinned (OpenSpec.ofChange fragReturnsWrong)

/-- 'homehublaw15.FragApart': WHATEVER THE INPUT: true; the input reads as it did. -/
def fragApartSpec : ChangeSpec := { name := "fragApart", fn := fun _ => fun
  | [d1, d2, d3, d4, d5, d6] => { results := [.lit (.bool true)], args := [d1, d2, d3, d4, d5, d6] }
  | _ => none }
def fragApartRow : OpenClaim := { program := "ytmjamjadfnbkdaa", sum := "f10f0d20a7ce234787552128af9198174b4c67b4f2f1e134e444750052e6cd79", func := "homehub/homehublaw15.FragApart", spec := "fragApart", inPlace := ["internal/abi.NoEscape", "internal/bytealg.MakeNoZero"], apart := false }
def FragApartSaid : Prop := fragApartRow.holds Try.pinned (OpenSpec.ofChange fragApartSpec)

/-- ITS FALSE NEIGHBOUR: 'it returns false'. Refute it at one input. -/
def fragApartWrong : ChangeSpec := { name := "fragApart", fn := fun _ => fun
  | [d1, d2, d3, d4, d5, d6] => { results := [.lit (.bool false)], args := [d1, d2, d3, d4, d5, d6] }
  | _ => none }
def FragApartWrongFalsely : Prop := fragApartRow.holds Try.pinned (OpenSpec.ofChange fragApartWrong)

/-- 'homehublaw15.FragExpires': WHATEVER THE INPUT: true; the input reads as it did. -/
def fragExpiresSpec : ChangeSpec := { name := "fragExpires", fn := fun _ => fun
  | [d1, d2, d3] => { results := [.lit (.bool true)], args := [d1, d2, d3] }
  | _ => none }
def fragExpiresRow : OpenClaim := { program := "ytmjamjadfnbkdaa", sum := "f10f0d20a7ce234787552128af9198174b4c67b4f2f1e134e444750052e6cd79", func := "homehub/homehublaw15.FragExpires", spec := "fragExpires", inPlace := ["internal/abi.NoEscape", "internal/bytealg.MakeNoZero"], apart := false }
def FragExpiresSaid : Prop := fragExpiresRow.holds Try.pinned (OpenSpec.ofChange fragExpiresSpec)

/-- ITS FALSE NEIGHBOUR: 'it returns false'. Refute it at one input. -/
def fragExpiresWrong : ChangeSpec := { name := "fragExpires", fn := fun _ => fun
  | [d1, d2, d3] => { results := [.lit (.bool false)], args := [d1, d2, d3] }
  | _ => none }
def FragExpiresWrongFalsely : Prop := fragExpiresRow.holds Try.pinned (OpenSpec.ofChange fragExpiresWrong)

/-- 'homehublaw15.FragBounds': WHATEVER THE INPUT: true; the input reads as it did. -/
def fragBoundsSpec : ChangeSpec := { name := "fragBounds", fn := fun _ => fun
  | [d1, d2] => { results := [.lit (.bool true)], args := [d1, d2] }
  | _ => none }
def fragBoundsRow : OpenClaim := { program := "ytmjamjadfnbkdaa", sum := "f10f0d20a7ce234787552128af9198174b4c67b4f2f1e134e444750052e6cd79", func := "homehub/homehublaw15.FragBounds", spec := "fragBounds", inPlace := ["internal/abi.NoEscape", "internal/bytealg.MakeNoZero"], apart := false }
def FragBoundsSaid : Prop := fragBoundsRow.holds Try.pinned (OpenSpec.ofChange fragBoundsSpec)

/-- ITS FALSE NEIGHBOUR: 'it returns false'. Refute it at one input. -/
def fragBoundsWrong : ChangeSpec := { name := "fragBounds", fn := fun _ => fun
  | [d1, d2] => { results := [.lit (.bool false)], args := [d1, d2] }
  | _ => none }
def FragBoundsWrongFalsely : Prop := fragBoundsRow.holds Try.pinned (OpenSpec.ofChange fragBoundsWrong)

/- THE SECOND FORM. 'bulk': how many values and letters a reading holds, each counted each time it is reached (what is shared counts as often as it is met; a slice's spare places count too). A statement '..UptoSaid' is the law's where the arguments, and the package variables that the reading takes, are together of bulk at most 1048576: NARROWER than '..Said'. Prove '..Said' where nothing that the law and all that it calls make is longer than what came in: it says more and counts as full. Else prove '..UptoSaid'. A law counts once. -/
mutual
def uptoBulk {H : Type} : DataW H → Nat
  | .lit (.string bytes) => bytes.length + 1
  | .lit _ => 1
  | .nil => 1
  | .ptr d => uptoBulk d + 1
  | .slice elems spare => uptoBulkAll elems + uptoBulkAll spare + 1
  | .agg parts => uptoBulkAll parts + 1
  | .iface _ d => uptoBulk d + 1
  | .map entries => uptoBulkEntries entries + 1
  | .held _ => 1
def uptoBulkAll {H : Type} : List (DataW H) → Nat
  | [] => 0
  | d :: r => uptoBulk d + uptoBulkAll r
def uptoBulkEntries {H : Type} : List (Lit × DataW H) → Nat
  | [] => 0
  | x :: r => uptoBulkEntry x + uptoBulkEntries r
def uptoBulkEntry {H : Type} : Lit × DataW H → Nat
  | (.string bytes, d) => bytes.length + uptoBulk d + 1
  | (_, d) => uptoBulk d + 1
 end
def uptoSmall : (H : Type) → List (DataW H) → Bool := fun _ ds => decide (uptoBulkAll ds ≤ 1048576)
def OpenSpec.upto (s : _root_.Go.ChangeSpec) : _root_.Go.OpenSpec := { _root_.Go.OpenSpec.ofChange s with cond := some uptoSmall }

/-- 'homehublaw15.FragSplits', WHERE WHAT IT READS IS OF BULK AT MOST 1048576: true; the input reads as it did. -/
def fragSplitsUptoRow : OpenClaim := { program := "ytmjamjadfnbkdaa", sum := "f10f0d20a7ce234787552128af9198174b4c67b4f2f1e134e444750052e6cd79", func := "homehub/homehublaw15.FragSplits", spec := "fragSplits", inPlace := ["internal/abi.NoEscape", "internal/bytealg.MakeNoZero"], apart := false, narrowed := true }
def FragSplitsUptoSaid : Prop := fragSplitsUptoRow.holds Try.pinned (OpenSpec.upto fragSplitsSpec)

/-- 'homehublaw15.FragChecks', WHERE WHAT IT READS IS OF BULK AT MOST 1048576: true; the input reads as it did. -/
def fragChecksUptoRow : OpenClaim := { program := "ytmjamjadfnbkdaa", sum := "f10f0d20a7ce234787552128af9198174b4c67b4f2f1e134e444750052e6cd79", func := "homehub/homehublaw15.FragChecks", spec := "fragChecks", inPlace := ["internal/abi.NoEscape", "internal/bytealg.MakeNoZero"], apart := false, narrowed := true }
def FragChecksUptoSaid : Prop := fragChecksUptoRow.holds Try.pinned (OpenSpec.upto fragChecksSpec)

/-- 'homehublaw15.FragAdds', WHERE WHAT IT READS IS OF BULK AT MOST 1048576: true; the input reads as it did. -/
def fragAddsUptoRow : OpenClaim := { program := "ytmjamjadfnbkdaa", sum := "f10f0d20a7ce234787552128af9198174b4c67b4f2f1e134e444750052e6cd79", func := "homehub/homehublaw15.FragAdds", spec := "fragAdds", inPlace := ["internal/abi.NoEscape", "internal/bytealg.MakeNoZero"], apart := false, narrowed := true }
def FragAddsUptoSaid : Prop := fragAddsUptoRow.holds Try.pinned (OpenSpec.upto fragAddsSpec)

/-- 'homehublaw15.FragForms', WHERE WHAT IT READS IS OF BULK AT MOST 1048576: true; the input reads as it did. -/
def fragFormsUptoRow : OpenClaim := { program := "ytmjamjadfnbkdaa", sum := "f10f0d20a7ce234787552128af9198174b4c67b4f2f1e134e444750052e6cd79", func := "homehub/homehublaw15.FragForms", spec := "fragForms", inPlace := ["internal/abi.NoEscape", "internal/bytealg.MakeNoZero"], apart := false, narrowed := true }
def FragFormsUptoSaid : Prop := fragFormsUptoRow.holds Try.pinned (OpenSpec.upto fragFormsSpec)

/-- 'homehublaw15.FragReturns', WHERE WHAT IT READS IS OF BULK AT MOST 1048576: true; the input reads as it did. -/
def fragReturnsUptoRow : OpenClaim := { program := "ytmjamjadfnbkdaa", sum := "f10f0d20a7ce234787552128af9198174b4c67b4f2f1e134e444750052e6cd79", func := "homehub/homehublaw15.FragReturns", spec := "fragReturns", inPlace := ["internal/abi.NoEscape", "internal/bytealg.MakeNoZero"], apart := false, narrowed := true }
def FragReturnsUptoSaid : Prop := fragReturnsUptoRow.holds Try.pinned (OpenSpec.upto fragReturnsSpec)

/-- 'homehublaw15.FragApart', WHERE WHAT IT READS IS OF BULK AT MOST 1048576: true; the input reads as it did. -/
def fragApartUptoRow : OpenClaim := { program := "ytmjamjadfnbkdaa", sum := "f10f0d20a7ce234787552128af9198174b4c67b4f2f1e134e444750052e6cd79", func := "homehub/homehublaw15.FragApart", spec := "fragApart", inPlace := ["internal/abi.NoEscape", "internal/bytealg.MakeNoZero"], apart := false, narrowed := true }
def FragApartUptoSaid : Prop := fragApartUptoRow.holds Try.pinned (OpenSpec.upto fragApartSpec)

/-- 'homehublaw15.FragExpires', WHERE WHAT IT READS IS OF BULK AT MOST 1048576: true; the input reads as it did. -/
def fragExpiresUptoRow : OpenClaim := { program := "ytmjamjadfnbkdaa", sum := "f10f0d20a7ce234787552128af9198174b4c67b4f2f1e134e444750052e6cd79", func := "homehub/homehublaw15.FragExpires", spec := "fragExpires", inPlace := ["internal/abi.NoEscape", "internal/bytealg.MakeNoZero"], apart := false, narrowed := true }
def FragExpiresUptoSaid : Prop := fragExpiresUptoRow.holds Try.pinned (OpenSpec.upto fragExpiresSpec)

/-- 'homehublaw15.FragBounds', WHERE WHAT IT READS IS OF BULK AT MOST 1048576: true; the input reads as it did. -/
def fragBoundsUptoRow : OpenClaim := { program := "ytmjamjadfnbkdaa", sum := "f10f0d20a7ce234787552128af9198174b4c67b4f2f1e134e444750052e6cd79", func := "homehub/homehublaw15.FragBounds", spec := "fragBounds", inPlace := ["internal/abi.NoEscape", "internal/bytealg.MakeNoZero"], apart := false, narrowed := true }
def FragBoundsUptoSaid : Prop := fragBoundsUptoRow.holds Try.pinned (OpenSpec.upto fragBoundsSpec)

end Rows
end Go.Proofs.Ytmjamjadfnbkdaa
