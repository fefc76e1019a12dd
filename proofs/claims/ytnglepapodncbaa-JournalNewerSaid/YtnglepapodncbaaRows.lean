/-
  No cell of these rows narrows 'for every input' (looked for: loops, veiled, ifaces, maps, wideKeys, modest, calm, conditions, laid).
  DERIVED. THE GIVEN ROWS OF THIS SEAT. 7 by the template 'for every input the law returns true; each argument reads behind the call as it read before'; 0 by the template 'total and deterministic' (their statements: YtnglepapodncbaaTotals.lean).
  GIVEN WITH THE SEED: the statements are not yours to turn. If you find one false, say at which input.
  Laid BY PROGRAM, IN A SANDBOX (cutbox-rows.mjs): the forced cells as the released guide's own fill.sh prints them over the translation 01891602bf44a26c… (all of the seat's roots in one cut). By AI agents, Wed Nov 11 2026. No macro, syntax, notation, axiom, sorry.
-/
import Derived.Test.YtnglepapodncbaaChecked
import GoSem.Claim
import GoSem.ClaimJoined
import GoSem.ClaimMapViews
import Derived.JoinedTies
import Derived.KernelRfl
namespace Go.Proofs.Ytnglepapodncbaa
/- THE CELL 'sum', in the pinned program and in every row, IS THE sha256 OF THE DUMP (.gsa) THAT YtnglepapodncbaaProg.lean LOADS. Nothing in Lean hashes anything: it is a label: what it is worth is what the hold of that sum in a sandbox is worth. -/
noncomputable def Try.pinned : Pinned := { name := "ytnglepapodncbaa", sum := "01891602bf44a26c40da68bec21f97d693cf3a9feffe5f6b3cb14a34c8ab1e6e", checked := Try.checked }
namespace Rows
def none {H : Type} : Left H := { results := [], args := [] }

/-- 'homehublaw52.JournalAdds': WHATEVER THE INPUT: true; the input reads as it did. -/
def journalAddsSpec : ChangeSpec := { name := "journalAdds", fn := fun _ => fun
  | [d1, d2, d3] => { results := [.lit (.bool true)], args := [d1, d2, d3] }
  | _ => none }
def journalAddsRow : OpenClaim := { program := "ytnglepapodncbaa", sum := "01891602bf44a26c40da68bec21f97d693cf3a9feffe5f6b3cb14a34c8ab1e6e", func := "homehub/homehublaw52.JournalAdds", spec := "journalAdds", apart := false }
def JournalAddsSaid : Prop := journalAddsRow.holds Try.pinned (OpenSpec.ofChange journalAddsSpec)

/-- ITS FALSE NEIGHBOUR: 'it returns false'. Refute it at one input. -/
def journalAddsWrong : ChangeSpec := { name := "journalAdds", fn := fun _ => fun
  | [d1, d2, d3] => { results := [.lit (.bool false)], args := [d1, d2, d3] }
  | _ => none }
def JournalAddsWrongFalsely : Prop := journalAddsRow.holds Try.pinned (OpenSpec.ofChange journalAddsWrong)

/-- 'homehublaw52.JournalPrefix': WHATEVER THE INPUT: true; the input reads as it did. -/
def journalPrefixSpec : ChangeSpec := { name := "journalPrefix", fn := fun _ => fun
  | [d1, d2, d3] => { results := [.lit (.bool true)], args := [d1, d2, d3] }
  | _ => none }
def journalPrefixRow : OpenClaim := { program := "ytnglepapodncbaa", sum := "01891602bf44a26c40da68bec21f97d693cf3a9feffe5f6b3cb14a34c8ab1e6e", func := "homehub/homehublaw52.JournalPrefix", spec := "journalPrefix", apart := false }
def JournalPrefixSaid : Prop := journalPrefixRow.holds Try.pinned (OpenSpec.ofChange journalPrefixSpec)

/-- ITS FALSE NEIGHBOUR: 'it returns false'. Refute it at one input. -/
def journalPrefixWrong : ChangeSpec := { name := "journalPrefix", fn := fun _ => fun
  | [d1, d2, d3] => { results := [.lit (.bool false)], args := [d1, d2, d3] }
  | _ => none }
def JournalPrefixWrongFalsely : Prop := journalPrefixRow.holds Try.pinned (OpenSpec.ofChange journalPrefixWrong)

/-- 'homehublaw52.JournalScans': WHATEVER THE INPUT: true; the input reads as it did. -/
def journalScansSpec : ChangeSpec := { name := "journalScans", fn := fun _ => fun
  | [d] => { results := [.lit (.bool true)], args := [d] }
  | _ => none }
def journalScansRow : OpenClaim := { program := "ytnglepapodncbaa", sum := "01891602bf44a26c40da68bec21f97d693cf3a9feffe5f6b3cb14a34c8ab1e6e", func := "homehub/homehublaw52.JournalScans", spec := "journalScans", apart := false }
def JournalScansSaid : Prop := journalScansRow.holds Try.pinned (OpenSpec.ofChange journalScansSpec)

/-- ITS FALSE NEIGHBOUR: 'it returns false'. Refute it at one input. -/
def journalScansWrong : ChangeSpec := { name := "journalScans", fn := fun _ => fun
  | [d] => { results := [.lit (.bool false)], args := [d] }
  | _ => none }
def JournalScansWrongFalsely : Prop := journalScansRow.holds Try.pinned (OpenSpec.ofChange journalScansWrong)

/-- 'homehublaw52.JournalCut': WHATEVER THE INPUT: true; the input reads as it did. -/
def journalCutSpec : ChangeSpec := { name := "journalCut", fn := fun _ => fun
  | [d] => { results := [.lit (.bool true)], args := [d] }
  | _ => none }
def journalCutRow : OpenClaim := { program := "ytnglepapodncbaa", sum := "01891602bf44a26c40da68bec21f97d693cf3a9feffe5f6b3cb14a34c8ab1e6e", func := "homehub/homehublaw52.JournalCut", spec := "journalCut", apart := false }
def JournalCutSaid : Prop := journalCutRow.holds Try.pinned (OpenSpec.ofChange journalCutSpec)

/-- ITS FALSE NEIGHBOUR: 'it returns false'. Refute it at one input. -/
def journalCutWrong : ChangeSpec := { name := "journalCut", fn := fun _ => fun
  | [d] => { results := [.lit (.bool false)], args := [d] }
  | _ => none }
def JournalCutWrongFalsely : Prop := journalCutRow.holds Try.pinned (OpenSpec.ofChange journalCutWrong)

/-- 'homehublaw52.JournalTwo': WHATEVER THE INPUT: true; the input reads as it did. -/
def journalTwoSpec : ChangeSpec := { name := "journalTwo", fn := fun _ => fun
  | [d1, d2] => { results := [.lit (.bool true)], args := [d1, d2] }
  | _ => none }
def journalTwoRow : OpenClaim := { program := "ytnglepapodncbaa", sum := "01891602bf44a26c40da68bec21f97d693cf3a9feffe5f6b3cb14a34c8ab1e6e", func := "homehub/homehublaw52.JournalTwo", spec := "journalTwo", apart := false }
def JournalTwoSaid : Prop := journalTwoRow.holds Try.pinned (OpenSpec.ofChange journalTwoSpec)

/-- ITS FALSE NEIGHBOUR: 'it returns false'. Refute it at one input. -/
def journalTwoWrong : ChangeSpec := { name := "journalTwo", fn := fun _ => fun
  | [d1, d2] => { results := [.lit (.bool false)], args := [d1, d2] }
  | _ => none }
def JournalTwoWrongFalsely : Prop := journalTwoRow.holds Try.pinned (OpenSpec.ofChange journalTwoWrong)

/-- 'homehublaw52.JournalCompacts': WHATEVER THE INPUT: true; the input reads as it did. -/
def journalCompactsSpec : ChangeSpec := { name := "journalCompacts", fn := fun _ => fun
  | [d1, d2] => { results := [.lit (.bool true)], args := [d1, d2] }
  | _ => none }
def journalCompactsRow : OpenClaim := { program := "ytnglepapodncbaa", sum := "01891602bf44a26c40da68bec21f97d693cf3a9feffe5f6b3cb14a34c8ab1e6e", func := "homehub/homehublaw52.JournalCompacts", spec := "journalCompacts", inPlace := ["internal/abi.NoEscape", "internal/bytealg.MakeNoZero"], apart := false }
def JournalCompactsSaid : Prop := journalCompactsRow.holds Try.pinned (OpenSpec.ofChange journalCompactsSpec)

/-- ITS FALSE NEIGHBOUR: 'it returns false'. Refute it at one input. -/
def journalCompactsWrong : ChangeSpec := { name := "journalCompacts", fn := fun _ => fun
  | [d1, d2] => { results := [.lit (.bool false)], args := [d1, d2] }
  | _ => none }
def JournalCompactsWrongFalsely : Prop := journalCompactsRow.holds Try.pinned (OpenSpec.ofChange journalCompactsWrong)

/-- 'homehublaw52.JournalNewer': WHATEVER THE INPUT: true; the input reads as it did. -/
def journalNewerSpec : ChangeSpec := { name := "journalNewer", fn := fun _ => fun
  | [d1, d2] => { results := [.lit (.bool true)], args := [d1, d2] }
  | _ => none }
def journalNewerRow : OpenClaim := { program := "ytnglepapodncbaa", sum := "01891602bf44a26c40da68bec21f97d693cf3a9feffe5f6b3cb14a34c8ab1e6e", func := "homehub/homehublaw52.JournalNewer", spec := "journalNewer", inPlace := ["internal/abi.NoEscape", "internal/bytealg.MakeNoZero"], apart := false }
def JournalNewerSaid : Prop := journalNewerRow.holds Try.pinned (OpenSpec.ofChange journalNewerSpec)

/-- ITS FALSE NEIGHBOUR: 'it returns false'. Refute it at one input. -/
def journalNewerWrong : ChangeSpec := { name := "journalNewer", fn := fun _ => fun
  | [d1, d2] => { results := [.lit (.bool false)], args := [d1, d2] }
  | _ => none }
def JournalNewerWrongFalsely : Prop := journalNewerRow.holds Try.pinned (OpenSpec.ofChange journalNewerWrong)

/- THE SECOND FORM. 'bulk': how many values and letters a reading holds, each counted each time it is reached (what is shared counts as often as it is met; a slice's spare places count too). A statement '..UptoSaid' is the law's where the arguments, and the package variables that the reading takes, are together of bulk at most 1048576: NARROWER than '..Said'. Prove '..Said' where nothing that the law and all that it calls make is longer than what came in: it says more and counts as full. Else prove '..UptoSaid'. A law counts once. -/
mutual
def uptoBulk {H : Type} : DataW H → Nat
  | .lit (.string bytes) => bytes.length + 1
  | .lit _ => 1
  | .nil => 1
  | .ptr d => uptoBulk d + 1
  | .slice elems spare => uptoBulkAll elems + uptoBulkAll spare + 1
  | .agg parts => uptoBulkAll parts + 1
  | .iface _ d => uptoBulk d + 1
  | .map entries => uptoBulkEntries entries + 1
  | .held _ => 1
def uptoBulkAll {H : Type} : List (DataW H) → Nat
  | [] => 0
  | d :: r => uptoBulk d + uptoBulkAll r
def uptoBulkEntries {H : Type} : List (Lit × DataW H) → Nat
  | [] => 0
  | x :: r => uptoBulkEntry x + uptoBulkEntries r
def uptoBulkEntry {H : Type} : Lit × DataW H → Nat
  | (.string bytes, d) => bytes.length + uptoBulk d + 1
  | (_, d) => uptoBulk d + 1
 end
def uptoSmall : (H : Type) → List (DataW H) → Bool := fun _ ds => decide (uptoBulkAll ds ≤ 1048576)
def OpenSpec.upto (s : _root_.Go.ChangeSpec) : _root_.Go.OpenSpec := { _root_.Go.OpenSpec.ofChange s with cond := some uptoSmall }

/-- 'homehublaw52.JournalAdds', WHERE WHAT IT READS IS OF BULK AT MOST 1048576: true; the input reads as it did. -/
def journalAddsUptoRow : OpenClaim := { program := "ytnglepapodncbaa", sum := "01891602bf44a26c40da68bec21f97d693cf3a9feffe5f6b3cb14a34c8ab1e6e", func := "homehub/homehublaw52.JournalAdds", spec := "journalAdds", apart := false, narrowed := true }
def JournalAddsUptoSaid : Prop := journalAddsUptoRow.holds Try.pinned (OpenSpec.upto journalAddsSpec)

/-- 'homehublaw52.JournalPrefix', WHERE WHAT IT READS IS OF BULK AT MOST 1048576: true; the input reads as it did. -/
def journalPrefixUptoRow : OpenClaim := { program := "ytnglepapodncbaa", sum := "01891602bf44a26c40da68bec21f97d693cf3a9feffe5f6b3cb14a34c8ab1e6e", func := "homehub/homehublaw52.JournalPrefix", spec := "journalPrefix", apart := false, narrowed := true }
def JournalPrefixUptoSaid : Prop := journalPrefixUptoRow.holds Try.pinned (OpenSpec.upto journalPrefixSpec)

/-- 'homehublaw52.JournalScans', WHERE WHAT IT READS IS OF BULK AT MOST 1048576: true; the input reads as it did. -/
def journalScansUptoRow : OpenClaim := { program := "ytnglepapodncbaa", sum := "01891602bf44a26c40da68bec21f97d693cf3a9feffe5f6b3cb14a34c8ab1e6e", func := "homehub/homehublaw52.JournalScans", spec := "journalScans", apart := false, narrowed := true }
def JournalScansUptoSaid : Prop := journalScansUptoRow.holds Try.pinned (OpenSpec.upto journalScansSpec)

/-- 'homehublaw52.JournalCut', WHERE WHAT IT READS IS OF BULK AT MOST 1048576: true; the input reads as it did. -/
def journalCutUptoRow : OpenClaim := { program := "ytnglepapodncbaa", sum := "01891602bf44a26c40da68bec21f97d693cf3a9feffe5f6b3cb14a34c8ab1e6e", func := "homehub/homehublaw52.JournalCut", spec := "journalCut", apart := false, narrowed := true }
def JournalCutUptoSaid : Prop := journalCutUptoRow.holds Try.pinned (OpenSpec.upto journalCutSpec)

/-- 'homehublaw52.JournalTwo', WHERE WHAT IT READS IS OF BULK AT MOST 1048576: true; the input reads as it did. -/
def journalTwoUptoRow : OpenClaim := { program := "ytnglepapodncbaa", sum := "01891602bf44a26c40da68bec21f97d693cf3a9feffe5f6b3cb14a34c8ab1e6e", func := "homehub/homehublaw52.JournalTwo", spec := "journalTwo", apart := false, narrowed := true }
def JournalTwoUptoSaid : Prop := journalTwoUptoRow.holds Try.pinned (OpenSpec.upto journalTwoSpec)

/-- 'homehublaw52.JournalCompacts', WHERE WHAT IT READS IS OF BULK AT MOST 1048576: true; the input reads as it did. -/
def journalCompactsUptoRow : OpenClaim := { program := "ytnglepapodncbaa", sum := "01891602bf44a26c40da68bec21f97d693cf3a9feffe5f6b3cb14a34c8ab1e6e", func := "homehub/homehublaw52.JournalCompacts", spec := "journalCompacts", inPlace := ["internal/abi.NoEscape", "internal/bytealg.MakeNoZero"], apart := false, narrowed := true }
def JournalCompactsUptoSaid : Prop := journalCompactsUptoRow.holds Try.pinned (OpenSpec.upto journalCompactsSpec)

/-- 'homehublaw52.JournalNewer', WHERE WHAT IT READS IS OF BULK AT MOST 1048576: true; the input reads as it did. -/
def journalNewerUptoRow : OpenClaim := { program := "ytnglepapodncbaa", sum := "01891602bf44a26c40da68bec21f97d693cf3a9feffe5f6b3cb14a34c8ab1e6e", func := "homehub/homehublaw52.JournalNewer", spec := "journalNewer", inPlace := ["internal/abi.NoEscape", "internal/bytealg.MakeNoZero"], apart := false, narrowed := true }
def JournalNewerUptoSaid : Prop := journalNewerUptoRow.holds Try.pinned (OpenSpec.upto journalNewerSpec)

end Rows
end Go.Proofs.Ytnglepapodncbaa
