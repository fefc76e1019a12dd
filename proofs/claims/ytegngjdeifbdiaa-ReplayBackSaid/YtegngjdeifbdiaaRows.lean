/-
  No cell of these rows narrows 'for every input' (looked for: loops, veiled, ifaces, maps, wideKeys, modest, calm, conditions, laid).
  DERIVED. THE GIVEN ROWS OF THIS SEAT. 6 by the template 'for every input the law returns true; each argument reads behind the call as it read before'; 0 by the template 'total and deterministic' (their statements: YtegngjdeifbdiaaTotals.lean).
  GIVEN WITH THE SEED: the statements are not yours to turn. If you find one false, say at which input.
  Laid BY PROGRAM, IN A SANDBOX (cutbox-rows.mjs): the forced cells as the released guide's own fill.sh prints them over the translation e79da71ae5e2ff98… (all of the seat's roots in one cut). By AI agents, Wed Nov 11 2026. No macro, syntax, notation, axiom, sorry.
-/
import Derived.Test.YtegngjdeifbdiaaChecked
import GoSem.Claim
import GoSem.ClaimJoined
import GoSem.ClaimMapViews
import Derived.JoinedTies
import Derived.KernelRfl
namespace Go.Proofs.Ytegngjdeifbdiaa
/- THE CELL 'sum', in the pinned program and in every row, IS THE sha256 OF THE DUMP (.gsa) THAT YtegngjdeifbdiaaProg.lean LOADS. Nothing in Lean hashes anything: it is a label: what it is worth is what the hold of that sum in a sandbox is worth. -/
noncomputable def Try.pinned : Pinned := { name := "ytegngjdeifbdiaa", sum := "e79da71ae5e2ff988e396ce5d1f133cafafdc20886a4d17deaa9743bfe7a3176", checked := Try.checked }
namespace Rows
def none {H : Type} : Left H := { results := [], args := [] }

/-- 'homehublaw14.ReplayWindows': WHATEVER THE INPUT: true; the input reads as it did. -/
def replayWindowsSpec : ChangeSpec := { name := "replayWindows", fn := fun _ => fun
  | [d1, d2] => { results := [.lit (.bool true)], args := [d1, d2] }
  | _ => none }
def replayWindowsRow : OpenClaim := { program := "ytegngjdeifbdiaa", sum := "e79da71ae5e2ff988e396ce5d1f133cafafdc20886a4d17deaa9743bfe7a3176", func := "homehub/homehublaw14.ReplayWindows", spec := "replayWindows", apart := false }
def ReplayWindowsSaid : Prop := replayWindowsRow.holds Try.pinned (OpenSpec.ofChange replayWindowsSpec)

/-- ITS FALSE NEIGHBOUR: 'it returns false'. Refute it at one input. -/
def replayWindowsWrong : ChangeSpec := { name := "replayWindows", fn := fun _ => fun
  | [d1, d2] => { results := [.lit (.bool false)], args := [d1, d2] }
  | _ => none }
def ReplayWindowsWrongFalsely : Prop := replayWindowsRow.holds Try.pinned (OpenSpec.ofChange replayWindowsWrong)

/-- 'homehublaw14.ReplaySeals': WHATEVER THE INPUT: true; the input reads as it did. -/
def replaySealsSpec : ChangeSpec := { name := "replaySeals", fn := fun _ => fun
  | [d] => { results := [.lit (.bool true)], args := [d] }
  | _ => none }
def replaySealsRow : OpenClaim := { program := "ytegngjdeifbdiaa", sum := "e79da71ae5e2ff988e396ce5d1f133cafafdc20886a4d17deaa9743bfe7a3176", func := "homehub/homehublaw14.ReplaySeals", spec := "replaySeals", apart := false }
def ReplaySealsSaid : Prop := replaySealsRow.holds Try.pinned (OpenSpec.ofChange replaySealsSpec)

/-- ITS FALSE NEIGHBOUR: 'it returns false'. Refute it at one input. -/
def replaySealsWrong : ChangeSpec := { name := "replaySeals", fn := fun _ => fun
  | [d] => { results := [.lit (.bool false)], args := [d] }
  | _ => none }
def ReplaySealsWrongFalsely : Prop := replaySealsRow.holds Try.pinned (OpenSpec.ofChange replaySealsWrong)

/-- 'homehublaw14.ReplayOpens': WHATEVER THE INPUT: true; the input reads as it did. -/
def replayOpensSpec : ChangeSpec := { name := "replayOpens", fn := fun _ => fun
  | [d1, d2] => { results := [.lit (.bool true)], args := [d1, d2] }
  | _ => none }
def replayOpensRow : OpenClaim := { program := "ytegngjdeifbdiaa", sum := "e79da71ae5e2ff988e396ce5d1f133cafafdc20886a4d17deaa9743bfe7a3176", func := "homehub/homehublaw14.ReplayOpens", spec := "replayOpens", apart := false }
def ReplayOpensSaid : Prop := replayOpensRow.holds Try.pinned (OpenSpec.ofChange replayOpensSpec)

/-- ITS FALSE NEIGHBOUR: 'it returns false'. Refute it at one input. -/
def replayOpensWrong : ChangeSpec := { name := "replayOpens", fn := fun _ => fun
  | [d1, d2] => { results := [.lit (.bool false)], args := [d1, d2] }
  | _ => none }
def ReplayOpensWrongFalsely : Prop := replayOpensRow.holds Try.pinned (OpenSpec.ofChange replayOpensWrong)

/-- 'homehublaw14.ReplayOnce': WHATEVER THE INPUT: true; the input reads as it did. -/
def replayOnceSpec : ChangeSpec := { name := "replayOnce", fn := fun _ => fun
  | [d] => { results := [.lit (.bool true)], args := [d] }
  | _ => none }
def replayOnceRow : OpenClaim := { program := "ytegngjdeifbdiaa", sum := "e79da71ae5e2ff988e396ce5d1f133cafafdc20886a4d17deaa9743bfe7a3176", func := "homehub/homehublaw14.ReplayOnce", spec := "replayOnce", apart := false }
def ReplayOnceSaid : Prop := replayOnceRow.holds Try.pinned (OpenSpec.ofChange replayOnceSpec)

/-- ITS FALSE NEIGHBOUR: 'it returns false'. Refute it at one input. -/
def replayOnceWrong : ChangeSpec := { name := "replayOnce", fn := fun _ => fun
  | [d] => { results := [.lit (.bool false)], args := [d] }
  | _ => none }
def ReplayOnceWrongFalsely : Prop := replayOnceRow.holds Try.pinned (OpenSpec.ofChange replayOnceWrong)

/-- 'homehublaw14.ReplayKeeps': WHATEVER THE INPUT: true; the input reads as it did. -/
def replayKeepsSpec : ChangeSpec := { name := "replayKeeps", fn := fun _ => fun
  | [d1, d2, d3] => { results := [.lit (.bool true)], args := [d1, d2, d3] }
  | _ => none }
def replayKeepsRow : OpenClaim := { program := "ytegngjdeifbdiaa", sum := "e79da71ae5e2ff988e396ce5d1f133cafafdc20886a4d17deaa9743bfe7a3176", func := "homehub/homehublaw14.ReplayKeeps", spec := "replayKeeps", apart := false }
def ReplayKeepsSaid : Prop := replayKeepsRow.holds Try.pinned (OpenSpec.ofChange replayKeepsSpec)

/-- ITS FALSE NEIGHBOUR: 'it returns false'. Refute it at one input. -/
def replayKeepsWrong : ChangeSpec := { name := "replayKeeps", fn := fun _ => fun
  | [d1, d2, d3] => { results := [.lit (.bool false)], args := [d1, d2, d3] }
  | _ => none }
def ReplayKeepsWrongFalsely : Prop := replayKeepsRow.holds Try.pinned (OpenSpec.ofChange replayKeepsWrong)

/-- 'homehublaw14.ReplayBack': WHATEVER THE INPUT: true; the input reads as it did. -/
def replayBackSpec : ChangeSpec := { name := "replayBack", fn := fun _ => fun
  | [d1, d2, d3] => { results := [.lit (.bool true)], args := [d1, d2, d3] }
  | _ => none }
def replayBackRow : OpenClaim := { program := "ytegngjdeifbdiaa", sum := "e79da71ae5e2ff988e396ce5d1f133cafafdc20886a4d17deaa9743bfe7a3176", func := "homehub/homehublaw14.ReplayBack", spec := "replayBack", apart := false }
def ReplayBackSaid : Prop := replayBackRow.holds Try.pinned (OpenSpec.ofChange replayBackSpec)

/-- ITS FALSE NEIGHBOUR: 'it returns false'. Refute it at one input. -/
def replayBackWrong : ChangeSpec := { name := "replayBack", fn := fun _ => fun
  | [d1, d2, d3] => { results := [.lit (.bool false)], args := [d1, d2, d3] }
  | _ => none }
def ReplayBackWrongFalsely : Prop := replayBackRow.holds Try.pinned (OpenSpec.ofChange replayBackWrong)

/- THE SECOND FORM. 'bulk': how many values and letters a reading holds, each counted each time it is reached (what is shared counts as often as it is met; a slice's spare places count too). A statement '..UptoSaid' is the law's where the arguments, and the package variables that the reading takes, are together of bulk at most 1048576: NARROWER than '..Said'. Prove '..Said' where nothing that the law and all that it calls make is longer than what came in: it says more and counts as full. Else prove '..UptoSaid'. A law counts once. -/
mutual
def uptoBulk {H : Type} : DataW H → Nat
  | .lit (.string bytes) => bytes.length + 1
  | .lit _ => 1
  | .nil => 1
  | .ptr d => uptoBulk d + 1
  | .slice elems spare => uptoBulkAll elems + uptoBulkAll spare + 1
  | .agg parts => uptoBulkAll parts + 1
  | .iface _ d => uptoBulk d + 1
  | .map entries => uptoBulkEntries entries + 1
  | .held _ => 1
def uptoBulkAll {H : Type} : List (DataW H) → Nat
  | [] => 0
  | d :: r => uptoBulk d + uptoBulkAll r
def uptoBulkEntries {H : Type} : List (Lit × DataW H) → Nat
  | [] => 0
  | x :: r => uptoBulkEntry x + uptoBulkEntries r
def uptoBulkEntry {H : Type} : Lit × DataW H → Nat
  | (.string bytes, d) => bytes.length + uptoBulk d + 1
  | (_, d) => uptoBulk d + 1
 end
def uptoSmall : (H : Type) → List (DataW H) → Bool := fun _ ds => decide (uptoBulkAll ds ≤ 1048576)
def OpenSpec.upto (s : _root_.Go.ChangeSpec) : _root_.Go.OpenSpec := { _root_.Go.OpenSpec.ofChange s with cond := some uptoSmall }

/-- 'homehublaw14.ReplayWindows', WHERE WHAT IT READS IS OF BULK AT MOST 1048576: true; the input reads as it did. -/
def replayWindowsUptoRow : OpenClaim := { program := "ytegngjdeifbdiaa", sum := "e79da71ae5e2ff988e396ce5d1f133cafafdc20886a4d17deaa9743bfe7a3176", func := "homehub/homehublaw14.ReplayWindows", spec := "replayWindows", apart := false, narrowed := true }
def ReplayWindowsUptoSaid : Prop := replayWindowsUptoRow.holds Try.pinned (OpenSpec.upto replayWindowsSpec)

/-- 'homehublaw14.ReplaySeals', WHERE WHAT IT READS IS OF BULK AT MOST 1048576: true; the input reads as it did. -/
def replaySealsUptoRow : OpenClaim := { program := "ytegngjdeifbdiaa", sum := "e79da71ae5e2ff988e396ce5d1f133cafafdc20886a4d17deaa9743bfe7a3176", func := "homehub/homehublaw14.ReplaySeals", spec := "replaySeals", apart := false, narrowed := true }
def ReplaySealsUptoSaid : Prop := replaySealsUptoRow.holds Try.pinned (OpenSpec.upto replaySealsSpec)

/-- 'homehublaw14.ReplayOpens', WHERE WHAT IT READS IS OF BULK AT MOST 1048576: true; the input reads as it did. -/
def replayOpensUptoRow : OpenClaim := { program := "ytegngjdeifbdiaa", sum := "e79da71ae5e2ff988e396ce5d1f133cafafdc20886a4d17deaa9743bfe7a3176", func := "homehub/homehublaw14.ReplayOpens", spec := "replayOpens", apart := false, narrowed := true }
def ReplayOpensUptoSaid : Prop := replayOpensUptoRow.holds Try.pinned (OpenSpec.upto replayOpensSpec)

/-- 'homehublaw14.ReplayOnce', WHERE WHAT IT READS IS OF BULK AT MOST 1048576: true; the input reads as it did. -/
def replayOnceUptoRow : OpenClaim := { program := "ytegngjdeifbdiaa", sum := "e79da71ae5e2ff988e396ce5d1f133cafafdc20886a4d17deaa9743bfe7a3176", func := "homehub/homehublaw14.ReplayOnce", spec := "replayOnce", apart := false, narrowed := true }
def ReplayOnceUptoSaid : Prop := replayOnceUptoRow.holds Try.pinned (OpenSpec.upto replayOnceSpec)

/-- 'homehublaw14.ReplayKeeps', WHERE WHAT IT READS IS OF BULK AT MOST 1048576: true; the input reads as it did. -/
def replayKeepsUptoRow : OpenClaim := { program := "ytegngjdeifbdiaa", sum := "e79da71ae5e2ff988e396ce5d1f133cafafdc20886a4d17deaa9743bfe7a3176", func := "homehub/homehublaw14.ReplayKeeps", spec := "replayKeeps", apart := false, narrowed := true }
def ReplayKeepsUptoSaid : Prop := replayKeepsUptoRow.holds Try.pinned (OpenSpec.upto replayKeepsSpec)

/-- 'homehublaw14.ReplayBack', WHERE WHAT IT READS IS OF BULK AT MOST 1048576: true; the input reads as it did. -/
def replayBackUptoRow : OpenClaim := { program := "ytegngjdeifbdiaa", sum := "e79da71ae5e2ff988e396ce5d1f133cafafdc20886a4d17deaa9743bfe7a3176", func := "homehub/homehublaw14.ReplayBack", spec := "replayBack", apart := false, narrowed := true }
def ReplayBackUptoSaid : Prop := replayBackUptoRow.holds Try.pinned (OpenSpec.upto replayBackSpec)

end Rows
end Go.Proofs.Ytegngjdeifbdiaa
