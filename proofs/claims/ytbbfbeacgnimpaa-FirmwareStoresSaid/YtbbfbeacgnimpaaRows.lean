/-
  No cell of these rows narrows 'for every input' (looked for: loops, veiled, ifaces, maps, wideKeys, modest, calm, conditions, laid).
  DERIVED. THE GIVEN ROWS OF THIS SEAT. 7 by the template 'for every input the law returns true; each argument reads behind the call as it read before'; 0 by the template 'total and deterministic' (their statements: YtbbfbeacgnimpaaTotals.lean).
  GIVEN WITH THE SEED: the statements are not yours to turn. If you find one false, say at which input.
  Laid BY PROGRAM, IN A SANDBOX (cutbox-rows.mjs): the forced cells as the released guide's own fill.sh prints them over the translation 8f882927e9d09591… (all of the seat's roots in one cut). By AI agents, Wed Nov 11 2026. No macro, syntax, notation, axiom, sorry.
-/
import Derived.Test.YtbbfbeacgnimpaaChecked
import GoSem.Claim
import GoSem.ClaimJoined
import GoSem.ClaimMapViews
import Derived.JoinedTies
import Derived.KernelRfl
namespace Go.Proofs.Ytbbfbeacgnimpaa
/- THE CELL 'sum', in the pinned program and in every row, IS THE sha256 OF THE DUMP (.gsa) THAT YtbbfbeacgnimpaaProg.lean LOADS. Nothing in Lean hashes anything: it is a label: what it is worth is what the hold of that sum in a sandbox is worth. -/
noncomputable def Try.pinned : Pinned := { name := "ytbbfbeacgnimpaa", sum := "8f882927e9d0959186140e973bf1ea0cc509107957f81832ef25f899bd13f2ef", checked := Try.checked }
namespace Rows
def none {H : Type} : Left H := { results := [], args := [] }

/-- 'homehublaw50.FirmwareRead': WHATEVER THE INPUT: true; the input reads as it did. -/
def firmwareReadSpec : ChangeSpec := { name := "firmwareRead", fn := fun _ => fun
  | [d1, d2] => { results := [.lit (.bool true)], args := [d1, d2] }
  | _ => none }
def firmwareReadRow : OpenClaim := { program := "ytbbfbeacgnimpaa", sum := "8f882927e9d0959186140e973bf1ea0cc509107957f81832ef25f899bd13f2ef", func := "homehub/homehublaw50.FirmwareRead", spec := "firmwareRead", inPlace := ["internal/abi.NoEscape", "internal/bytealg.MakeNoZero"], unfollowed := true, recurses := true, apart := false }
def FirmwareReadSaid : Prop := firmwareReadRow.holds Try.pinned (OpenSpec.ofChange firmwareReadSpec)

/-- ITS FALSE NEIGHBOUR: 'it returns false'. Refute it at one input. -/
def firmwareReadWrong : ChangeSpec := { name := "firmwareRead", fn := fun _ => fun
  | [d1, d2] => { results := [.lit (.bool false)], args := [d1, d2] }
  | _ => none }
def FirmwareReadWrongFalsely : Prop := firmwareReadRow.holds Try.pinned (OpenSpec.ofChange firmwareReadWrong)

/-- 'homehublaw50.FirmwareCodes': WHATEVER THE INPUT: true; the input reads as it did. -/
def firmwareCodesSpec : ChangeSpec := { name := "firmwareCodes", fn := fun _ => fun
  | [d1, d2] => { results := [.lit (.bool true)], args := [d1, d2] }
  | _ => none }
def firmwareCodesRow : OpenClaim := { program := "ytbbfbeacgnimpaa", sum := "8f882927e9d0959186140e973bf1ea0cc509107957f81832ef25f899bd13f2ef", func := "homehub/homehublaw50.FirmwareCodes", spec := "firmwareCodes", inPlace := ["internal/abi.NoEscape", "internal/bytealg.MakeNoZero"], unfollowed := true, recurses := true, apart := false }
def FirmwareCodesSaid : Prop := firmwareCodesRow.holds Try.pinned (OpenSpec.ofChange firmwareCodesSpec)

/-- ITS FALSE NEIGHBOUR: 'it returns false'. Refute it at one input. -/
def firmwareCodesWrong : ChangeSpec := { name := "firmwareCodes", fn := fun _ => fun
  | [d1, d2] => { results := [.lit (.bool false)], args := [d1, d2] }
  | _ => none }
def FirmwareCodesWrongFalsely : Prop := firmwareCodesRow.holds Try.pinned (OpenSpec.ofChange firmwareCodesWrong)

/-- 'homehublaw50.FirmwareMakes': WHATEVER THE INPUT: true; the input reads as it did. -/
def firmwareMakesSpec : ChangeSpec := { name := "firmwareMakes", fn := fun _ => fun
  | [d1, d2, d3] => { results := [.lit (.bool true)], args := [d1, d2, d3] }
  | _ => none }
def firmwareMakesRow : OpenClaim := { program := "ytbbfbeacgnimpaa", sum := "8f882927e9d0959186140e973bf1ea0cc509107957f81832ef25f899bd13f2ef", func := "homehub/homehublaw50.FirmwareMakes", spec := "firmwareMakes", inPlace := ["internal/abi.NoEscape", "internal/bytealg.MakeNoZero"], apart := false }
def FirmwareMakesSaid : Prop := firmwareMakesRow.holds Try.pinned (OpenSpec.ofChange firmwareMakesSpec)

/-- ITS FALSE NEIGHBOUR: 'it returns false'. Refute it at one input. -/
def firmwareMakesWrong : ChangeSpec := { name := "firmwareMakes", fn := fun _ => fun
  | [d1, d2, d3] => { results := [.lit (.bool false)], args := [d1, d2, d3] }
  | _ => none }
def FirmwareMakesWrongFalsely : Prop := firmwareMakesRow.holds Try.pinned (OpenSpec.ofChange firmwareMakesWrong)

/-- 'homehublaw50.FirmwareBlocks': WHATEVER THE INPUT: true; the input reads as it did. -/
def firmwareBlocksSpec : ChangeSpec := { name := "firmwareBlocks", fn := fun _ => fun
  | [d] => { results := [.lit (.bool true)], args := [d] }
  | _ => none }
def firmwareBlocksRow : OpenClaim := { program := "ytbbfbeacgnimpaa", sum := "8f882927e9d0959186140e973bf1ea0cc509107957f81832ef25f899bd13f2ef", func := "homehub/homehublaw50.FirmwareBlocks", spec := "firmwareBlocks", inPlace := ["internal/abi.NoEscape", "internal/bytealg.MakeNoZero"], apart := false }
def FirmwareBlocksSaid : Prop := firmwareBlocksRow.holds Try.pinned (OpenSpec.ofChange firmwareBlocksSpec)

/-- ITS FALSE NEIGHBOUR: 'it returns false'. Refute it at one input. -/
def firmwareBlocksWrong : ChangeSpec := { name := "firmwareBlocks", fn := fun _ => fun
  | [d] => { results := [.lit (.bool false)], args := [d] }
  | _ => none }
def FirmwareBlocksWrongFalsely : Prop := firmwareBlocksRow.holds Try.pinned (OpenSpec.ofChange firmwareBlocksWrong)

/-- 'homehublaw50.FirmwareWhole': WHATEVER THE INPUT: true; the input reads as it did. -/
def firmwareWholeSpec : ChangeSpec := { name := "firmwareWhole", fn := fun _ => fun
  | [d] => { results := [.lit (.bool true)], args := [d] }
  | _ => none }
def firmwareWholeRow : OpenClaim := { program := "ytbbfbeacgnimpaa", sum := "8f882927e9d0959186140e973bf1ea0cc509107957f81832ef25f899bd13f2ef", func := "homehub/homehublaw50.FirmwareWhole", spec := "firmwareWhole", inPlace := ["internal/abi.NoEscape", "internal/bytealg.MakeNoZero"], apart := false }
def FirmwareWholeSaid : Prop := firmwareWholeRow.holds Try.pinned (OpenSpec.ofChange firmwareWholeSpec)

/-- ITS FALSE NEIGHBOUR: 'it returns false'. Refute it at one input. -/
def firmwareWholeWrong : ChangeSpec := { name := "firmwareWhole", fn := fun _ => fun
  | [d] => { results := [.lit (.bool false)], args := [d] }
  | _ => none }
def FirmwareWholeWrongFalsely : Prop := firmwareWholeRow.holds Try.pinned (OpenSpec.ofChange firmwareWholeWrong)

/-- 'homehublaw50.FirmwareBack': WHATEVER THE INPUT: true; the input reads as it did. -/
def firmwareBackSpec : ChangeSpec := { name := "firmwareBack", fn := fun _ => fun
  | [d1, d2, d3] => { results := [.lit (.bool true)], args := [d1, d2, d3] }
  | _ => none }
def firmwareBackRow : OpenClaim := { program := "ytbbfbeacgnimpaa", sum := "8f882927e9d0959186140e973bf1ea0cc509107957f81832ef25f899bd13f2ef", func := "homehub/homehublaw50.FirmwareBack", spec := "firmwareBack", inPlace := ["internal/abi.NoEscape", "internal/bytealg.MakeNoZero"], apart := false }
def FirmwareBackSaid : Prop := firmwareBackRow.holds Try.pinned (OpenSpec.ofChange firmwareBackSpec)

/-- ITS FALSE NEIGHBOUR: 'it returns false'. Refute it at one input. -/
def firmwareBackWrong : ChangeSpec := { name := "firmwareBack", fn := fun _ => fun
  | [d1, d2, d3] => { results := [.lit (.bool false)], args := [d1, d2, d3] }
  | _ => none }
def FirmwareBackWrongFalsely : Prop := firmwareBackRow.holds Try.pinned (OpenSpec.ofChange firmwareBackWrong)

/-- 'homehublaw50.FirmwareStores': WHATEVER THE INPUT: true; the input reads as it did. -/
def firmwareStoresSpec : ChangeSpec := { name := "firmwareStores", fn := fun _ => fun
  | [d] => { results := [.lit (.bool true)], args := [d] }
  | _ => none }
def firmwareStoresRow : OpenClaim := { program := "ytbbfbeacgnimpaa", sum := "8f882927e9d0959186140e973bf1ea0cc509107957f81832ef25f899bd13f2ef", func := "homehub/homehublaw50.FirmwareStores", spec := "firmwareStores", inPlace := ["internal/abi.NoEscape", "internal/bytealg.MakeNoZero"], apart := false }
def FirmwareStoresSaid : Prop := firmwareStoresRow.holds Try.pinned (OpenSpec.ofChange firmwareStoresSpec)

/-- ITS FALSE NEIGHBOUR: 'it returns false'. Refute it at one input. -/
def firmwareStoresWrong : ChangeSpec := { name := "firmwareStores", fn := fun _ => fun
  | [d] => { results := [.lit (.bool false)], args := [d] }
  | _ => none }
def FirmwareStoresWrongFalsely : Prop := firmwareStoresRow.holds Try.pinned (OpenSpec.ofChange firmwareStoresWrong)

/- THE SECOND FORM. 'bulk': how many values and letters a reading holds, each counted each time it is reached (what is shared counts as often as it is met; a slice's spare places count too). A statement '..UptoSaid' is the law's where the arguments, and the package variables that the reading takes, are together of bulk at most 1048576: NARROWER than '..Said'. Prove '..Said' where nothing that the law and all that it calls make is longer than what came in: it says more and counts as full. Else prove '..UptoSaid'. A law counts once. -/
mutual
def uptoBulk {H : Type} : DataW H → Nat
  | .lit (.string bytes) => bytes.length + 1
  | .lit _ => 1
  | .nil => 1
  | .ptr d => uptoBulk d + 1
  | .slice elems spare => uptoBulkAll elems + uptoBulkAll spare + 1
  | .agg parts => uptoBulkAll parts + 1
  | .iface _ d => uptoBulk d + 1
  | .map entries => uptoBulkEntries entries + 1
  | .held _ => 1
def uptoBulkAll {H : Type} : List (DataW H) → Nat
  | [] => 0
  | d :: r => uptoBulk d + uptoBulkAll r
def uptoBulkEntries {H : Type} : List (Lit × DataW H) → Nat
  | [] => 0
  | x :: r => uptoBulkEntry x + uptoBulkEntries r
def uptoBulkEntry {H : Type} : Lit × DataW H → Nat
  | (.string bytes, d) => bytes.length + uptoBulk d + 1
  | (_, d) => uptoBulk d + 1
 end
def uptoSmall : (H : Type) → List (DataW H) → Bool := fun _ ds => decide (uptoBulkAll ds ≤ 1048576)
def OpenSpec.upto (s : _root_.Go.ChangeSpec) : _root_.Go.OpenSpec := { _root_.Go.OpenSpec.ofChange s with cond := some uptoSmall }

/-- 'homehublaw50.FirmwareRead', WHERE WHAT IT READS IS OF BULK AT MOST 1048576: true; the input reads as it did. -/
def firmwareReadUptoRow : OpenClaim := { program := "ytbbfbeacgnimpaa", sum := "8f882927e9d0959186140e973bf1ea0cc509107957f81832ef25f899bd13f2ef", func := "homehub/homehublaw50.FirmwareRead", spec := "firmwareRead", inPlace := ["internal/abi.NoEscape", "internal/bytealg.MakeNoZero"], unfollowed := true, recurses := true, apart := false, narrowed := true }
def FirmwareReadUptoSaid : Prop := firmwareReadUptoRow.holds Try.pinned (OpenSpec.upto firmwareReadSpec)

/-- 'homehublaw50.FirmwareCodes', WHERE WHAT IT READS IS OF BULK AT MOST 1048576: true; the input reads as it did. -/
def firmwareCodesUptoRow : OpenClaim := { program := "ytbbfbeacgnimpaa", sum := "8f882927e9d0959186140e973bf1ea0cc509107957f81832ef25f899bd13f2ef", func := "homehub/homehublaw50.FirmwareCodes", spec := "firmwareCodes", inPlace := ["internal/abi.NoEscape", "internal/bytealg.MakeNoZero"], unfollowed := true, recurses := true, apart := false, narrowed := true }
def FirmwareCodesUptoSaid : Prop := firmwareCodesUptoRow.holds Try.pinned (OpenSpec.upto firmwareCodesSpec)

/-- 'homehublaw50.FirmwareMakes', WHERE WHAT IT READS IS OF BULK AT MOST 1048576: true; the input reads as it did. -/
def firmwareMakesUptoRow : OpenClaim := { program := "ytbbfbeacgnimpaa", sum := "8f882927e9d0959186140e973bf1ea0cc509107957f81832ef25f899bd13f2ef", func := "homehub/homehublaw50.FirmwareMakes", spec := "firmwareMakes", inPlace := ["internal/abi.NoEscape", "internal/bytealg.MakeNoZero"], apart := false, narrowed := true }
def FirmwareMakesUptoSaid : Prop := firmwareMakesUptoRow.holds Try.pinned (OpenSpec.upto firmwareMakesSpec)

/-- 'homehublaw50.FirmwareBlocks', WHERE WHAT IT READS IS OF BULK AT MOST 1048576: true; the input reads as it did. -/
def firmwareBlocksUptoRow : OpenClaim := { program := "ytbbfbeacgnimpaa", sum := "8f882927e9d0959186140e973bf1ea0cc509107957f81832ef25f899bd13f2ef", func := "homehub/homehublaw50.FirmwareBlocks", spec := "firmwareBlocks", inPlace := ["internal/abi.NoEscape", "internal/bytealg.MakeNoZero"], apart := false, narrowed := true }
def FirmwareBlocksUptoSaid : Prop := firmwareBlocksUptoRow.holds Try.pinned (OpenSpec.upto firmwareBlocksSpec)

/-- 'homehublaw50.FirmwareWhole', WHERE WHAT IT READS IS OF BULK AT MOST 1048576: true; the input reads as it did. -/
def firmwareWholeUptoRow : OpenClaim := { program := "ytbbfbeacgnimpaa", sum := "8f882927e9d0959186140e973bf1ea0cc509107957f81832ef25f899bd13f2ef", func := "homehub/homehublaw50.FirmwareWhole", spec := "firmwareWhole", inPlace := ["internal/abi.NoEscape", "internal/bytealg.MakeNoZero"], apart := false, narrowed := true }
def FirmwareWholeUptoSaid : Prop := firmwareWholeUptoRow.holds Try.pinned (OpenSpec.upto firmwareWholeSpec)

/-- 'homehublaw50.FirmwareBack', WHERE WHAT IT READS IS OF BULK AT MOST 1048576: true; the input reads as it did. -/
def firmwareBackUptoRow : OpenClaim := { program := "ytbbfbeacgnimpaa", sum := "8f882927e9d0959186140e973bf1ea0cc509107957f81832ef25f899bd13f2ef", func := "homehub/homehublaw50.FirmwareBack", spec := "firmwareBack", inPlace := ["internal/abi.NoEscape", "internal/bytealg.MakeNoZero"], apart := false, narrowed := true }
def FirmwareBackUptoSaid : Prop := firmwareBackUptoRow.holds Try.pinned (OpenSpec.upto firmwareBackSpec)

/-- 'homehublaw50.FirmwareStores', WHERE WHAT IT READS IS OF BULK AT MOST 1048576: true; the input reads as it did. -/
def firmwareStoresUptoRow : OpenClaim := { program := "ytbbfbeacgnimpaa", sum := "8f882927e9d0959186140e973bf1ea0cc509107957f81832ef25f899bd13f2ef", func := "homehub/homehublaw50.FirmwareStores", spec := "firmwareStores", inPlace := ["internal/abi.NoEscape", "internal/bytealg.MakeNoZero"], apart := false, narrowed := true }
def FirmwareStoresUptoSaid : Prop := firmwareStoresUptoRow.holds Try.pinned (OpenSpec.upto firmwareStoresSpec)

end Rows
end Go.Proofs.Ytbbfbeacgnimpaa
