/-
  Fragments: the chapter's examples, as data.
-/
import Derived.Test.YtmjamjadfnbkdaaFrc
open Go Go.RowKit Go.Proofs
namespace Go.Proofs.Ytmjamjadfnbkdaa
namespace Hub
def exZ : ByteArray := mk (List.replicate 64 0)
def exS : ByteArray := exZ ++ ⟨#[98]⟩
def exP : ByteArray := ⟨#[7, 0, 2]⟩ ++ exS.extract 0 64
def exQ : Pk := ⟨3, 7, 2, 5, [false, true], [⟨#[]⟩, ⟨#[98]⟩]⟩
theorem ex_split : splitF exS 7 = ([exP, ⟨#[7, 1, 2, 98]⟩], 0) := by kernel_rfl
theorem ex_split0 : splitF ⟨#[]⟩ 7 = ([⟨#[7, 0, 1]⟩], 0) := by kernel_rfl
theorem ex_chk0 : chkF (exP.extract 0 66) = 4 := by kernel_rfl
theorem ex_chk1 : chkF ⟨#[7, 1, 2]⟩ = 4 := by kernel_rfl
theorem ex_chk2 : chkF ⟨#[7, 0]⟩ = 5 := by kernel_rfl
theorem ex_add1 : addF [] 3 5 ⟨#[7, 1, 2, 98]⟩ = (([exQ], ⟨#[]⟩, false), 0) := by kernel_rfl
theorem ex_add2 : addF [exQ] 3 9 exP = (([], exS, true), 0) := by kernel_rfl
theorem exS_size : exS.size = 65 := by kernel_rfl
theorem exP_size : exP.size = 67 := by kernel_rfl
end Hub
end Go.Proofs.Ytmjamjadfnbkdaa
