/-
  A list of strings given as an argument, opened.
-/
import Derived.Test.YtbbfbeacgnimpaaStr
import Derived.Lib.SmallJoins
import Derived.ProofKit
import Derived.SliceStrings
open Go Go.RowKit Go.Proofs Go.Joins Go.ChangeShapes Go.WideShapes
namespace Go.Proofs.Ytbbfbeacgnimpaa
open Hub
section
variable {H : Type} {enc : TypeId × Value → H} {w : World} {base : Nat} {spare : Nat → Bool} {held : Bool}
theorem add_offS {w : World} {a : Addr} {i : Nat} {v : Value} (h : w.cell? (a.add i) = some v) : w.cell? ⟨a.block, a.off + i, none⟩ = some v := by
  obtain ⟨b, o, spot⟩ := a
  have hs := World.cell?_spot h
  by_cases hi : i = 0
  · subst hi
    simp only [Addr.add, if_true] at h hs
    subst hs
    exact h
  · simp only [Addr.add, hi, if_false] at h
    exact h
theorem spot_noneS {w : World} {a : Addr} {v : Value} (h : w.cell? (a.add 0) = some v) : a = ⟨a.block, a.off, none⟩ := by
  obtain ⟨b, o, spot⟩ := a
  have hs := World.cell?_spot h
  cases spot with
  | none => rfl
  | some s => simp [Addr.add] at hs
theorem cells_str : Try.prog.cellsOf 9 = 1 := by kernel_rfl
theorem open_trods {fuel : Nat} {v : Value} {x : DataW H × List MemPlace} (h : DataW.trod enc Try.prog w base spare held fuel 34 [v] = some x) :
    ∃ l : List ByteArray, StrsAt 0 w.heap.size w v l ∧ l.length ≤ maxLen ∧ ∀ x ∈ l, x.size ≤ maxLen := by
  rcases open_strings Try.underlying34 Try.underlying9 cells_str h with ⟨hcs, _⟩ | ⟨a, len, cap, zs, hcs, _, hl, hm, hz, _, hcell, hwz⟩
  · simp only [List.cons.injEq, and_true] at hcs
    subst hcs
    exact ⟨[], StrsAt.nil _ _ _, Nat.zero_le _, fun x hx => by simp at hx⟩
  · simp only [List.cons.injEq, and_true] at hcs
    subst hcs
    have hlz : len ≤ zs.length := by rw [hz]; split <;> omega
    have hlen : (zs.take len).length = len := by rw [List.length_take]; omega
    refine ⟨zs.take len, ⟨some a, cap, by rw [hlen], by omega, fun hne => ?_⟩, by omega, fun x hx => hwz x (List.mem_of_mem_take hx)⟩
    have h0 : 0 < len := by
      rcases Nat.eq_zero_or_pos len with h | h
      · exfalso; apply hne; rw [h]; rfl
      · exact h
    have hsp := spot_noneS (hcell 0 (by omega))
    refine ⟨a.block, a.off, by rw [← hsp], Nat.zero_le _, World.block_lt_of_cell? w ⟨a.block, a.off + 0, none⟩ (add_offS (hcell 0 (by omega))), fun i hi => ?_⟩
    rw [hlen] at hi
    rw [add_offS (hcell i (by omega))]
    simp [List.getD, List.getElem?_eq_getElem (show i < zs.length by omega)]
theorem open_strs {r : Reach} {b0 : Nat} {v : Value} {d : DataW H} {p : List MemPlace} (hv : Value.okWide Try.prog w r b0 34 v) (h : DataW.Trod enc Try.prog w base spare held 34 v d p) :
    ∃ l : List ByteArray, StrsAt 0 w.heap.size w v l ∧ l.length ≤ maxLen ∧ ∀ x ∈ l, x.size ≤ maxLen := by
  obtain ⟨fuel, hf⟩ := h
  obtain ⟨a, len, cap, rfl⟩ := okWide_slice Try.underlying34 hv
  exact open_trods (by simpa [Value.cells] using hf)
end
end Go.Proofs.Ytbbfbeacgnimpaa
