/-
  A description given as an argument, opened.
-/
import Derived.Test.YtbbfbeacgnimpaaFirD
import Derived.Lib.SmallJoins
import Derived.ProofKit
import Derived.Deep.Slices
open Go Go.RowKit Go.Proofs Go.Joins Go.ChangeShapes Go.WideShapes Go.Deep
namespace Go.Proofs.Ytbbfbeacgnimpaa
open Hub
section
variable {H : Type} {enc : TypeId × Value → H} {w : World} {base : Nat} {spare : Nat → Bool} {held : Bool}
theorem add_off {w : World} {a : Addr} {i : Nat} {v : Value} (h : w.cell? (a.add i) = some v) : w.cell? ⟨a.block, a.off + i, none⟩ = some v := by
  obtain ⟨b, o, spot⟩ := a
  have hs := World.cell?_spot h
  by_cases hi : i = 0
  · subst hi
    simp only [Addr.add, if_true] at h hs
    subst hs
    exact h
  · simp only [Addr.add, hi, if_false] at h
    exact h
theorem spot_none {w : World} {a : Addr} {v : Value} (h : w.cell? (a.add 0) = some v) : a = ⟨a.block, a.off, none⟩ := by
  obtain ⟨b, o, spot⟩ := a
  have hs := World.cell?_spot h
  cases spot with
  | none => rfl
  | some s => simp [Addr.add] at hs
theorem cells_int : Try.prog.cellsOf 3 = 1 := by kernel_rfl
theorem open_trodl {fuel : Nat} {v : Value} {x : DataW H × List MemPlace} (h : DataW.trod enc Try.prog w base spare held fuel 22 [v] = some x) :
    ∃ l : List Int, IntsAt 0 w.heap.size w v l ∧ IntB l ∧ l.length ≤ maxLen := by
  rcases open_ints Try.underlying22 Try.underlying3 cells_int h with ⟨hcs, _⟩ | ⟨a, len, cap, zs, hcs, _, hl, hm, hz, _, hcell, hwz⟩
  · simp only [List.cons.injEq, and_true] at hcs
    subst hcs
    exact ⟨[], ⟨none, 0, rfl, fun h => absurd rfl h⟩, fun x hx => by simp at hx, Nat.zero_le _⟩
  · simp only [List.cons.injEq, and_true] at hcs
    subst hcs
    have hlz : len ≤ zs.length := by rw [hz]; split <;> omega
    have hlen : (zs.take len).length = len := by rw [List.length_take]; omega
    refine ⟨zs.take len, ⟨some a, cap, by rw [hlen], fun hne => ?_⟩, fun x hx => ?_, by omega⟩
    · have h0 : 0 < len := by
        rcases Nat.eq_zero_or_pos len with h | h
        · exfalso; apply hne; rw [h]; rfl
        · exact h
      have hsp := spot_none (hcell 0 (by omega))
      refine ⟨a.block, a.off, by rw [← hsp], Nat.zero_le _, World.block_lt_of_cell? w ⟨a.block, a.off + 0, none⟩ (add_off (hcell 0 (by omega))), fun i hi => ?_⟩
      rw [hlen] at hi
      rw [add_off (hcell i (by omega))]
      simp [List.getD, List.getElem?_eq_getElem (show i < zs.length by omega)]
    · have := hwz x (List.mem_of_mem_take hx)
      exact bounds_i64 this
theorem open_cells3 {P : Program} {r : Reach} {b0 : Nat} {t : TypeId} {f0 f1 f2 : Field} {v : Value} {d : DataW H} {p : List MemPlace} (hs : P.underlying t = some (.struct #[f0, f1, f2])) (hone : oneCellFields P #[f0, f1, f2] = true) (hC : P.cellsOf t = 3)
    (hv : Value.okWide P w r b0 t v) (h : DataW.Trod enc P w base spare held t v d p) :
    ∃ (v0 v1 v2 : Value) (y0 y1 y2 : DataW H × List MemPlace) (n : Nat), v = .agg #[v0, v1, v2] ∧ DataW.trod enc P w base spare held n f0.type [v0] = some y0 ∧ DataW.trod enc P w base spare held n f1.type [v1] = some y1 ∧ DataW.trod enc P w base spare held n f2.type [v2] = some y2 := by
  obtain ⟨cs, rfl, hsz⟩ := okWide_struct hs hv
  obtain ⟨l⟩ := cs
  match l, hsz.trans hC with
  | [c0, c1, c2], _ =>
    obtain ⟨fuel, hf⟩ := h
    obtain ⟨xs, n, _, hx, _, hlen, hg⟩ := DataW.trod_struct hs hf
    obtain ⟨o0, k0⟩ := hone_of hone 0 f0 rfl
    obtain ⟨o1, k1⟩ := hone_of hone 1 f1 rfl
    obtain ⟨o2, k2⟩ := hone_of hone 2 f2 rfl
    match xs, hlen with
    | [y0, y1, y2], _ =>
      exact ⟨c0, c1, c2, y0, y1, y2, n, rfl, by simpa [Value.cells, o0, k0] using hg 0 f0 rfl, by simpa [Value.cells, o1, k1] using hg 1 f1 rfl, by simpa [Value.cells, o2, k2] using hg 2 f2 rfl⟩
theorem cells_fw : Try.prog.cellsOf 24 = 3 := by kernel_rfl
theorem open_fw {r : Reach} {b0 : Nat} {v : Value} {d : DataW H} {p : List MemPlace} (hv : Value.okWide Try.prog w r b0 24 v) (h : DataW.Trod enc Try.prog w base spare held 24 v d p) :
    ∃ (f : Fw) (u : Value), v = fwv f u ∧ IntsAt 0 w.heap.size w u f.sums ∧ IntB f.sums ∧ f.sums.length ≤ maxLen ∧ -9223372036854775808 ≤ f.ven ∧ f.ven ≤ 9223372036854775807 ∧ -9223372036854775808 ≤ f.ver ∧ f.ver ≤ 9223372036854775807 := by
  obtain ⟨c0, c1, c2, y0, y1, y2, m, rfl, h0, h1, h2⟩ := open_cells3 Try.underlying24 (by kernel_rfl) cells_fw hv h
  obtain ⟨a0, e0, -, w0⟩ := DataW.trod_int Try.underlying3 h0
  obtain ⟨a1, e1, -, w1⟩ := DataW.trod_int Try.underlying3 h1
  simp only [List.cons.injEq, and_true] at e0 e1
  subst e0 e1
  obtain ⟨l, hl1, hl2, hl3⟩ := open_trodl h2
  exact ⟨⟨a0, a1, l⟩, c2, rfl, hl1, hl2, hl3, (bounds_i64 w0).1, (bounds_i64 w0).2, (bounds_i64 w1).1, (bounds_i64 w1).2⟩
end
end Go.Proofs.Ytbbfbeacgnimpaa
