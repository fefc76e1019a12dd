/-
  A list of entries given as an argument, opened.
-/
import Derived.Test.YtmjamjadfnbkdaaFre
import Derived.Test.YtmjamjadfnbkdaaBas
import Derived.Deep.Grids
import Derived.Deep.Fields
open Go Go.RowKit Go.Proofs Go.Joins Go.ChangeShapes Go.WideShapes Go.Deep
namespace Go.Proofs.Ytmjamjadfnbkdaa
namespace Hub
theorem list_of {α : Type} (n : Nat) (P : Nat → α → Prop) (h : ∀ i, i < n → ∃ x, P i x) : ∃ l : List α, l.length = n ∧ ∀ i (hi : i < l.length), P i l[i] := by
  induction n with
  | zero => exact ⟨[], rfl, fun i hi => by simp at hi⟩
  | succ n ih =>
    obtain ⟨l, hl, hp⟩ := ih (fun i hi => h i (by omega))
    obtain ⟨x, hx⟩ := h n (by omega)
    refine ⟨l ++ [x], by simp [hl], fun i hi => ?_⟩
    by_cases e : i < l.length
    · rw [List.getElem_append_left e]; exact hp i e
    · have : i = n := by simp [hl] at hi; omega
      subst this
      have : (l ++ [x])[i] = x := by rw [List.getElem_append_right (by omega)]; simp [hl]
      rw [this]; exact hx
end Hub
open Hub
section
variable {H : Type} {enc : TypeId × Value → H} {w : World} {base : Nat} {held : Bool}
theorem cells_bool : Try.prog.cellsOf 4 = 1 := by kernel_rfl
theorem cells_int : Try.prog.cellsOf 3 = 1 := by kernel_rfl
theorem cells_bools : Try.prog.cellsOf 38 = 1 := by kernel_rfl
theorem cells_strs : Try.prog.cellsOf 23 = 1 := by kernel_rfl
theorem cells_pt : Try.prog.cellsOf 44 = 6 := by kernel_rfl
theorem open_trodb {fuel : Nat} {v : Value} {x : DataW H × List MemPlace} (h : DataW.trod enc Try.prog w base (fun _ => true) held fuel 38 [v] = some x) :
    ∃ l : List Bool, BoolsAt 0 w.heap.size w v l ∧ l.length ≤ maxLen := by
  rcases open_bools Try.underlying38 Try.underlying4 cells_bool h with ⟨hcs, _⟩ | ⟨a, len, cap, B, hcs, _, hl, hm, _, hcell⟩
  · simp only [List.cons.injEq, and_true] at hcs
    subst hcs
    exact ⟨[], BoolsAt.nil _ _ _, Nat.zero_le _⟩
  · simp only [List.cons.injEq, and_true] at hcs
    subst hcs
    have hlen : ((List.range len).map B).length = len := by simp
    refine ⟨(List.range len).map B, ⟨some a, cap, by rw [hlen], by omega, fun hne => ?_⟩, by omega⟩
    have h0 : 0 < len := by
      rcases Nat.eq_zero_or_pos len with h | h
      · exfalso; apply hne; rw [h]; rfl
      · exact h
    have hsp := spot_noneS (hcell 0 (by omega))
    refine ⟨a.block, a.off, by rw [← hsp], Nat.zero_le _, World.block_lt_of_cell? w ⟨a.block, a.off + 0, none⟩ (add_offS (hcell 0 (by omega))), fun i hi => ?_⟩
    rw [hlen] at hi
    rw [add_offS (hcell i (by omega))]
    simp
theorem add_row {a : Addr} {i c : Nat} {v : Value} {w : World} (h : w.cell? ((a.add i).add c) = some v) : w.cell? ⟨a.block, a.off + i + c, none⟩ = some v := by
  have h1 := add_offS h
  obtain ⟨b, o, spot⟩ := a
  by_cases hi : i = 0
  · subst hi; simpa [Addr.add] using h1
  · simpa [Addr.add, hi] using h1
theorem open_parts {r : Reach} {b0 : Nat} {v : Value} {d : DataW H} {p : List MemPlace} (hv : Value.okWide Try.prog w r b0 31 v) (h : DataW.Trod enc Try.prog w base (fun _ => true) held 31 v d p) :
    ∃ l : List Pt, PtsAt 0 w.heap.size w v l ∧ l.length ≤ maxLen := by
  obtain ⟨fuel, hf⟩ := h
  obtain ⟨a0, len0, cap0, rfl⟩ := okWide_slice Try.underlying31 hv
  rcases open_slice (cs := [.slice a0 len0 cap0]) Try.underlying31 (by simpa [Value.cells] using hf) with ⟨hcs, _⟩ | ⟨a, len, cap, m, n, D, Pl, hcs, _, hl, hm, hmm, _, hel⟩
  · simp only [List.cons.injEq, and_true] at hcs
    rw [hcs]
    exact ⟨[], PtsAt.nil _ _ _, Nat.zero_le _⟩
  · simp only [List.cons.injEq, and_true] at hcs
    rw [hcs]
    have hlm : len ≤ m := by rw [hmm]; split <;> omega
    have each : ∀ i, i < len → ∃ x : Pt, (w.cell? ((a.add (i * 6)).add 0) = some (.int .i64 x.pk.src) ∧ w.cell? ((a.add (i * 6)).add 1) = some (.int .i64 x.pk.id) ∧ w.cell? ((a.add (i * 6)).add 2) = some (.int .i64 x.pk.cnt) ∧ w.cell? ((a.add (i * 6)).add 3) = some (.int .i64 x.pk.since) ∧
        w.cell? ((a.add (i * 6)).add 4) = some x.vh ∧ w.cell? ((a.add (i * 6)).add 5) = some x.vd) ∧ BoolsAt 0 w.heap.size w x.vh x.pk.hv ∧ StrsAt 0 w.heap.size w x.vd x.pk.dt := by
      intro i hi
      obtain ⟨cs', hc, ht⟩ := hel i (by omega)
      rw [cells_pt] at hc
      obtain ⟨_, hlen, hcell⟩ := World.cells?_some hc
      match cs', hlen with
      | [c0, c1, c2, c3, c4, c5], _ =>
        obtain ⟨xs, n', _, _, _, hlx, hg⟩ := DataW.trod_struct Try.underlying44 ht
        match xs, hlx with
        | [y0, y1, y2, y3, y4, y5], _ =>
          have g0 := hg 0 _ rfl
          have g1 := hg 1 _ rfl
          have g2 := hg 2 _ rfl
          have g3 := hg 3 _ rfl
          have g4 := hg 4 _ rfl
          have g5 := hg 5 _ rfl
          simp [cells_bools, cells_strs, cells_int] at g0 g1 g2 g3 g4 g5
          obtain ⟨x0, e0, -, -⟩ := DataW.trod_int Try.underlying3 g0
          obtain ⟨x1, e1, -, -⟩ := DataW.trod_int Try.underlying3 g1
          obtain ⟨x2, e2, -, -⟩ := DataW.trod_int Try.underlying3 g2
          obtain ⟨x3, e3, -, -⟩ := DataW.trod_int Try.underlying3 g3
          obtain ⟨lh, hh, -⟩ := open_trodb g4
          obtain ⟨ld, hd, -, -⟩ := open_trods g5
          simp only [List.cons.injEq, and_true] at e0 e1 e2 e3
          subst e0 e1 e2 e3
          exact ⟨⟨⟨x0, x1, x2, x3, lh, ld⟩, c4, c5⟩, ⟨hcell 0 (by omega), hcell 1 (by omega), hcell 2 (by omega), hcell 3 (by omega), hcell 4 (by omega), hcell 5 (by omega)⟩, hh, hd⟩
    obtain ⟨l, hll, hp⟩ := list_of len _ each
    refine ⟨l, ⟨⟨some a, cap, by rw [hll], by omega, fun hne => ?_⟩, fun f hf => ?_⟩, by omega⟩
    · have h0 : 0 < l.length := by
        rcases Nat.eq_zero_or_pos l.length with h | h
        · exact absurd (List.length_eq_zero_iff.1 h) hne
        · exact h
      have c0 := (hp 0 h0).1.1
      rw [Nat.zero_mul] at c0
      have ha : a.add 0 = a := by unfold Addr.add; rw [if_pos rfl]
      rw [ha] at c0
      have hsp := spot_noneS c0
      refine ⟨a.block, a.off, by rw [← hsp], Nat.zero_le _, World.block_lt_of_cell? w ⟨a.block, a.off + 0, none⟩ (add_offS c0), fun i hi => ?_⟩
      obtain ⟨⟨g0, g1, g2, g3, g4, g5⟩, hh, hd⟩ := hp i hi
      obtain ⟨_, _, eh, -⟩ := hh
      obtain ⟨_, _, ed, -⟩ := hd
      exact ⟨⟨⟨_, _, _, eh⟩, _, _, _, ed⟩, add_row g0, add_row g1, add_row g2, add_row g3, add_row g4, add_row g5⟩
    · obtain ⟨i, hi, rfl⟩ := List.mem_iff_getElem.1 hf
      exact (hp i hi).2
end
end Go.Proofs.Ytmjamjadfnbkdaa
