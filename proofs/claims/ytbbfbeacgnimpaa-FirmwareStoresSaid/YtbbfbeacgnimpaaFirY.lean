/-
  A description with stored blocks, given as an argument, opened.
-/
import Derived.Test.YtbbfbeacgnimpaaFirX
import Derived.Test.YtbbfbeacgnimpaaJouX
import Derived.Test.YtbbfbeacgnimpaaBoo
import Derived.Deep.Grids
open Go Go.RowKit Go.Proofs Go.Joins Go.ChangeShapes Go.WideShapes Go.Deep
namespace Go.Proofs.Ytbbfbeacgnimpaa
namespace Hub
/-- A description with stored blocks, a number and a block. -/
def stv (f : Fw) (u vh vb : Value) (i : Int) (x : ByteArray) : Value := .agg #[.int .i64 f.ven, .int .i64 f.ver, u, vh, vb, .int .i64 i, .string x]
end Hub
open Hub
section
variable {H : Type} {enc : TypeId × Value → H} {w : World} {base : Nat} {held : Bool}
theorem cells_bool : Try.prog.cellsOf 4 = 1 := by kernel_rfl
theorem cells_ints : Try.prog.cellsOf 22 = 1 := by kernel_rfl
theorem cells_bools : Try.prog.cellsOf 39 = 1 := by kernel_rfl
theorem cells_strs : Try.prog.cellsOf 34 = 1 := by kernel_rfl
theorem cells_store : Try.prog.cellsOf 41 = 7 := by kernel_rfl
theorem open_trodb {fuel : Nat} {v : Value} {x : DataW H × List MemPlace} (h : DataW.trod enc Try.prog w base (fun _ => true) held fuel 39 [v] = some x) :
    ∃ l : List Bool, BoolsAt 0 w.heap.size w v l ∧ l.length ≤ maxLen := by
  rcases open_bools Try.underlying39 Try.underlying4 cells_bool h with ⟨hcs, _⟩ | ⟨a, len, cap, B, hcs, _, hl, hm, _, hcell⟩
  · simp only [List.cons.injEq, and_true] at hcs
    subst hcs
    exact ⟨[], BoolsAt.nil _ _ _, Nat.zero_le _⟩
  · simp only [List.cons.injEq, and_true] at hcs
    subst hcs
    have hlen : ((List.range len).map B).length = len := by simp
    refine ⟨(List.range len).map B, ⟨some a, cap, by rw [hlen], by omega, fun hne => ?_⟩, by omega⟩
    have h0 : 0 < len := by
      rcases Nat.eq_zero_or_pos len with h | h
      · exfalso; apply hne; rw [h]; rfl
      · exact h
    have hsp := spot_noneS (hcell 0 (by omega))
    refine ⟨a.block, a.off, by rw [← hsp], Nat.zero_le _, World.block_lt_of_cell? w ⟨a.block, a.off + 0, none⟩ (add_offS (hcell 0 (by omega))), fun i hi => ?_⟩
    rw [hlen] at hi
    rw [add_offS (hcell i (by omega))]
    simp
theorem open_store {r : Reach} {b0 : Nat} {v : Value} {d : DataW H} {p : List MemPlace} (hv : Value.okWide Try.prog w r b0 41 v) (h : DataW.Trod enc Try.prog w base (fun _ => true) held 41 v d p) :
    ∃ (f : Fw) (u vh vb : Value) (hl : List Bool) (bs : List ByteArray) (i : Int) (x : ByteArray), v = stv f u vh vb i x ∧ (IntsAt 0 w.heap.size w u f.sums ∧ IntB f.sums ∧ f.sums.length ≤ maxLen ∧ -9223372036854775808 ≤ f.ven ∧ f.ven ≤ 9223372036854775807 ∧ -9223372036854775808 ≤ f.ver ∧ f.ver ≤ 9223372036854775807) ∧
      (BoolsAt 0 w.heap.size w vh hl ∧ hl.length ≤ maxLen) ∧ (StrsAt 0 w.heap.size w vb bs ∧ bs.length ≤ maxLen ∧ ∀ y ∈ bs, y.size ≤ maxLen) ∧ (-9223372036854775808 ≤ i ∧ i ≤ 9223372036854775807) ∧ x.size ≤ maxLen := by
  obtain ⟨cs, rfl, hsz⟩ := okWide_struct Try.underlying41 hv
  obtain ⟨l⟩ := cs
  match l, hsz.trans cells_store with
  | [c0, c1, c2, c3, c4, c5, c6], _ =>
    obtain ⟨fuel, hf⟩ := h
    obtain ⟨xs, n, _, hx, _, hlen, hg⟩ := DataW.trod_struct Try.underlying41 hf
    match xs, hlen with
    | [y0, y1, y2, y3, y4], _ =>
      have g0 := hg 0 _ rfl
      have g1 := hg 1 _ rfl
      have g2 := hg 2 _ rfl
      have g3 := hg 3 _ rfl
      have g4 := hg 4 _ rfl
      simp [Value.cells, cells_fw, cells_bools, cells_strs, cells_int, cells_str] at g0 g1 g2 g3 g4
      obtain ⟨zs, m, _, _, _, hlz, hz⟩ := DataW.trod_struct Try.underlying24 g0
      match zs, hlz with
      | [z0, z1, z2], _ =>
        have e0 := hz 0 _ rfl
        have e1 := hz 1 _ rfl
        have e2 := hz 2 _ rfl
        simp [cells_ints, cells_int] at e0 e1 e2
        obtain ⟨a0, q0, -, w0⟩ := DataW.trod_int Try.underlying3 e0
        obtain ⟨a1, q1, -, w1⟩ := DataW.trod_int Try.underlying3 e1
        obtain ⟨a5, q5, -, w5⟩ := DataW.trod_int Try.underlying3 g3
        obtain ⟨a6, q6, -, w6⟩ := DataW.trod_string Try.underlying9 g4
        simp only [List.cons.injEq, and_true] at q0 q1 q5 q6
        subst q0 q1 q5 q6
        obtain ⟨l, hl1, hl2, hl3⟩ := open_trodl e2
        obtain ⟨hb, hb1, hb2⟩ := open_trodb g1
        obtain ⟨bs, hs1, hs2, hs3⟩ := open_trods g2
        exact ⟨⟨a0, a1, l⟩, c2, c3, c4, hb, bs, a5, a6, rfl, ⟨hl1, hl2, hl3, (bounds_i64 w0).1, (bounds_i64 w0).2, (bounds_i64 w1).1, (bounds_i64 w1).2⟩, ⟨hb1, hb2⟩, ⟨hs1, hs2, hs3⟩, bounds_i64 w5, w6⟩
end
end Go.Proofs.Ytbbfbeacgnimpaa
