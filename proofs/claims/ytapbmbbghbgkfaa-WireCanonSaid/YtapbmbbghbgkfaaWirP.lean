/-
  Lists of calls and of fields given as arguments, opened.
-/
import Derived.Test.YtapbmbbghbgkfaaWirO
import Derived.Deep.Fields
open Go Go.RowKit Go.Proofs Go.ChangeShapes Go.WideShapes Go.Deep
namespace Go.Proofs.Ytapbmbbghbgkfaa
namespace Hub
/-- The slice v holds the calls l (the kind, the limit, the error of each), in a block below N. -/
def OpsAt (N : Nat) (w : World) (v : Value) (l : List (Int × Int × Int)) : Prop :=
  ∃ a cap, v = .slice a l.length cap ∧ (l ≠ [] → ∃ b off, a = some ⟨b, off, none⟩ ∧ b < N ∧ ∀ i (h : i < l.length), w.cell? ⟨b, off + i * 3, none⟩ = some (.int .i64 l[i].1) ∧ w.cell? ⟨b, off + i * 3 + 1, none⟩ = some (.int .i64 l[i].2.1) ∧ w.cell? ⟨b, off + i * 3 + 2, none⟩ = some (.int .i64 l[i].2.2))
/-- A field: its kind and its number, its string, its list as a value and as numbers. -/
structure WFd where
  kind : Int
  n : Int
  s : ByteArray
  v : Value
  l : List Int
def WFd.ok (f : WFd) : Prop := -9223372036854775808 ≤ f.kind ∧ f.kind ≤ 9223372036854775807 ∧ -9223372036854775808 ≤ f.n ∧ f.n ≤ 9223372036854775807 ∧ f.s.size ≤ 9223372036854775807 ∧ IntB f.l ∧ f.l.length ≤ 9223372036854775807
/-- The slice v holds the fields l, in blocks below N. -/
def FdsAt (lo N : Nat) (w : World) (v : Value) (l : List WFd) : Prop :=
  ∃ a cap, v = .slice a l.length cap ∧ (l ≠ [] → ∃ b off, a = some ⟨b, off, none⟩ ∧ lo ≤ b ∧ b < N ∧ ∀ i (h : i < l.length), w.cell? ⟨b, off + i * 4, none⟩ = some (.int .i64 l[i].kind) ∧ w.cell? ⟨b, off + i * 4 + 1, none⟩ = some (.int .i64 l[i].n) ∧
    w.cell? ⟨b, off + i * 4 + 2, none⟩ = some (.string l[i].s) ∧ w.cell? ⟨b, off + i * 4 + 3, none⟩ = some l[i].v ∧ IntsAt lo N w l[i].v l[i].l)
theorem list_of {α : Type} (n : Nat) (P : Nat → α → Prop) (h : ∀ i, i < n → ∃ x, P i x) : ∃ l : List α, l.length = n ∧ ∀ i (hi : i < l.length), P i l[i] := by
  induction n with
  | zero => exact ⟨[], rfl, fun i hi => by simp at hi⟩
  | succ n ih =>
    obtain ⟨l, hl, hp⟩ := ih (fun i hi => h i (by omega))
    obtain ⟨x, hx⟩ := h n (by omega)
    refine ⟨l ++ [x], by simp [hl], fun i hi => ?_⟩
    by_cases e : i < l.length
    · rw [List.getElem_append_left e]; exact hp i e
    · have : i = n := by simp [hl] at hi; omega
      subst this
      have : (l ++ [x])[i] = x := by rw [List.getElem_append_right (by omega)]; simp [hl]
      rw [this]; exact hx
end Hub
open Hub
section
variable {H : Type} {enc : TypeId × Value → H} {w : World} {base : Nat} {spare : Nat → Bool} {held : Bool}
theorem struct3 {P : Program} {t : TypeId} {f0 f1 f2 : Field} {c0 c1 c2 : Value} {m : Nat} {x : DataW H × List MemPlace} (hs : P.underlying t = some (.struct #[f0, f1, f2])) (hone : oneCellFields P #[f0, f1, f2] = true) (h : DataW.trod enc P w base spare held m t [c0, c1, c2] = some x) :
    ∃ (y0 y1 y2 : DataW H × List MemPlace) (n : Nat), DataW.trod enc P w base spare held n f0.type [c0] = some y0 ∧ DataW.trod enc P w base spare held n f1.type [c1] = some y1 ∧ DataW.trod enc P w base spare held n f2.type [c2] = some y2 := by
  obtain ⟨xs, n, _, _, _, hlen, hg⟩ := DataW.trod_struct hs h
  obtain ⟨o0, k0⟩ := hone_of hone 0 f0 rfl
  obtain ⟨o1, k1⟩ := hone_of hone 1 f1 rfl
  obtain ⟨o2, k2⟩ := hone_of hone 2 f2 rfl
  match xs, hlen with
  | [y0, y1, y2], _ => exact ⟨y0, y1, y2, n, by simpa [o0, k0] using hg 0 f0 rfl, by simpa [o1, k1] using hg 1 f1 rfl, by simpa [o2, k2] using hg 2 f2 rfl⟩
theorem struct4 {P : Program} {t : TypeId} {f0 f1 f2 f3 : Field} {c0 c1 c2 c3 : Value} {m : Nat} {x : DataW H × List MemPlace} (hs : P.underlying t = some (.struct #[f0, f1, f2, f3])) (hone : oneCellFields P #[f0, f1, f2, f3] = true) (h : DataW.trod enc P w base spare held m t [c0, c1, c2, c3] = some x) :
    ∃ (y0 y1 y2 y3 : DataW H × List MemPlace) (n : Nat), DataW.trod enc P w base spare held n f0.type [c0] = some y0 ∧ DataW.trod enc P w base spare held n f1.type [c1] = some y1 ∧ DataW.trod enc P w base spare held n f2.type [c2] = some y2 ∧ DataW.trod enc P w base spare held n f3.type [c3] = some y3 := by
  obtain ⟨xs, n, _, _, _, hlen, hg⟩ := DataW.trod_struct hs h
  obtain ⟨o0, k0⟩ := hone_of hone 0 f0 rfl
  obtain ⟨o1, k1⟩ := hone_of hone 1 f1 rfl
  obtain ⟨o2, k2⟩ := hone_of hone 2 f2 rfl
  obtain ⟨o3, k3⟩ := hone_of hone 3 f3 rfl
  match xs, hlen with
  | [y0, y1, y2, y3], _ => exact ⟨y0, y1, y2, y3, n, by simpa [o0, k0] using hg 0 f0 rfl, by simpa [o1, k1] using hg 1 f1 rfl, by simpa [o2, k2] using hg 2 f2 rfl, by simpa [o3, k3] using hg 3 f3 rfl⟩
theorem cells_op : Try.prog.cellsOf 49 = 3 := by kernel_rfl
theorem cells_fd : Try.prog.cellsOf 37 = 4 := by kernel_rfl
theorem add_row {a : Addr} {i c : Nat} {v : Value} {w : World} (h : w.cell? ((a.add i).add c) = some v) : w.cell? ⟨a.block, a.off + i + c, none⟩ = some v := by
  have h1 := add_off h
  obtain ⟨b, o, spot⟩ := a
  by_cases hi : i = 0
  · subst hi; simpa [Addr.add] using h1
  · simpa [Addr.add, hi] using h1
theorem open_ops {r : Reach} {b0 : Nat} {v : Value} {d : DataW H} {p : List MemPlace} (hv : Value.okWide Try.prog w r b0 44 v) (h : DataW.Trod enc Try.prog w base spare held 44 v d p) :
    ∃ l : List (Int × Int × Int), OpsAt w.heap.size w v l ∧ l.length ≤ maxLen := by
  obtain ⟨fuel, hf⟩ := h
  obtain ⟨a0, len0, cap0, rfl⟩ := okWide_slice Try.underlying44 hv
  rcases open_slice (cs := [.slice a0 len0 cap0]) Try.underlying44 (by simpa [Value.cells] using hf) with ⟨hcs, _⟩ | ⟨a, len, cap, m, n, D, Pl, hcs, _, hl, hm, hmm, _, hel⟩
  · simp only [List.cons.injEq, and_true] at hcs
    rw [hcs]
    exact ⟨[], ⟨none, 0, rfl, fun h => absurd rfl h⟩, Nat.zero_le _⟩
  · simp only [List.cons.injEq, and_true] at hcs
    rw [hcs]
    have hlm : len ≤ m := by rw [hmm]; split <;> omega
    have each : ∀ i, i < len → ∃ x : Int × Int × Int, w.cell? ((a.add (i * 3)).add 0) = some (.int .i64 x.1) ∧ w.cell? ((a.add (i * 3)).add 1) = some (.int .i64 x.2.1) ∧ w.cell? ((a.add (i * 3)).add 2) = some (.int .i64 x.2.2) := by
      intro i hi
      obtain ⟨cs', hc, ht⟩ := hel i (by omega)
      rw [cells_op] at hc
      obtain ⟨_, hlen, hcell⟩ := World.cells?_some hc
      match cs', hlen with
      | [c0, c1, c2], _ =>
        obtain ⟨y0, y1, y2, n', h0, h1, h2⟩ := struct3 Try.underlying49 (by kernel_rfl) ht
        obtain ⟨x0, e0, -, -⟩ := DataW.trod_int Try.underlying3 h0
        obtain ⟨x1, e1, -, -⟩ := DataW.trod_int Try.underlying3 h1
        obtain ⟨x2, e2, -, -⟩ := DataW.trod_int Try.underlying41 h2
        simp only [List.cons.injEq, and_true] at e0 e1 e2
        subst e0 e1 e2
        exact ⟨(x0, x1, x2), hcell 0 (by omega), hcell 1 (by omega), hcell 2 (by omega)⟩
    obtain ⟨l, hll, hp⟩ := list_of len _ each
    refine ⟨l, ⟨some a, cap, by rw [hll], fun hne => ?_⟩, by omega⟩
    have h0 : 0 < l.length := by
      rcases Nat.eq_zero_or_pos l.length with h | h
      · exact absurd (List.length_eq_zero_iff.1 h) hne
      · exact h
    have c0 := (hp 0 h0).1
    rw [Nat.zero_mul] at c0
    have ha : a.add 0 = a := by unfold Addr.add; rw [if_pos rfl]
    rw [ha] at c0
    have hsp := spot_none c0
    refine ⟨a.block, a.off, by rw [← hsp], World.block_lt_of_cell? w ⟨a.block, a.off + 0, none⟩ (add_off c0), fun i hi => ?_⟩
    obtain ⟨g0, g1, g2⟩ := hp i hi
    exact ⟨add_row g0, add_row g1, add_row g2⟩

theorem open_flds {r : Reach} {b0 : Nat} {v : Value} {d : DataW H} {p : List MemPlace} (hv : Value.okWide Try.prog w r b0 31 v) (h : DataW.Trod enc Try.prog w base spare held 31 v d p) :
    ∃ l : List WFd, FdsAt 0 w.heap.size w v l ∧ (∀ f ∈ l, f.ok) ∧ l.length ≤ maxLen := by
  obtain ⟨fuel, hf⟩ := h
  obtain ⟨a0, len0, cap0, rfl⟩ := okWide_slice Try.underlying31 hv
  rcases open_slice (cs := [.slice a0 len0 cap0]) Try.underlying31 (by simpa [Value.cells] using hf) with ⟨hcs, _⟩ | ⟨a, len, cap, m, n, D, Pl, hcs, _, hl, hm, hmm, _, hel⟩
  · simp only [List.cons.injEq, and_true] at hcs
    rw [hcs]
    exact ⟨[], ⟨none, 0, rfl, fun h => absurd rfl h⟩, fun f hf => by simp at hf, Nat.zero_le _⟩
  · simp only [List.cons.injEq, and_true] at hcs
    rw [hcs]
    have hlm : len ≤ m := by rw [hmm]; split <;> omega
    have each : ∀ i, i < len → ∃ x : WFd, w.cell? ((a.add (i * 4)).add 0) = some (.int .i64 x.kind) ∧ w.cell? ((a.add (i * 4)).add 1) = some (.int .i64 x.n) ∧ w.cell? ((a.add (i * 4)).add 2) = some (.string x.s) ∧ w.cell? ((a.add (i * 4)).add 3) = some x.v ∧ IntsAt 0 w.heap.size w x.v x.l ∧ x.ok := by
      intro i hi
      obtain ⟨cs', hc, ht⟩ := hel i (by omega)
      rw [cells_fd] at hc
      obtain ⟨_, hlen, hcell⟩ := World.cells?_some hc
      match cs', hlen with
      | [c0, c1, c2, c3], _ =>
        obtain ⟨y0, y1, y2, y3, n', h0, h1, h2, h3⟩ := struct4 Try.underlying37 (by kernel_rfl) ht
        obtain ⟨x0, e0, -, w0⟩ := DataW.trod_int Try.underlying3 h0
        obtain ⟨x1, e1, -, w1⟩ := DataW.trod_int Try.underlying3 h1
        obtain ⟨x2, e2, -, w2⟩ := DataW.trod_string Try.underlying9 h2
        obtain ⟨xs, e3, w3, w4⟩ := open_trodl h3
        simp only [List.cons.injEq, and_true] at e0 e1 e2
        subst e0 e1 e2
        have b0 := bounds_i64 w0
        have b1 := bounds_i64 w1
        exact ⟨⟨x0, x1, x2, c3, xs⟩, hcell 0 (by omega), hcell 1 (by omega), hcell 2 (by omega), hcell 3 (by omega), e3, b0.1, b0.2, b1.1, b1.2, w2, w3, w4⟩
    obtain ⟨l, hll, hp⟩ := list_of len _ each
    refine ⟨l, ⟨some a, cap, by rw [hll], fun hne => ?_⟩, fun f hf => ?_, by omega⟩
    · have h0 : 0 < l.length := by
        rcases Nat.eq_zero_or_pos l.length with h | h
        · exact absurd (List.length_eq_zero_iff.1 h) hne
        · exact h
      have c0 := (hp 0 h0).1
      rw [Nat.zero_mul] at c0
      have ha : a.add 0 = a := by unfold Addr.add; rw [if_pos rfl]
      rw [ha] at c0
      have hsp := spot_none c0
      refine ⟨a.block, a.off, by rw [← hsp], Nat.zero_le _, World.block_lt_of_cell? w ⟨a.block, a.off + 0, none⟩ (add_off c0), fun i hi => ?_⟩
      obtain ⟨g0, g1, g2, g3, g4, _⟩ := hp i hi
      exact ⟨add_row g0, add_row g1, add_row g2, add_row g3, g4⟩
    · obtain ⟨i, hi, rfl⟩ := List.mem_iff_getElem.1 hf
      exact (hp i hi).2.2.2.2.2
end
end Go.Proofs.Ytapbmbbghbgkfaa
