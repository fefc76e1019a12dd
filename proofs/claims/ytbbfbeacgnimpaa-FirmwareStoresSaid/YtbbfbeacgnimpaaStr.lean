/-
  Lists of strings in memory: given ones and the call's own.
-/
import Derived.Test.YtbbfbeacgnimpaaWirF
open Go Go.RowKit Go.Proofs
namespace Go.Proofs.Ytbbfbeacgnimpaa
namespace Hub
theorem str_info : (Try.prog.info? 9).map (fun i => (i.zero, i.size, i.bytes)) = some (some (.string ByteArray.empty), 1, 16) := by kernel_rfl
/-- The slice v holds the strings l, in a block from lo on, below N. -/
def StrsAt (lo N : Nat) (w : World) (v : Value) (l : List ByteArray) : Prop :=
  ∃ a cap, v = .slice a l.length cap ∧ l.length ≤ cap ∧ (l ≠ [] → ∃ b off, a = some ⟨b, off, none⟩ ∧ lo ≤ b ∧ b < N ∧ ∀ i (h : i < l.length), w.cell? ⟨b, off + i, none⟩ = some (.string l[i]))
theorem StrsAt.nil (lo N : Nat) (w : World) : StrsAt lo N w (.slice none 0 0) [] := ⟨none, 0, rfl, Nat.le_refl _, fun h => absurd rfl h⟩
theorem StrsAt.below {lo N M : Nat} {w w' : World} {v : Value} {l : List ByteArray} (h : StrsAt lo N w v l) (hb : Below M w w') (hN : N ≤ M) : StrsAt lo N w' v l := by
  obtain ⟨a, cap, hv, hcap, hc⟩ := h
  refine ⟨a, cap, hv, hcap, fun hne => ?_⟩
  obtain ⟨b, off, ha, hlo, hbN, hcell⟩ := hc hne
  exact ⟨b, off, ha, hlo, hbN, fun i hi => by rw [hb.cell (p := ⟨b, off + i, none⟩) (by show b < M; omega)]; exact hcell i hi⟩
theorem StrsAt.wide {lo lo' N N' : Nat} {w : World} {v : Value} {l : List ByteArray} (h : StrsAt lo N w v l) (hl : lo' ≤ lo) (hN : N ≤ N') : StrsAt lo' N' w v l := by
  obtain ⟨a, cap, hv, hcap, hc⟩ := h
  refine ⟨a, cap, hv, hcap, fun hne => ?_⟩
  obtain ⟨b, off, ha, hlo, hbN, hcell⟩ := hc hne
  exact ⟨b, off, ha, by omega, by omega, hcell⟩
/-- v is a slice of the call's own, from block 'base' on (or nil), that holds the strings l. -/
def OwnS (w : World) (base : Nat) (v : Value) (l : List ByteArray) : Prop := w.ownsRow base 9 1 v l.length (l.map Value.string)
theorem OwnS.nil (w : World) (base : Nat) : OwnS w base (.slice none 0 0) [] := World.ownsRow_nil w base _ _
theorem OwnS.alloc {w : World} {base : Nat} {v : Value} {l : List ByteArray} (h : OwnS w base v l) (o : Obj) : OwnS (w.alloc o) base v l := World.ownsRow.alloc h o
theorem OwnS.drew {w : World} {base : Nat} {v : Value} {l : List ByteArray} (h : OwnS w base v l) : OwnS w.drew base v l := h
theorem OwnS.drewN {w : World} {base : Nat} {v : Value} {l : List ByteArray} (h : OwnS w base v l) (n : Nat) : OwnS (w.drewN n) base v l := h
theorem OwnS.tch {w w' : World} {base B : Nat} {v : Value} {l : List ByteArray} (h : OwnS w base v l) (k : Tch B w w') (hB : B < base) : OwnS w' base v l := by
  refine World.ownsRow.kept h k ?_
  cases hv : v.ownBlock with
  | none => exact .inl rfl
  | some g => exact .inr (by have := (World.ownsRow.lt h g hv).1; intro e; cases e; omega)
theorem OwnS.below {w w' : World} {base N : Nat} {v : Value} {l : List ByteArray} (h : OwnS w base v l) (hb : Below N w w') (hN : w.heap.size ≤ N) : OwnS w' base v l := by
  refine World.ownsRow.kept (row := none) h ⟨hb.os, hb.tape, hb.output, hb.size, fun k hk _ => hb.block k (by omega)⟩ ?_
  cases hv : v.ownBlock with
  | none => exact .inl rfl
  | some k => exact .inr (by simp)
theorem OwnS.base {w : World} {b c : Nat} {v : Value} {l : List ByteArray} (h : OwnS w c v l) (hb : b ≤ c) : OwnS w b v l :=
  ⟨h.1, h.2.imp id fun ⟨g, cap, cur, hv, hg, r⟩ => ⟨g, cap, cur, hv, Nat.le_trans hb hg, r⟩⟩
theorem OwnS.strs {w : World} {base : Nat} {v : Value} {l : List ByteArray} (h : OwnS w base v l) : StrsAt base w.heap.size w v l := by
  rcases h.2 with ⟨hv, h0⟩ | ⟨g, cap, cur, hv, hb, hg, hcap, _⟩
  · have : l = [] := List.length_eq_zero_iff.1 h0
    subst this
    exact ⟨none, 0, hv, Nat.le_refl _, fun h => absurd rfl h⟩
  · refine ⟨some ⟨g, 0, none⟩, cap, hv, hcap, fun _ => ⟨g, 0, rfl, hb, (Array.getElem?_eq_some_iff.1 hg).1, fun i hi => ?_⟩⟩
    subst hv
    have := World.ownsRow.cellAt h i (by omega)
    rw [Nat.zero_add, this]
    simp [List.getElem?_eq_getElem hi]
theorem OwnS.shape {w : World} {base : Nat} {v : Value} {l : List ByteArray} (h : OwnS w base v l) : ∃ a cap, v = .slice a l.length cap ∧ l.length ≤ cap ∧ (0 < l.length → ∃ g, a = some ⟨g, 0, none⟩) := by
  rcases h.2 with ⟨hv, h0⟩ | ⟨g, cap, cur, hv, _, _, hcap, _⟩
  · exact ⟨none, 0, by rw [hv, h0], by omega, fun h => by omega⟩
  · exact ⟨_, cap, hv, hcap, fun _ => ⟨g, rfl⟩⟩
theorem OwnS.grown_below {base : Nat} {w w' : World} {v : Value} {l : List ByteArray} (hown : OwnS w base v l) (hg : w.grownBy w' v.ownBlock) (hb : base ≤ w.heap.size) : Below base w w' := by
  refine (Below.refl base w).grown hg hb (fun k hk => (World.ownsRow.lt hown k hk).1)
end Hub
end Go.Proofs.Ytbbfbeacgnimpaa
