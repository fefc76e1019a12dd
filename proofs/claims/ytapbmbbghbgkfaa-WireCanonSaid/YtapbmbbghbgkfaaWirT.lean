/-
  Fields that are read: a grown list of them in memory.
-/
import Derived.Test.YtapbmbbghbgkfaaWirR
import Derived.Deep.LoopGhost
open Go Go.RowKit Go.Proofs
namespace Go.Proofs.Ytapbmbbghbgkfaa
namespace Hub
theorem fd_info : (Try.prog.info? 37).map (fun i => (i.zero, i.size, i.bytes)) = some (some (.agg #[.int .i64 0, .int .i64 0, .string ByteArray.empty, .slice none 0 0]), 4, 56) := by kernel_rfl
def fcells (f : WFd) : List Value := [.int .i64 f.kind, .int .i64 f.n, .string f.s, f.v]
theorem fcells_at (l : List WFd) : ∀ (i j : Nat) (hi : i < l.length), j < 4 → (l.flatMap fcells)[i * 4 + j]? = (fcells l[i])[j]? := by
  induction l with
  | nil => intro i j hi; simp at hi
  | cons f l ih =>
    intro i j hi hj
    rw [List.flatMap_cons]
    cases i with
    | zero => rw [Nat.zero_mul, Nat.zero_add, List.getElem?_append_left (by simpa [fcells] using hj)]; rfl
    | succ i =>
      rw [List.getElem?_append_right (by simp [fcells]; omega)]
      have e : (i + 1) * 4 + j - (fcells f).length = i * 4 + j := by simp [fcells]; omega
      rw [e, ih i j (by simpa using hi) hj]; rfl
/-- v is a slice of the call's own, from block 'base' on (or nil), that holds the fields l. -/
def OwnF (w : World) (base : Nat) (v : Value) (l : List WFd) : Prop := w.ownsRow base 37 4 v l.length (l.flatMap fcells)
theorem OwnF.nil (w : World) (base : Nat) : OwnF w base (.slice none 0 0) [] := World.ownsRow_nil w base _ _
theorem OwnF.alloc {w : World} {base : Nat} {v : Value} {l : List WFd} (h : OwnF w base v l) (o : Obj) : OwnF (w.alloc o) base v l := World.ownsRow.alloc h o
theorem OwnF.tch {w w' : World} {base B : Nat} {v : Value} {l : List WFd} (h : OwnF w base v l) (k : Tch B w w') (hB : v.ownBlock ≠ some B) : OwnF w' base v l := by
  refine World.ownsRow.kept h k (.inr hB)
theorem OwnI.tch' {w w' : World} {base B : Nat} {v : Value} {l : List Int} (h : OwnI w base v l) (k : Tch B w w') (hB : v.ownBlock ≠ some B) : OwnI w' base v l := by
  refine World.ownsRow.kept h k (.inr hB)
theorem fi_ne {w : World} {base base' : Nat} {v u : Value} {l : List WFd} {m : List Int} (h : OwnF w base v l) (k : OwnI w base' u m) : u.ownBlock = none ∨ u.ownBlock ≠ v.ownBlock := by
  rcases h.2 with ⟨rfl, _⟩ | ⟨g, cap, cur, rfl, hb, hg, _⟩
  · cases h : u.ownBlock with
    | none => exact .inl rfl
    | some b => exact .inr (by simp [Value.ownBlock])
  · rcases k.2 with ⟨rfl, _⟩ | ⟨g', cap', cur', rfl, hb', hg', _⟩
    · exact .inl rfl
    · refine .inr fun e => ?_
      simp only [Value.ownBlock, Option.some.injEq] at e
      subst e
      rw [hg] at hg'
      simp at hg'
theorem OwnF.fds {w : World} {base : Nat} {v : Value} {l : List WFd} (h : OwnF w base v l) (hI : ∀ f ∈ l, OwnI w base f.v f.l) : FdsAt base w.heap.size w v l := by
  rcases h.2 with ⟨hv, h0⟩ | ⟨g, cap, cur, hv, hb, hg, _⟩
  · have : l = [] := List.length_eq_zero_iff.1 h0
    subst this
    exact ⟨none, 0, hv, fun h => absurd rfl h⟩
  · refine ⟨some ⟨g, 0, none⟩, cap, hv, fun _ => ⟨g, 0, rfl, hb, (Array.getElem?_eq_some_iff.1 hg).1, fun i hi => ?_⟩⟩
    subst hv
    have c (j : Nat) (hj : j < 4) : w.cell? ⟨g, 0 + i * 4 + j, none⟩ = (fcells l[i])[j]? := by
      rw [Nat.zero_add, World.ownsRow.cellAt h (i * 4 + j) (by omega), fcells_at l i j hi hj]
    exact ⟨(c 0 (by decide)).trans rfl, (c 1 (by decide)).trans rfl, (c 2 (by decide)).trans rfl, (c 3 (by decide)).trans rfl, (hI _ (List.getElem_mem hi)).ints⟩
end Hub
end Go.Proofs.Ytapbmbbghbgkfaa
