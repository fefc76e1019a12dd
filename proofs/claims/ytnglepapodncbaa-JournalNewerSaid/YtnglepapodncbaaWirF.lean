/-
  The walk of the reader's reading of a list, the program's.
-/
import Derived.Test.YtnglepapodncbaaWirE
import Derived.Deep.LoopGhost
open Go Go.RowKit Go.Proofs
namespace Go.Proofs.Ytnglepapodncbaa
namespace Hub
theorem int_info : (Try.prog.info? 3).map (fun i => (i.zero, i.size, i.bytes)) = some (some (.int .i64 0), 1, 8) := by kernel_rfl
/-- v is a slice of the call's own, from block 'base' on (or nil), that holds the numbers l. -/
def OwnI (w : World) (base : Nat) (v : Value) (l : List Int) : Prop := w.ownsRow base 3 1 v l.length (l.map fun x => Value.int .i64 x)
theorem OwnI.nil (w : World) (base : Nat) : OwnI w base (.slice none 0 0) [] := World.ownsRow_nil w base _ _
theorem OwnI.alloc {w : World} {base : Nat} {v : Value} {l : List Int} (h : OwnI w base v l) (o : Obj) : OwnI (w.alloc o) base v l := World.ownsRow.alloc h o
theorem OwnI.tch {w w' : World} {base B : Nat} {v : Value} {l : List Int} (h : OwnI w base v l) (k : Tch B w w') (hB : B < base) : OwnI w' base v l := by
  refine World.ownsRow.kept h k ?_
  cases hv : v.ownBlock with
  | none => exact .inl rfl
  | some g => exact .inr (by have := (World.ownsRow.lt h g hv).1; intro e; cases e; omega)
theorem OwnI.below {w w' : World} {base N : Nat} {v : Value} {l : List Int} (h : OwnI w base v l) (hb : Below N w w') (hN : w.heap.size ≤ N) : OwnI w' base v l := by
  refine World.ownsRow.kept (row := none) h ⟨hb.os, hb.tape, hb.output, hb.size, fun k hk _ => hb.block k (by omega)⟩ ?_
  cases hv : v.ownBlock with
  | none => exact .inl rfl
  | some k => exact .inr (by simp)
theorem OwnI.base {w : World} {b c : Nat} {v : Value} {l : List Int} (h : OwnI w c v l) (hb : b ≤ c) : OwnI w b v l :=
  ⟨h.1, h.2.imp id fun ⟨g, cap, cur, hv, hg, r⟩ => ⟨g, cap, cur, hv, Nat.le_trans hb hg, r⟩⟩
theorem OwnI.ints {w : World} {base : Nat} {v : Value} {l : List Int} (h : OwnI w base v l) : IntsAt base w.heap.size w v l := by
  rcases h.2 with ⟨hv, h0⟩ | ⟨g, cap, cur, hv, hb, hg, _⟩
  · have : l = [] := List.length_eq_zero_iff.1 h0
    subst this
    exact ⟨none, 0, hv, fun h => absurd rfl h⟩
  · refine ⟨some ⟨g, 0, none⟩, cap, hv, fun _ => ⟨g, 0, rfl, hb, (Array.getElem?_eq_some_iff.1 hg).1, fun i hi => ?_⟩⟩
    subst hv
    have := World.ownsRow.cellAt h i (by omega)
    rw [Nat.zero_add, this]
    simp [List.getElem?_eq_getElem hi]
theorem Tch.grown {B : Nat} {w a c : World} {row : Option Nat} (h : Tch B w a) (k : a.grownBy c row) (hr : ∀ g, row = some g → w.heap.size ≤ g) : Tch B w c :=
  ⟨k.os.trans h.os, k.tape.trans h.tape, k.output.trans h.output, Nat.le_trans h.size k.size, fun i hi hn => (k.block i (Nat.lt_of_lt_of_le hi h.size) (by intro e; have := hr i e.symm; omega)).trans (h.block i hi hn)⟩
theorem RdP.grown {B : Nat} {r : Rs} {w w' : World} {row : Option Nat} (h : RdP B r w) (k : w.grownBy w' row) (hr : row ≠ some B) : RdP B r w' := ⟨by rw [k.block B h.lt (fun e => hr e.symm)]; exact h.1, h.2⟩
end Hub
open Hub

end Go.Proofs.Ytnglepapodncbaa
