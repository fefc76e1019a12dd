/-
  Cells that stay: a list of cells and what they hold, kept by what turns other blocks.
-/
import Derived.Test.YtegngjdeifbdiaaRepO
open Go Go.RowKit Go.Proofs
namespace Go.Proofs.Ytegngjdeifbdiaa
namespace Hub
/-- The world holds each of the cells of the list. -/
def Kp (L : List (Nat × Nat × Value)) (X : World) : Prop := ∀ e ∈ L, X.cell? ⟨e.1, e.2.1, none⟩ = some e.2.2
theorem Kp.hd {L : List (Nat × Nat × Value)} {X : World} {B o : Nat} {v : Value} (h : Kp ((B, o, v) :: L) X) : X.cell? ⟨B, o, none⟩ = some v := h _ List.mem_cons_self
theorem Kp.tl {L : List (Nat × Nat × Value)} {X : World} {e : Nat × Nat × Value} (h : Kp (e :: L) X) : Kp L X := fun x hx => h x (List.mem_cons_of_mem _ hx)
theorem Kp.nil {X : World} : Kp [] X := fun x hx => by simp at hx
theorem Kp.cons {L : List (Nat × Nat × Value)} {X : World} {B o : Nat} {v : Value} (h0 : X.cell? ⟨B, o, none⟩ = some v) (h : Kp L X) : Kp ((B, o, v) :: L) X := by
  intro x hx
  rcases List.mem_cons.1 hx with rfl | hx
  · exact h0
  · exact h x hx
theorem Kp.lt {L : List (Nat × Nat × Value)} {X : World} {B o : Nat} {v : Value} (h : Kp ((B, o, v) :: L) X) : B < X.heap.size := World.block_lt_of_cell? X ⟨B, o, none⟩ h.hd
theorem Kp.below {L : List (Nat × Nat × Value)} {X Y : World} (h : Kp L X) (hb : Below X.heap.size X Y) : Kp L Y :=
  fun x hx => (hb.cell (p := ⟨x.1, x.2.1, none⟩) (World.block_lt_of_cell? X _ (h x hx))).trans (h x hx)
theorem Kp.alloc {L : List (Nat × Nat × Value)} {X : World} (h : Kp L X) (o : Obj) : Kp L (X.alloc o) := h.below ((Below.refl _ _).alloc (Nat.le_refl _) o)
theorem Kp.drew {L : List (Nat × Nat × Value)} {X : World} (h : Kp L X) : Kp L X.drew := h
theorem Kp.set {L : List (Nat × Nat × Value)} {X : World} (h : Kp L X) (B o : Nat) (v : Value) (hB : ∀ e ∈ L, e.1 ≠ B) : Kp L (X.setCell ⟨B, o, none⟩ v) :=
  fun x hx => (World.cell?_setCell_other _ _ _ _ (by have := hB x hx; simp; try (intro h; exact absurd h.symm (by first | exact this | exact Ne.symm this)))).trans (h x hx)
theorem Kp.two {L : List (Nat × Nat × Value)} {X : World} (h : Kp L X) (u v : Value) (T : TypeId) : Kp ((X.heap.size, 0, u) :: (X.heap.size, 1, v) :: L) (X.alloc (.cells #[u, v] T)) :=
  Kp.cons ((World.cell?_alloc_at _ _ _ _ rfl).trans rfl) (Kp.cons ((World.cell?_alloc_at _ _ _ _ rfl).trans rfl) (h.alloc _))
theorem Kp.five {L : List (Nat × Nat × Value)} {X : World} (h : Kp L X) (a b c d e : Value) (T : TypeId) : Kp ((X.heap.size, 0, a) :: (X.heap.size, 1, b) :: (X.heap.size, 2, c) :: (X.heap.size, 3, d) :: (X.heap.size, 4, e) :: L) (X.alloc (.cells #[a, b, c, d, e] T)) :=
  Kp.cons ((World.cell?_alloc_at _ _ _ _ rfl).trans rfl) (Kp.cons ((World.cell?_alloc_at _ _ _ _ rfl).trans rfl) (Kp.cons ((World.cell?_alloc_at _ _ _ _ rfl).trans rfl) (Kp.cons ((World.cell?_alloc_at _ _ _ _ rfl).trans rfl) (Kp.cons ((World.cell?_alloc_at _ _ _ _ rfl).trans rfl) (h.alloc _)))))
theorem step_al {w X : World} (h : Below w.heap.size w X) (o : Obj) : Below w.heap.size w (X.alloc o) := h.alloc h.size o
theorem step_drew {w X : World} (h : Below w.heap.size w X) : Below w.heap.size w X.drew := ⟨h.os, h.tape, h.output, h.size, h.block⟩
end Hub
end Go.Proofs.Ytegngjdeifbdiaa
