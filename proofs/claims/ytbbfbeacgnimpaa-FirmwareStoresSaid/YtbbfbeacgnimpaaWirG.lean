/-
  The walks of the reference's reader: making it, its error, its end, its numbers.
-/
import Derived.Test.YtbbfbeacgnimpaaWirF
import Derived.Deep.QuietTactic
import Derived.BigQuiet
open Go Go.RowKit Go.Proofs
namespace Go.Proofs.Ytbbfbeacgnimpaa
namespace Hub
/-- Block B is the reference's reader of the string S in state r, at position p. -/
def RdRp (B : Nat) (S : ByteArray) (p : Nat) (r : Rs) (w : World) : Prop :=
  w.heap[B]? = some (.cells #[.string S, .int .i64 (p : Int), .int .i64 r.err, .bool true] 86 (0, 0)) ∧ p ≤ S.size ∧ r.rest = (bl S).drop p ∧ S.size ≤ 1099511627776
def RdR (B : Nat) (S : ByteArray) (r : Rs) (w : World) : Prop := ∃ p, RdRp B S p r w
variable {B : Nat} {S : ByteArray} {p : Nat} {r : Rs} {w : World}
theorem RdRp.lt (h : RdRp B S p r w) : B < w.heap.size := (Array.getElem?_eq_some_iff.1 h.1).1
theorem RdRp.c0 (h : RdRp B S p r w) : w.cell? ⟨B, 0, none⟩ = some (.string S) := by rw [Lib.cell_of_heap h.1]; rfl
theorem RdRp.c1 (h : RdRp B S p r w) : w.cell? ⟨B, 1, none⟩ = some (.int .i64 (p : Int)) := by rw [Lib.cell_of_heap h.1]; rfl
theorem RdRp.c2 (h : RdRp B S p r w) : w.cell? ⟨B, 2, none⟩ = some (.int .i64 r.err) := by rw [Lib.cell_of_heap h.1]; rfl
theorem RdRp.c3 (h : RdRp B S p r w) : w.cell? ⟨B, 3, none⟩ = some (.bool true) := by rw [Lib.cell_of_heap h.1]; rfl
theorem RdRp.f (h : RdRp B S p r w) (i : Nat) : w.frozen? ⟨B, i, none⟩ = false := Lib.frozen_of_heap h.1 i
theorem RdRp.len (h : RdRp B S p r w) : r.rest.length = S.size - p := by rw [h.2.2.1, List.length_drop, size_bl]
theorem RdRp.set1 (h : RdRp B S p r w) (q : Nat) (hq : q ≤ S.size) : RdRp B S q { r with rest := (bl S).drop q } (w.setCell ⟨B, 1, none⟩ (.int .i64 (q : Int))) := by
  refine ⟨?_, hq, rfl, h.2.2.2⟩
  simp [World.setCell, Array.getElem?_modify, h.1]
theorem RdRp.set2 (h : RdRp B S p r w) (e : Int) : RdRp B S p { r with err := e } (w.setCell ⟨B, 2, none⟩ (.int .i64 e)) := by
  refine ⟨?_, h.2⟩
  simp [World.setCell, Array.getElem?_modify, h.1]
theorem RdRp.drew (h : RdRp B S p r w) : RdRp B S p r w.drew := h
theorem RdRp.drewN (h : RdRp B S p r w) (n : Nat) : RdRp B S p r (w.drewN n) := h
theorem RdR.lt (h : RdR B S r w) : B < w.heap.size := h.elim fun _ h => h.lt
theorem RdR.drewN (h : RdR B S r w) (n : Nat) : RdR B S r (w.drewN n) := h
theorem RdR.kept {C : Nat} {w' : World} (h : RdR B S r w) (k : Tch C w w') (hn : B ≠ C) : RdR B S r w' := by
  obtain ⟨p, h⟩ := h
  exact ⟨p, by rw [k.block B h.lt (by simpa using hn)]; exact h.1, h.2⟩
theorem RdR.below {N : Nat} {w' : World} (h : RdR B S r w) (k : Below N w w') (hn : B < N) : RdR B S r w' := by
  obtain ⟨p, h⟩ := h
  exact ⟨p, by rw [k.block B hn]; exact h.1, h.2⟩
theorem RdR.grown {w' : World} {row : Option Nat} (h : RdR B S r w) (k : w.grownBy w' row) (hr : row ≠ some B) : RdR B S r w' := by
  obtain ⟨p, h⟩ := h
  exact ⟨p, by rw [k.block B h.lt (fun e => hr e.symm)]; exact h.1, h.2⟩
theorem Tch.drewN {a : World} (h : Tch B a w) (n : Nat) : Tch B a (w.drewN n) := ⟨h.os, h.tape, h.output, h.size, h.block⟩
theorem quiet_ret {P : Program} {f : FuncId} {args : Array Value} {n : Nat} {v : Value}
    (h : Calls P f args (w.drewN n) fun e w' => e = .returned v ∧ w.drewN n = w') : Calls P f args (w.drewN n) fun e w'' => e = .returned v ∧ ∃ m, w'' = w.drewN m :=
  h.mono fun _ _ ⟨he, hm⟩ => ⟨he, n, hm.symm⟩
end Hub
open Hub

theorem xNew_any (s : ByteArray) (w : World) (hs : s.size ≤ 1099511627776) :
    Calls Try.prog 43 #[.string s] w fun e w' => e = .returned (.pointer (some ⟨w.heap.size, 0, none⟩)) ∧ RdR w.heap.size s { rest := bl s, err := 0 } w' ∧ Below w.heap.size w w' ∧ w'.heap.size = w.heap.size + 1 := by
  go_enter Try.func43, Try.ntmps43
  go_wp2
  go_ret
  exact ⟨rfl, ⟨0, by rw [heap_alloc_new]; rfl, Nat.zero_le _, rfl, hs⟩, (Below.refl _ _).alloc (Nat.le_refl _) _, by simp⟩

theorem xErr_any (B : Nat) (S : ByteArray) (r : Rs) (w : World) (h : RdR B S r w) :
    Calls Try.prog 63 #[.pointer (some ⟨B, 0, none⟩)] w fun e w' => e = .returned (.int .i64 r.err) ∧ w = w' := by
  obtain ⟨p, h⟩ := h
  have h1 := h.c2
  have h2 := h.c3
  go_enter Try.func63, Try.ntmps63
  go_wp2
  go_ret
  exact ⟨rfl, rfl⟩

theorem xEnd_any (B : Nat) (S : ByteArray) (r : Rs) (w : World) (h : RdR B S r w) :
    Calls Try.prog 46 #[.pointer (some ⟨B, 0, none⟩)] w fun e w' => e = .returned (.int .i64 (rEnd r)) ∧ ∃ n, w' = w.drewN n := by
  have h' := h
  obtain ⟨p, hp⟩ := h
  have h0 := hp.c0
  have h1 := hp.c1
  have hl := hp.len
  obtain ⟨_, hpS, _, hS⟩ := hp
  by_cases he : r.err = 0
  · have hv : rEnd r = if (p : Int) < S.size then 23 else 0 := by
      rw [rEnd, if_neg (by omega)]
      split <;> split <;> first | rfl | omega
    rw [hv]; clear hv
    have heb : (r.err != 0) = false := by simpa using he
    clear he hl
    by_cases hps : (p : Int) < S.size
    · rw [if_pos hps]
      go_enter Try.func46, Try.ntmps46
      go_wp2_with (go_at_call 63; refine (xErr_any B S r _ h').mono ?_; rintro e w1 ⟨rfl, rfl⟩)
      go_quiet (fail)
      go_wp2
      go_ret
      exact ⟨rfl, ⟨_, rfl⟩⟩
    · rw [if_neg hps]
      go_enter Try.func46, Try.ntmps46
      go_wp2_with (go_at_call 63; refine (xErr_any B S r _ h').mono ?_; rintro e w1 ⟨rfl, rfl⟩)
      go_quiet (fail)
      go_wp2
      go_ret
      exact ⟨rfl, ⟨_, rfl⟩⟩
  · have hv : rEnd r = r.err := by rw [rEnd, if_pos he]
    rw [hv]; clear hv
    have heb : (r.err != 0) = true := by simpa using he
    clear he
    go_enter Try.func46, Try.ntmps46
    go_wp2_with (go_at_call 63; refine (xErr_any B S r _ h').mono ?_; rintro e w1 ⟨rfl, rfl⟩)
    go_ret
    exact ⟨rfl, ⟨0, rfl⟩⟩
end Go.Proofs.Ytbbfbeacgnimpaa
