/-
  Steps on a byte slice that the call itself owns: appending a string, appending bytes, turning it into a string; over this program's type numbers.
-/
import Derived.Test.YtbbfbeacgnimpaaProg
import Derived.Test.YtbbfbeacgnimpaaLib
import Derived.Lib.AppendStr
open Go Go.RowKit Go.Proofs
namespace Go.Proofs.Ytbbfbeacgnimpaa
namespace Hub

/-- v is a slice of the call's own, from block 'base' on (or nil), that holds the bytes l. -/
def OwnB (w : World) (base : Nat) (v : Value) (l : List UInt8) : Prop := w.ownsRow base 5 1 v l.length (vals l)
theorem vals_length (l : List UInt8) : (vals l).length = l.length := by simp [vals]
theorem vals_append (a b : List UInt8) : vals (a ++ b) = vals a ++ vals b := by simp [vals]
theorem strCells_vals (s : ByteArray) : Lib.strCells s = vals (bl s) := rfl
theorem OwnB.nil (w : World) (base : Nat) : OwnB w base (.slice none 0 0) [] := World.ownsRow_nil w base _ _
theorem OwnB.alloc {w : World} {base : Nat} {v : Value} {l : List UInt8} (h : OwnB w base v l) (o : Obj) : OwnB (w.alloc o) base v l := World.ownsRow.alloc h o
theorem OwnB.drew {w : World} {base : Nat} {v : Value} {l : List UInt8} (h : OwnB w base v l) : OwnB w.drew base v l := h
theorem OwnB.below {w w' : World} {base N : Nat} {v : Value} {l : List UInt8} (h : OwnB w base v l) (hb : Below N w w') (hN : w.heap.size ≤ N) : OwnB w' base v l := by
  refine World.ownsRow.kept (row := none) h ⟨hb.os, hb.tape, hb.output, hb.size, fun k hk _ => hb.block k (by omega)⟩ ?_
  cases hv : v.ownBlock with
  | none => exact .inl rfl
  | some k => exact .inr (by simp)
theorem OwnB.lit (w : World) (base : Nat) (cs : Array Value) (l : List UInt8) (hc : cs.toList = vals l) (hb : base ≤ w.heap.size) (hl : l.length ≤ 1099511627776) :
    OwnB (w.alloc (.cells cs 5)) base (.slice (some ⟨w.heap.size, 0, none⟩) l.length l.length) l := by
  have := World.ownsRow_lit (e := 5) (size := 1) w cs l.length hb (by unfold maxLen; omega) (by rw [← Array.length_toList, hc, vals_length]; omega)
  rw [hc] at this; exact this
theorem vals_one (l : List UInt8) : ∀ u ∈ vals l, u.oneCell' = true := by
  intro u hu; simp only [vals, List.mem_map] at hu; obtain ⟨b, _, rfl⟩ := hu; rfl
theorem grown_below {base : Nat} {w w' : World} {v : Value} {n : Nat} {xs : List Value} {e : TypeId} (hown : w.ownsRow base e 1 v n xs) (hg : w.grownBy w' v.ownBlock) (hb : base ≤ w.heap.size) : Below base w w' :=
  (Below.refl _ _).grown hg hb fun k hk => (hown.lt k hk).1

section
variable {w : World} {ops : Array Oper} {rest : List Oper} {o : Oper} {a : Act} {Q : Exit → Act → World → Prop}
theorem u8_info : (Try.prog.info? 5).map (fun i => (i.zero, i.size, i.bytes)) = some (some (.int .u8 0), 1, 1) := by kernel_rfl

theorem step_appS (hgd : o.guard = none) (sl x : Operand) (ho : o.op = .call { callee := .builtin .append, args := #[sl, x], argTypes := #[76, 9] })
    (base : Nat) (v : Value) (l : List UInt8) (hs : a.eval sl = v) (hown : OwnB w base v l) (s : ByteArray) (hx : a.eval x = .string s) (hlen : l.length + s.size ≤ 1099511627776) (hbase : base ≤ w.heap.size)
    (h : ∀ v' w', OwnB w' base v' (l ++ bl s) → Below base w w' → wpList Try.prog ops Q rest (a.put o.dst v') w') : wpList Try.prog ops Q (o :: rest) a w := by
  obtain ⟨i, h2, hz0, hz1, hz2⟩ := info_parts u8_info
  refine Lib.wpList_append_own_string w hgd sl x 76 9 ho base 5 i Try.underlying76 Try.underlying9 h2 hz0 hz1 hz2 v l.length (vals l) hs hown s hx (by unfold maxLen; omega) (by omega) hbase ?_
  intro v' w' hown' hg _
  refine h v' w' ?_ (grown_below hown hg hbase)
  unfold OwnB
  rw [vals_append, List.length_append, size_bl, ← strCells_vals]; exact hown'

theorem step_appB (hgd : o.guard = none) (sl x : Operand) (ho : o.op = .call { callee := .builtin .append, args := #[sl, x], argTypes := #[76, 76] })
    (base : Nat) (v : Value) (l m : List UInt8) (c B : Nat) (hs : a.eval sl = v) (hown : OwnB w base v l) (hx : a.eval x = .slice (some ⟨B, 0, none⟩) m.length c)
    (hm : ∀ j (hj : j < m.length), w.cell? ⟨B, j, none⟩ = some (.int .u8 (m[j].toNat : Int))) (hlen : l.length + m.length ≤ 1099511627776) (hbase : base ≤ w.heap.size)
    (h : ∀ v' w', OwnB w' base v' (l ++ m) → Below base w w' → wpList Try.prog ops Q rest (a.put o.dst v') w') : wpList Try.prog ops Q (o :: rest) a w := by
  obtain ⟨i, h2, hz0, hz1, hz2⟩ := info_parts u8_info
  refine wpList_append_own w hgd sl x 76 ho base 5 i (.int .u8 0) 1 1 Try.underlying76 h2 hz0 hz1 hz2 rfl (by omega) v l.length (vals l) hs hown ⟨B, 0, none⟩ m.length c (vals m) hx (by rw [vals_length]; omega) ?_ (vals_one m) (by unfold maxLen; omega) (by omega) hbase ?_
  · intro j u hu
    have hj : j < m.length := by
      have := (List.getElem?_eq_some_iff.1 hu).1
      rwa [vals_length] at this
    rw [add_plain, hm j hj]
    simp only [vals, List.getElem?_map, List.getElem?_eq_getElem hj, Option.map_some] at hu
    exact hu
  · intro v' w' hown' hg _
    refine h v' w' ?_ (grown_below hown hg hbase)
    unfold OwnB
    rw [vals_append, List.length_append]; exact hown'

theorem own_conv {base : Nat} {v : Value} {l : List UInt8} (hown : OwnB w base v l) : (convert 76 9 v).run Try.prog w = .ok (.string (mk l)) w := by
  rcases hown.2 with ⟨rfl, h0⟩ | ⟨g, cap, cur, rfl, _, hg, _, _, _, htake⟩
  · have : l = [] := List.length_eq_zero_iff.1 h0
    subst this
    exact run_convert_bytes_nil (P := Try.prog) w 76 5 Try.underlying76 Try.underlying5 0 0 9 Try.underlying9
  · refine run_convert_bytes_back (P := Try.prog) w 76 9 5 ⟨g, 0, none⟩ cap l Try.underlying76 Try.underlying5 Try.underlying9 fun j hj => ?_
    rw [add_plain]
    have := World.ownsRow.cellAt hown j (by omega)
    rw [this]
    simp [vals, List.getElem?_eq_getElem hj]

theorem step_strO (hgd : o.guard = none) (x : Operand) (ho : o.op = .convert 76 9 x) (base : Nat) (v : Value) (l : List UInt8)
    (hx : a.eval x = v) (hown : OwnB w base v l) (h : wpList Try.prog ops Q rest (a.put o.dst (.string (mk l))) w) : wpList Try.prog ops Q (o :: rest) a w := by
  refine wpList_plain hgd fun K hK => ?_
  have hr := own_conv hown
  unfold Oper.wp execOp
  simp only [ho, Sem.run_bind, Sem.run_pure, hx, hr, Result.andThen_ok]
  exact hK _ _ h
end
end Hub
end Go.Proofs.Ytbbfbeacgnimpaa
