/-
  strings.Builder at this program: the walks of copyCheck and WriteString, and the contract of String.
-/
import Derived.Shelf.Strings.Builder1
import Derived.Test.YtbbfbeacgnimpaaProg
import Derived.Test.YtbbfbeacgnimpaaOwn
open Go Go.RowKit Go.Proofs Go.Shelf
namespace Go.Proofs.Ytbbfbeacgnimpaa
namespace Hub
def ren169 : Go.Shelf.Ren := ⟨fun | 169 => 62 | n => n, fun | 70 => 77 | 9 => 9 | 0 => 0 | 72 => 79 | 37 => 76 | 127 => 90 | 3 => 3 | 5 => 5 | n => n, fun | n => n⟩
theorem lays169 : Go.Proofs.Lays.n169 Try.prog ren169 := {
  mixed := by kernel_rfl
  f169 := Try.func62.trans (congrArg some (by kernel_rfl))
  t0 := Try.underlying0
  a0 := Try.isAgg0
  z0 := Try.sizeOf0
  v0 := Try.zeroValue0
  t3 := Try.underlying3
  a3 := Try.isAgg3
  z3 := Try.sizeOf3
  v3 := Try.zeroValue3
  t9 := Try.underlying9
  a9 := Try.isAgg9
  z9 := Try.sizeOf9
  v9 := Try.zeroValue9
  t37 := Try.underlying76
  a37 := Try.isAgg76
  z37 := Try.sizeOf76
  v37 := Try.zeroValue76
  t70 := Try.underlying77
  a70 := Try.isAgg77
  z70 := Try.sizeOf77
  v70 := Try.zeroValue77
  t72 := Try.underlying79
  a72 := Try.isAgg79
  z72 := Try.sizeOf79
  v72 := Try.zeroValue79
  t127 := Try.underlying90
  a127 := Try.isAgg90
  z127 := Try.sizeOf90
  v127 := Try.zeroValue90 }
theorem extra169 : Builder.Extra Try.prog ren169 := {
  sizeBuilder := by kernel_rfl
  liesBuilder := by kernel_rfl
  t5 := Try.underlying5
  a5 := Try.isAgg5
  z5 := Try.sizeOf5
  v5 := Try.zeroValue5
  infoByte := by kernel_rfl
  cellsByte := by kernel_rfl
  sizeByte := by kernel_rfl
  neB5 := by decide }

/-- A builder of the call's own, in block b, that holds the bytes l; whatever it owns lies from block b on. -/
def IsBld (b : Nat) (l : List UInt8) (w : World) : Prop := Lib.IsBuilder 79 5 b b (vals l) w
theorem IsBld.fresh (w : World) : IsBld w.heap.size [] (w.alloc (.cells #[.pointer none, .slice none 0 0] 79)) := Lib.fresh_isBuilder _ _ w
theorem bldAt_below {b N : Nat} {p : Value} {bs : List Value} {w w' : World} (h : Lib.BuilderAt 79 5 b b p bs w) (hb : Below N w w') (hN : w.heap.size ≤ N) : Lib.BuilderAt 79 5 b b p bs w' := by
  have hlt := h.lt
  obtain ⟨hB, v, hbk, hown, hne⟩ := h
  refine ⟨hB, v, by rw [hb.block b (by omega)]; exact hbk, ?_, hne⟩
  refine World.ownsRow.kept (row := none) hown ⟨hb.os, hb.tape, hb.output, hb.size, fun k hk _ => hb.block k (by omega)⟩ ?_
  cases hv : v.ownBlock with
  | none => exact .inl rfl
  | some k => exact .inr (by simp)
theorem IsBld.below {b N : Nat} {l : List UInt8} {w w' : World} (h : IsBld b l w) (hb : Below N w w') (hN : w.heap.size ≤ N) : IsBld b l w' :=
  h.elim (fun x => .inl (bldAt_below x hb hN)) (fun x => .inr (bldAt_below x hb hN))
theorem IsBld.lt {b : Nat} {l : List UInt8} {w : World} (h : IsBld b l w) : b < w.heap.size := h.elim (·.lt) (·.lt)

theorem bldString (b : Nat) (l : List UInt8) (w : World) (h : IsBld b l w) :
    Calls Try.prog 62 #[.pointer (some ⟨b, 0, none⟩)] w fun e w' => e = .returned (.string (mk l)) ∧ Below b w w' :=
  Any.Builder_String_any lays169 extra169 b b l w h (Nat.le_of_lt h.lt)

set_option maxHeartbeats 1000000 in
set_option maxRecDepth 100000 in
theorem bldCheck (b : Nat) (l : List UInt8) (w : World) (h : IsBld b l w) :
    Calls Try.prog 68 #[.pointer (some ⟨b, 0, none⟩)] w fun e w' => e = .returned (.tuple #[]) ∧ Lib.BuilderAt 79 5 b b (.pointer (some ⟨b, 0, none⟩)) (vals l) w' ∧ Below b w w' ∧ w'.heap.size = w.heap.size := by
  obtain ⟨j, hj, hjs⟩ := Option.map_eq_some_iff.1 extra169.sizeBuilder
  rcases h with h | h
  · have h0 := h.cell0
    have hsh := h.shape
    have hfz := h.frozen0
    go_enter Try.func68, Try.ntmps68
    go_wp2
    rw [Lib.run_to_unsafe w ⟨b, 0, none⟩ Try.underlying77 Try.underlying91 hj (by rw [hjs]; decide) hsh (Nat.zero_lt_succ 1)]
    simp only [Result.andThen]
    rw [Oper.upon_value]
    go_wp2
    rw [run_callFunc_extern Try.func70 (by kernel_rfl) (by kernel_rfl) (by kernel_rfl) (e := Extern.AbiNoEscape.same) (by kernel_rfl)]
    rw [Lib.run_noEscape]
    simp only [Result.andThen]
    rw [Oper.upon_value]
    go_wp2
    rw [Lib.run_from_unsafe w ⟨b, 0, none⟩ Try.underlying91 Try.underlying77 hj hsh extra169.liesBuilder]
    simp only [Result.andThen]
    rw [Oper.upon_value]
    go_wp2
    go_end0
    exact ⟨rfl, h.used _, (Below.refl b w).setCell (p := ⟨b, 0, none⟩) (Nat.le_refl _) _, by simp [World.setCell]⟩
  · have h0 := h.cell0
    go_enter Try.func68, Try.ntmps68
    go_wp2
    rw [Lib.run_neq_ptr_same w _ Try.underlying77 hj]
    go_wp2
    go_end0
    exact ⟨rfl, h, Below.refl b _, rfl⟩

set_option maxHeartbeats 1000000 in
set_option maxRecDepth 100000 in
theorem bldWrite (b : Nat) (l : List UInt8) (s : ByteArray) (w : World) (h : IsBld b l w) (hlen : l.length + s.size ≤ 140737488355328) :
    Calls Try.prog 61 #[.pointer (some ⟨b, 0, none⟩), .string s] w fun e w' => e = .returned (.tuple #[.int .i64 s.size, .nilIface]) ∧ IsBld b (l ++ bl s) w' ∧ Below b w w' := by
  obtain ⟨i0, hi, hz0, hz1, hz2⟩ := info_parts u8_info
  have hlb := h.lt
  go_enter Try.func61, Try.ntmps61
  go_wp2_with (go_at_call 68; refine (bldCheck b l _ h).mono ?_)
  rintro e w1 ⟨rfl, h1, hb1, hs1⟩
  obtain ⟨hB, v, hbk, hown, hne⟩ := h1
  have c0 : w1.cell? ⟨b, 0, none⟩ = some (.pointer (some ⟨b, 0, none⟩)) := by rw [Lib.cell_of_heap hbk]; rfl
  have c1 : w1.cell? ⟨b, 1, none⟩ = some v := by rw [Lib.cell_of_heap hbk]; rfl
  go_wp2_with (at_builtin; refine Lib.wpList_append_own_string _ rfl _ _ 76 9 rfl b 5 i0 Try.underlying76 Try.underlying9 hi hz0 hz1 hz2 _ _ _ rfl hown s rfl ?c3 ?c4 ?c5 ?_)
  case c3 => rw [vals_length]; unfold maxLen; omega
  case c4 => rw [vals_length]; omega
  case c5 => omega
  intro v' w2 hown' hgrow _
  have hb2 : w2.heap[b]? = some (.cells #[.pointer (some ⟨b, 0, none⟩), v] 79 (0, 0)) := by
    rw [hgrow.block b (by omega) (fun e => hne e.symm)]
    exact hbk
  have d0 : w2.cell? ⟨b, 0, none⟩ = some (.pointer (some ⟨b, 0, none⟩)) := by rw [Lib.cell_of_heap hb2]; rfl
  have d1 : w2.cell? ⟨b, 1, none⟩ = some v := by rw [Lib.cell_of_heap hb2]; rfl
  have f1 : w2.frozen? ⟨b, 1, none⟩ = false := Lib.frozen_of_heap hb2 1
  obtain ⟨ao, n', cap, rfl⟩ : ∃ ao n' cap, v' = .slice ao n' cap := by
    rcases hown'.2 with ⟨hv, _⟩ | ⟨g, cap, cur, hv, _⟩
    · exact ⟨_, _, _, hv⟩
    · exact ⟨_, _, _, hv⟩
  go_wp2
  go_ret2
  refine ⟨rfl, .inr ?_, ?_⟩
  · refine Lib.BuilderAt.put (T := 79) (e := 5) hB hb2 (bs' := vals (l ++ bl s)) ?_ extra169.neB5
    have : vals (l ++ bl s) = vals l ++ Lib.strCells s := by rw [vals_append, strCells_vals]
    rw [this]
    simpa [Lib.strCells_length] using hown'
  · exact (hb1.grown hgrow (by omega) (fun k hk => (hown.lt k hk).1)).setCell (p := ⟨b, 1, none⟩) hB _
end Hub
end Go.Proofs.Ytbbfbeacgnimpaa
