/-
  Fragments: a list of numbers given as argument, opened; entries in memory are kept where another block is written.
-/
import Derived.Test.YtmjamjadfnbkdaaFsq
import Derived.Test.YtmjamjadfnbkdaaFud
import Derived.Test.YtmjamjadfnbkdaaFuc
import Derived.Test.YtmjamjadfnbkdaaFue
import Derived.Deep.Slices
open Go Go.RowKit Go.Proofs Go.Joins Go.ChangeShapes Go.WideShapes Go.Deep
namespace Go.Proofs.Ytmjamjadfnbkdaa
open Hub
section
variable {H : Type} {enc : TypeId × Value → H} {w : World} {base : Nat} {spare : Nat → Bool} {held : Bool}
theorem open_trodl {fuel : Nat} {v : Value} {x : DataW H × List MemPlace} (h : DataW.trod enc Try.prog w base spare held fuel 37 [v] = some x) :
    ∃ l : List Int, IntsAt 0 w.heap.size w v l ∧ IntB l ∧ l.length ≤ maxLen := by
  rcases open_ints Try.underlying37 Try.underlying3 cells_int h with ⟨hcs, _⟩ | ⟨a, len, cap, zs, hcs, _, hl, hm, hz, _, hcell, hwz⟩
  · simp only [List.cons.injEq, and_true] at hcs
    subst hcs
    exact ⟨[], ⟨none, 0, rfl, fun h => absurd rfl h⟩, fun x hx => by simp at hx, Nat.zero_le _⟩
  · simp only [List.cons.injEq, and_true] at hcs
    subst hcs
    have hlz : len ≤ zs.length := by rw [hz]; split <;> omega
    have hlen : (zs.take len).length = len := by rw [List.length_take]; omega
    refine ⟨zs.take len, ⟨some a, cap, by rw [hlen], fun hne => ?_⟩, fun x hx => ?_, by omega⟩
    · have h0 : 0 < len := by
        rcases Nat.eq_zero_or_pos len with h | h
        · exfalso; apply hne; rw [h]; rfl
        · exact h
      have hsp := spot_noneS (hcell 0 (by omega))
      refine ⟨a.block, a.off, by rw [← hsp], Nat.zero_le _, World.block_lt_of_cell? w ⟨a.block, a.off + 0, none⟩ (add_offS (hcell 0 (by omega))), fun i hi => ?_⟩
      rw [hlen] at hi
      rw [add_offS (hcell i (by omega))]
      simp [List.getD, List.getElem?_eq_getElem (show i < zs.length by omega)]
    · have := hwz x (List.mem_of_mem_take hx)
      exact bounds_i64 this
theorem open_intl {r : Reach} {b0 : Nat} {v : Value} {d : DataW H} {p : List MemPlace} (hv : Value.okWide Try.prog w r b0 37 v) (h : DataW.Trod enc Try.prog w base spare held 37 v d p) :
    ∃ l : List Int, IntsAt 0 w.heap.size w v l ∧ IntB l ∧ l.length ≤ maxLen := by
  obtain ⟨fuel, hf⟩ := h
  obtain ⟨a, len, cap, rfl⟩ := okWide_slice Try.underlying37 hv
  exact open_trodl (by simpa [Value.cells] using hf)
end
namespace Hub
section
variable {lo N C : Nat} {w w' : World}
theorem BoolsAt.tch {v : Value} {l : List Bool} (h : BoolsAt lo N w v l) (t : Tch C w w') (hC : C < lo) (hN : N ≤ w.heap.size) : BoolsAt lo N w' v l := by
  obtain ⟨a, cap, hv, hcap, hc⟩ := h
  refine ⟨a, cap, hv, hcap, fun hne => ?_⟩
  obtain ⟨b, off, ha, hlo, hbN, hcell⟩ := hc hne
  exact ⟨b, off, ha, hlo, hbN, fun i hi => (tch_cell t (p := ⟨b, off + i, none⟩) (Nat.lt_of_lt_of_le hbN hN) (by show b ≠ C; omega)).trans (hcell i hi)⟩
theorem StrsAt.tch {v : Value} {l : List ByteArray} (h : StrsAt lo N w v l) (t : Tch C w w') (hC : C < lo) (hN : N ≤ w.heap.size) : StrsAt lo N w' v l := by
  obtain ⟨a, cap, hv, hcap, hc⟩ := h
  refine ⟨a, cap, hv, hcap, fun hne => ?_⟩
  obtain ⟨b, off, ha, hlo, hbN, hcell⟩ := hc hne
  exact ⟨b, off, ha, hlo, hbN, fun i hi => (tch_cell t (p := ⟨b, off + i, none⟩) (Nat.lt_of_lt_of_le hbN hN) (by show b ≠ C; omega)).trans (hcell i hi)⟩
theorem SixAt.tch {b o : Nat} {p : Pt} (h : SixAt w b o p) (t : Tch C w w') (hb : b < w.heap.size) (hC : b ≠ C) : SixAt w' b o p := by
  obtain ⟨hs, h0, h1, h2, h3, h4, h5⟩ := h
  exact ⟨hs, (tch_cell t (p := ⟨b, o, none⟩) hb hC).trans h0, (tch_cell t (p := ⟨b, o + 1, none⟩) hb hC).trans h1, (tch_cell t (p := ⟨b, o + 2, none⟩) hb hC).trans h2, (tch_cell t (p := ⟨b, o + 3, none⟩) hb hC).trans h3, (tch_cell t (p := ⟨b, o + 4, none⟩) hb hC).trans h4, (tch_cell t (p := ⟨b, o + 5, none⟩) hb hC).trans h5⟩
theorem PtsAt.tch {v : Value} {l : List Pt} (h : PtsAt lo N w v l) (t : Tch C w w') (hC : C < lo) (hN : N ≤ w.heap.size) : PtsAt lo N w' v l := by
  obtain ⟨⟨a, cap, hv, hcap, hc⟩, hd⟩ := h
  refine ⟨⟨a, cap, hv, hcap, fun hne => ?_⟩, fun p hp => ⟨(hd p hp).1.tch t hC hN, (hd p hp).2.tch t hC hN⟩⟩
  obtain ⟨b, off, ha, hlo, hbN, hcell⟩ := hc hne
  exact ⟨b, off, ha, hlo, hbN, fun i hi => (hcell i hi).tch t (Nat.lt_of_lt_of_le hbN hN) (by omega)⟩
end
theorem arr_set {sn : List Bool} {k : Nat} (hk : k < sn.length) (h : sn[k] = false) : arrF (sn.set k true) = arrF sn + 1 := by
  unfold arrF
  rw [List.count_set hk, h]
  simp
theorem set_same {sn : List Bool} {k : Nat} (hk : k < sn.length) (h : sn[k] = true) : sn.set k true = sn := by
  rw [← h, List.set_getElem_self]
theorem arr_all' {sn : List Bool} (h : sn.all id = true) : arrF sn = sn.length := by
  unfold arrF
  rw [List.count_eq_length]
  intro b hb
  have := List.all_eq_true.1 h b hb
  simpa using this.symm
theorem Held.start (s : ByteArray) (src id' : Int) : Held s src id' [] (List.replicate (cntS s) false) := .inl ⟨rfl, rfl⟩
theorem arr_none (n : Nat) : arrF (List.replicate n false) = 0 := by unfold arrF; rw [List.count_replicate]; rfl
theorem all_seenN {sn : List Bool} {n : Nat} (hl : sn.length = n) (h : ∀ k, k < n → sn.getD k false = true) : sn.all id = true := by
  rw [List.all_eq_true]
  intro b hb
  obtain ⟨k, hk, rfl⟩ := List.getElem_of_mem hb
  have := h k (by omega)
  rw [getD_at hk] at this
  exact this
theorem seen_set {sn : List Bool} {k j : Nat} (h : sn.getD j false = true) : (sn.set k true).getD j false = true := by
  rw [List.getD_eq_getElem?_getD] at h ⊢
  by_cases e : k = j
  · subst e
    rw [List.getElem?_set_self']
    cases hx : sn[k]? with
    | none => rw [hx] at h; simp at h
    | some b => rfl
  · rw [List.getElem?_set_ne e]; exact h
theorem seen_here {sn : List Bool} {k : Nat} (hk : k < sn.length) : (sn.set k true).getD k false = true := by
  rw [getD_at (by rw [List.length_set]; exact hk), List.getElem_set_self]
theorem tmod_lo (x : Int) {n : Nat} (h : 0 < n) : -(n : Int) < x.tmod n := Int.lt_tmod_of_pos x (by omega)
theorem tmod_hi (x : Int) {n : Nat} (h : 0 < n) : x.tmod n < (n : Int) := Int.tmod_lt_of_pos x (by omega)
end Hub
open Hub
/-- A message that is too long has no pieces. -/
theorem splitBig_any (s : ByteArray) (id' : Int) (w : World) (hs : 1000 < s.size) :
    Calls Try.prog 12 #[.string s, .int .i64 id'] w fun e w' => e = .returned (.tuple #[.slice none 0 0, .int .i64 3]) ∧ w' = w := by
  have h1i : (1000 : Int) < (s.size : Int) := by omega
  go_enter Try.func12, Try.ntmps12
  go_wp2_with fail
  go_ret2
  exact ⟨rfl, rfl⟩
end Go.Proofs.Ytmjamjadfnbkdaa
