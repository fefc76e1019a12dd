/-
  The walks of what copies the lists of stored blocks and stores a block, the program's.
-/
import Derived.Test.YtbbfbeacgnimpaaFirE
import Derived.Test.YtbbfbeacgnimpaaBoo
import Derived.Laws.CopyOwn
import Derived.Deep.OwnRows
open Go Go.RowKit Go.Proofs
namespace Go.Proofs.Ytbbfbeacgnimpaa
namespace Hub
/-- Block g is a row of the call's own that holds the values l. -/
def RowAt (x : World) (g : Nat) (T : TypeId) (l : List Value) : Prop := x.heap[g]? = some (.cells l.toArray T (0, 0))
section
variable {x x' : World} {g : Nat} {T : TypeId} {l : List Value}
theorem RowAt.lt (h : RowAt x g T l) : g < x.heap.size := (Array.getElem?_eq_some_iff.1 h).1
theorem RowAt.below {N : Nat} (h : RowAt x g T l) (t : Below N x x') (hn : g < N) : RowAt x' g T l := by unfold RowAt; rw [t.block g hn]; exact h
theorem RowAt.tch {C : Nat} (h : RowAt x g T l) (t : Tch C x x') (hn : g ≠ C) : RowAt x' g T l := by unfold RowAt; rw [t.block g h.lt (by simpa using hn)]; exact h
theorem RowAt.cell (h : RowAt x g T l) (i : Nat) (hi : i < l.length) : x.cell? ⟨g, i, none⟩ = some l[i] := by
  rw [Lib.cell_of_heap h]; simp [hi]
theorem RowAt.froz (h : RowAt x g T l) (i : Nat) : x.frozen? ⟨g, i, none⟩ = false := Lib.frozen_of_heap h i
theorem RowAt.set (h : RowAt x g T l) (i : Nat) (y : Value) : RowAt (x.setCell ⟨g, i, none⟩ y) g T (l.set i y) := by
  unfold RowAt; simp [World.setCell, Array.getElem?_modify, show x.heap[g]? = _ from h]
theorem RowAt.fresh (w : World) (l : List Value) (T : TypeId) : RowAt (w.alloc (.cells l.toArray T)) w.heap.size T l := heap_alloc_new w _
theorem tch_setRow (x : World) (g : Nat) (cs : Array Value) : Tch g x (x.setRow g cs) := ⟨rfl, rfl, rfl, by simp [World.setRow], fun k _ hn => setRow_other x g k cs (fun e => hn (by rw [e]))⟩
theorem RowAt.setRow (h : RowAt x g T l) (cs : Array Value) (m : List Value) (hm : cs = m.toArray) : RowAt (x.setRow g cs) g T m := by
  subst hm; exact setRow_heap x g _ _ T _ h
theorem RowAt.bools {lb : List Bool} {n : Nat} (h : RowAt x g 4 (lb.map Value.bool)) (hn : lb.length = n) {lo : Nat} (hlo : lo ≤ g) : BoolsAt lo x.heap.size x (.slice (some ⟨g, 0, none⟩) n n) lb :=
  ⟨some ⟨g, 0, none⟩, n, by rw [hn], by omega, fun _ => ⟨g, 0, rfl, hlo, h.lt, fun i hi => by have := h.cell i (by simpa using hi); rw [Nat.zero_add, this]; simp⟩⟩
theorem RowAt.strs {lb : List ByteArray} {n : Nat} (h : RowAt x g 9 (lb.map Value.string)) (hn : lb.length = n) {lo : Nat} (hlo : lo ≤ g) : StrsAt lo x.heap.size x (.slice (some ⟨g, 0, none⟩) n n) lb :=
  ⟨some ⟨g, 0, none⟩, n, by rw [hn], by omega, fun _ => ⟨g, 0, rfl, hlo, h.lt, fun i hi => by have := h.cell i (by simpa using hi); rw [Nat.zero_add, this]; simp⟩⟩
end
theorem add_off' (B o j : Nat) : (⟨B, o, none⟩ : Addr).add j = ⟨B, o + j, none⟩ := by unfold Addr.add; split <;> simp_all
theorem BoolsAt.src {lo N : Nat} {w : World} {v : Value} {l : List Bool} (h : BoolsAt lo N w v l) (hne : l ≠ []) :
    ∃ bk off cap, v = .slice (some ⟨bk, off, none⟩) l.length cap ∧ bk < N ∧ ∀ j u, (l.map Value.bool)[j]? = some u → w.cell? ((⟨bk, off, none⟩ : Addr).add j) = some u := by
  obtain ⟨a, cap, rfl, _, hc⟩ := h
  obtain ⟨bk, off, rfl, _, hbN, hcell⟩ := hc hne
  refine ⟨bk, off, cap, rfl, hbN, fun j u hj => ?_⟩
  rw [List.getElem?_map, Option.map_eq_some_iff] at hj
  obtain ⟨x, hx, rfl⟩ := hj
  obtain ⟨hlt, rfl⟩ := List.getElem?_eq_some_iff.1 hx
  rw [add_off']; exact hcell j hlt
theorem StrsAt.src {lo N : Nat} {w : World} {v : Value} {l : List ByteArray} (h : StrsAt lo N w v l) (hne : l ≠ []) :
    ∃ bk off cap, v = .slice (some ⟨bk, off, none⟩) l.length cap ∧ bk < N ∧ ∀ j u, (l.map Value.string)[j]? = some u → w.cell? ((⟨bk, off, none⟩ : Addr).add j) = some u := by
  obtain ⟨a, cap, rfl, _, hc⟩ := h
  obtain ⟨bk, off, rfl, _, hbN, hcell⟩ := hc hne
  refine ⟨bk, off, cap, rfl, hbN, fun j u hj => ?_⟩
  rw [List.getElem?_map, Option.map_eq_some_iff] at hj
  obtain ⟨x, hx, rfl⟩ := hj
  obtain ⟨hlt, rfl⟩ := List.getElem?_eq_some_iff.1 hx
  rw [add_off']; exact hcell j hlt
theorem one_bools (l : List Bool) : ∀ u ∈ l.map Value.bool, u.oneCell' = true := by
  intro u hu; obtain ⟨x, _, rfl⟩ := List.mem_map.1 hu; rfl
theorem one_strs (l : List ByteArray) : ∀ u ∈ l.map Value.string, u.oneCell' = true := by
  intro u hu; obtain ⟨x, _, rfl⟩ := List.mem_map.1 hu; rfl
theorem copied {m cur : List Value} (h : m.length = cur.length) : (cur.take 0 ++ (m ++ cur.drop (0 + m.length))).toArray = m.toArray := by
  rw [Nat.zero_add, h, List.drop_length]; simp
theorem below_row {N g : Nat} {w x : World} (h : Below N w x) (cs : Array Value) (hg : N ≤ g) : Below N w (x.setRow g cs) := h.trans ⟨rfl, rfl, rfl, by simp [World.setRow], fun k hk => setRow_other x g k cs (by omega)⟩
theorem made_one (z : Value) (n : Nat) : madeCells #[z] n = (List.replicate n z).toArray := by
  apply Array.toList_inj.1; rw [toList_madeCells_one]
end Hub
open Hub

set_option maxHeartbeats 1000000 in
theorem stored_any (f : Fw) (v vh vb : Value) (lo N : Nat) (h : List Bool) (b : List ByteArray) (w : World) (hv : IntsAt lo N w v f.sums) (hh : BoolsAt lo N w vh h) (hb : StrsAt lo N w vb b) (hN : N ≤ w.heap.size)
    (hn : 1 ≤ f.sums.length) (hl : f.sums.length ≤ 1099511627776) :
    Calls Try.prog 51 #[fwv f v, vh, vb] w fun e w' => ∃ g1 g2, e = .returned (.tuple #[.slice (some ⟨g1, 0, none⟩) f.sums.length f.sums.length, .slice (some ⟨g2, 0, none⟩) f.sums.length f.sums.length]) ∧
      RowAt w' g1 4 ((haveL f.sums.length h b).map Value.bool) ∧ RowAt w' g2 9 ((dataL f.sums.length h b).map Value.string) ∧ w.heap.size ≤ g1 ∧ w.heap.size ≤ g2 ∧ g1 ≠ g2 ∧ Below w.heap.size w w' := by
  obtain ⟨i0, hi, hz0, hz1, hz2⟩ := info_parts bool_info
  obtain ⟨j0, hj, hy0, hy1, hy2⟩ := info_parts str_info
  obtain ⟨a, cap, rfl, _⟩ := hv
  obtain ⟨n, hnn⟩ : ∃ n, f.sums.length = n := ⟨_, rfl⟩
  rw [hnn] at hn hl ⊢
  have mB := fun W => run_make_row (P := Try.prog) 39 4 i0 (.bool false) Try.underlying39 hi hz0 hz1 rfl .i64 .i64 n (by rw [hz2]; omega) (by omega) W
  have mS := fun W => run_make_row (P := Try.prog) 34 9 j0 (.string ByteArray.empty) Try.underlying34 hj hy0 hy1 rfl .i64 .i64 n (by rw [hy2]; omega) (by omega) W
  rw [made_one] at mB mS
  unfold fwv
  go_enter Try.func51, Try.ntmps51
  go_wp2_with fail
  go_region
  · have k0 : Below w.heap.size w (w.alloc (.cells #[.int .i64 f.ven, .int .i64 f.ver, .slice a n cap] 24)) := below_box _ _
    have k1 := below_box (w.alloc (.cells #[.int .i64 f.ven, .int .i64 f.ver, .slice a n cap] 24)) (.cells (Array.replicate n (Value.bool false)) 4)
    have k2 := below_box ((w.alloc (.cells #[.int .i64 f.ven, .int .i64 f.ver, .slice a n cap] 24)).alloc (.cells (Array.replicate n (Value.bool false)) 4)) (.cells (Array.replicate n (Value.string ByteArray.empty)) 9)
    have hF0 : Fb w.heap.size (.int .i64 f.ven) (.int .i64 f.ver) (.slice a n cap) (w.alloc (.cells #[.int .i64 f.ven, .int .i64 f.ver, .slice a n cap] 24)) := heap_alloc_new w _
    have hF1 := Fb.below hF0 k1 hF0.lt
    have hF2 := Fb.below hF1 k2 hF1.lt
    have hFx : Fb w.heap.size (.int .i64 f.ven) (.int .i64 f.ver) (.slice a n cap) (((w.alloc (.cells #[.int .i64 f.ven, .int .i64 f.ver, .slice a n cap] 24)).alloc (.cells (Array.replicate n (Value.bool false)) 4)).alloc (.cells (Array.replicate n (Value.string ByteArray.empty)) 9)).drew := hF2
    clear hF0 hF1 hF2
    have hw : Below w.heap.size w (((w.alloc (.cells #[.int .i64 f.ven, .int .i64 f.ver, .slice a n cap] 24)).alloc (.cells (Array.replicate n (Value.bool false)) 4)).alloc (.cells (Array.replicate n (Value.string ByteArray.empty)) 9)).drew := Below.drew' ((k0.trans (k1.mono k0.size)).trans (k2.mono (Nat.le_trans k0.size k1.size)))
    have hRB : RowAt (((w.alloc (.cells #[.int .i64 f.ven, .int .i64 f.ver, .slice a n cap] 24)).alloc (.cells (Array.replicate n (Value.bool false)) 4)).alloc (.cells (Array.replicate n (Value.string ByteArray.empty)) 9)).drew (w.heap.size + 1) 4 (List.replicate n (Value.bool false)) := by
      have := (RowAt.fresh (w.alloc (.cells #[.int .i64 f.ven, .int .i64 f.ver, .slice a n cap] 24)) (List.replicate n (Value.bool false)) 4)
      have e : (List.replicate n (Value.bool false)).toArray = (Array.replicate n (Value.bool false)) := by simp
      rw [e] at this
      have h2 := this.below k2 this.lt
      show RowAt (((w.alloc (.cells #[.int .i64 f.ven, .int .i64 f.ver, .slice a n cap] 24)).alloc (.cells (Array.replicate n (Value.bool false)) 4)).alloc (.cells (Array.replicate n (Value.string ByteArray.empty)) 9)) (w.heap.size + 1) 4 (List.replicate n (Value.bool false))
      simpa [RowAt] using h2
    have hRS : RowAt (((w.alloc (.cells #[.int .i64 f.ven, .int .i64 f.ver, .slice a n cap] 24)).alloc (.cells (Array.replicate n (Value.bool false)) 4)).alloc (.cells (Array.replicate n (Value.string ByteArray.empty)) 9)).drew (w.heap.size + 1 + 1) 9 (List.replicate n (Value.string ByteArray.empty)) := by
      have := (RowAt.fresh ((w.alloc (.cells #[.int .i64 f.ven, .int .i64 f.ver, .slice a n cap] 24)).alloc (.cells (Array.replicate n (Value.bool false)) 4)) (List.replicate n (Value.string ByteArray.empty)) 9)
      have e : (List.replicate n (Value.string ByteArray.empty)).toArray = (Array.replicate n (Value.string ByteArray.empty)) := by simp
      rw [e] at this
      show RowAt (((w.alloc (.cells #[.int .i64 f.ven, .int .i64 f.ver, .slice a n cap] 24)).alloc (.cells (Array.replicate n (Value.bool false)) 4)).alloc (.cells (Array.replicate n (Value.string ByteArray.empty)) 9)) (w.heap.size + 1 + 1) 9 (List.replicate n (Value.string ByteArray.empty))
      simpa [RowAt] using this
    have hne : w.heap.size + 1 ≠ w.heap.size + 1 + 1 := by omega
    have hB1 : w.heap.size < w.heap.size + 1 := by omega
    have hS1 : w.heap.size < w.heap.size + 1 + 1 := by omega
    clear k0 k1 k2 mB mS
    generalize (((w.alloc (.cells #[.int .i64 f.ven, .int .i64 f.ver, .slice a n cap] 24)).alloc (.cells (Array.replicate n (Value.bool false)) 4)).alloc (.cells (Array.replicate n (Value.string ByteArray.empty)) 9)).drew = x at *
    generalize w.heap.size + 1 + 1 = gS at *
    generalize w.heap.size + 1 = gB at *
    have hh' := hh.below hw hN
    have hb' := hb.below hw hN
    have c2 := hFx.c2
    have hb2 := hb'.below (below_row (Below.refl x.heap.size x) #[] (Nat.le_refl _)) (Nat.le_trans hN hw.size)
    clear hb2
    by_cases hE : h.length = n ∧ b.length = n
    · obtain ⟨hE1, hE2⟩ := hE
      obtain ⟨bh, oh, ch, rfl, hbh, hsh⟩ := hh'.src (by intro e; rw [e] at hE1; simp at hE1; omega)
      obtain ⟨bb, ob, cb, rfl, hbb, hsb⟩ := hb'.src (by intro e; rw [e] at hE2; simp at hE2; omega)
      have HH := Lib.hid (show haveL n h b = h by rw [haveL, if_pos ⟨hE1, hE2⟩])
      have HD := Lib.hid (show dataL n h b = b by rw [dataL, if_pos ⟨hE1, hE2⟩])
      rw [hE1, hE2]
      have hlh : (h.map Value.bool).length = n := by rw [List.length_map, hE1]
      have hlb : (b.map Value.string).length = n := by rw [List.length_map, hE2]
      have hbbx : bb < w.heap.size := by omega
      clear hh hb hh' hb'
      have hRB2 := hRB.setRow (h.map Value.bool).toArray (h.map Value.bool) rfl
      have hT := tch_setRow x gB (h.map Value.bool).toArray
      have hRS2 := hRS.tch hT hne.symm
      have hw2 := below_row hw (h.map Value.bool).toArray (Nat.le_of_lt hB1)
      have hsb2 : ∀ j u, (b.map Value.string)[j]? = some u → (x.setRow gB (h.map Value.bool).toArray).cell? ((⟨bb, ob, none⟩ : Addr).add j) = some u := fun j u hj => by
        have e := hsb j u hj
        rw [add_off'] at e ⊢
        rw [tch_cell hT (p := ⟨bb, ob + j, none⟩) (Nat.lt_of_lt_of_le hbbx hw.size) (by show bb ≠ gB; omega)]; exact e
      obtain ⟨x2, hx2⟩ : ∃ x2, x2 = x.setRow gB (h.map Value.bool).toArray := ⟨_, rfl⟩
      rw [← hx2] at hRB2 hRS2 hw2 hsb2
      have hRS3 := hRS2.setRow (b.map Value.string).toArray (b.map Value.string) rfl
      have hRB3 := hRB2.tch (tch_setRow x2 gS (b.map Value.string).toArray) hne
      have hw3 := below_row hw2 (b.map Value.string).toArray (Nat.le_of_lt hS1)
      obtain ⟨x3, hx3⟩ : ∃ x3, x3 = x2.setRow gS (b.map Value.string).toArray := ⟨_, rfl⟩
      rw [← hx3] at hRS3 hRB3 hw3
      have HX2 := Lib.hid hx2
      have HX3 := Lib.hid hx3
      have HRB := Lib.hid hRB
      have HRS2 := Lib.hid hRS2
      have Hsh := Lib.hid hsh
      have Hsb := Lib.hid hsb2
      clear hT hsb hsh hsb2 hRB hRS hRS2 hRB2 hw hw2 hx2 hx3
      go_wp2_with (first
        | (refine wpList_copy_own rfl (.tmp 32) (.tmp 33) 39 39 rfl 4 Try.underlying39 (by kernel_rfl) gB 0 n n ⟨bh, oh, none⟩ n ch rfl rfl _ _ HRB.out (h.map Value.bool) (by rw [hlh]; exact (Nat.min_self n).symm) Hsh.out (by rw [hlh]; simp) (one_bools h) ?_; rw [copied (by rw [hlh]; simp), ← HX2.out])
        | (refine wpList_copy_own rfl (.tmp 35) (.tmp 36) 34 34 rfl 9 Try.underlying34 (by kernel_rfl) gS 0 n n ⟨bb, ob, none⟩ n cb rfl rfl _ _ HRS2.out (b.map Value.string) (by rw [hlb]; exact (Nat.min_self n).symm) Hsb.out (by rw [hlb]; simp) (one_strs b) ?_; rw [copied (by rw [hlb]; simp), ← HX3.out]))
      refine bodyPost_ret (v := .tuple #[.slice (some ⟨gB, 0, none⟩) n n, .slice (some ⟨gS, 0, none⟩) n n]) ?_ rfl ⟨gB, gS, rfl, by rw [HH.out]; exact hRB3, by rw [HD.out]; exact hRS3, Nat.le_of_lt hB1, Nat.le_of_lt hS1, hne, hw3⟩
      simp [results, Try.results51, go_sem]
    · have HH := Lib.hid (show (haveL n h b).map Value.bool = List.replicate n (Value.bool false) by rw [haveL, if_neg hE, List.map_replicate])
      have HD := Lib.hid (show (dataL n h b).map Value.string = List.replicate n (Value.string ByteArray.empty) by rw [dataL, if_neg hE, List.map_replicate])
      obtain ⟨ah, ch, rfl, _, _⟩ := hh'
      obtain ⟨ab, cb, rfl, _, _⟩ := hb'
      have hq : ((h.length : Int) == (n : Int)) = false ∨ (((h.length : Int) == (n : Int)) = true ∧ ((b.length : Int) == (n : Int)) = false) := by
        by_cases e : h.length = n
        · right
          refine ⟨by simp [e], ?_⟩
          simp only [beq_eq_false_iff_ne]
          intro e2
          exact hE ⟨e, by omega⟩
        · left
          simp only [beq_eq_false_iff_ne]
          omega
      clear hh hb hE
      rcases hq with hq1 | ⟨hq1, hq2⟩
      all_goals
        go_wp2_with fail
        refine bodyPost_ret (v := .tuple #[.slice (some ⟨gB, 0, none⟩) n n, .slice (some ⟨gS, 0, none⟩) n n]) ?_ rfl ⟨gB, gS, rfl, by rw [HH.out]; exact hRB, by rw [HD.out]; exact hRS, Nat.le_of_lt hB1, Nat.le_of_lt hS1, hne, hw⟩
        simp [results, Try.results51, go_sem]
  · have k0 : Below w.heap.size w (w.alloc (.cells #[.int .i64 f.ven, .int .i64 f.ver, .slice a n cap] 24)) := below_box _ _
    have k1 := below_box (w.alloc (.cells #[.int .i64 f.ven, .int .i64 f.ver, .slice a n cap] 24)) (.cells (Array.replicate n (Value.string ByteArray.empty)) 9)
    have k2 := below_box ((w.alloc (.cells #[.int .i64 f.ven, .int .i64 f.ver, .slice a n cap] 24)).alloc (.cells (Array.replicate n (Value.string ByteArray.empty)) 9)) (.cells (Array.replicate n (Value.bool false)) 4)
    have hF0 : Fb w.heap.size (.int .i64 f.ven) (.int .i64 f.ver) (.slice a n cap) (w.alloc (.cells #[.int .i64 f.ven, .int .i64 f.ver, .slice a n cap] 24)) := heap_alloc_new w _
    have hF1 := Fb.below hF0 k1 hF0.lt
    have hF2 := Fb.below hF1 k2 hF1.lt
    have hFx : Fb w.heap.size (.int .i64 f.ven) (.int .i64 f.ver) (.slice a n cap) (((w.alloc (.cells #[.int .i64 f.ven, .int .i64 f.ver, .slice a n cap] 24)).alloc (.cells (Array.replicate n (Value.string ByteArray.empty)) 9)).alloc (.cells (Array.replicate n (Value.bool false)) 4)).drew := hF2
    clear hF0 hF1 hF2
    have hw : Below w.heap.size w (((w.alloc (.cells #[.int .i64 f.ven, .int .i64 f.ver, .slice a n cap] 24)).alloc (.cells (Array.replicate n (Value.string ByteArray.empty)) 9)).alloc (.cells (Array.replicate n (Value.bool false)) 4)).drew := Below.drew' ((k0.trans (k1.mono k0.size)).trans (k2.mono (Nat.le_trans k0.size k1.size)))
    have hRS : RowAt (((w.alloc (.cells #[.int .i64 f.ven, .int .i64 f.ver, .slice a n cap] 24)).alloc (.cells (Array.replicate n (Value.string ByteArray.empty)) 9)).alloc (.cells (Array.replicate n (Value.bool false)) 4)).drew (w.heap.size + 1) 9 (List.replicate n (Value.string ByteArray.empty)) := by
      have := (RowAt.fresh (w.alloc (.cells #[.int .i64 f.ven, .int .i64 f.ver, .slice a n cap] 24)) (List.replicate n (Value.string ByteArray.empty)) 9)
      have e : (List.replicate n (Value.string ByteArray.empty)).toArray = (Array.replicate n (Value.string ByteArray.empty)) := by simp
      rw [e] at this
      have h2 := this.below k2 this.lt
      show RowAt (((w.alloc (.cells #[.int .i64 f.ven, .int .i64 f.ver, .slice a n cap] 24)).alloc (.cells (Array.replicate n (Value.string ByteArray.empty)) 9)).alloc (.cells (Array.replicate n (Value.bool false)) 4)) (w.heap.size + 1) 9 (List.replicate n (Value.string ByteArray.empty))
      simpa [RowAt] using h2
    have hRB : RowAt (((w.alloc (.cells #[.int .i64 f.ven, .int .i64 f.ver, .slice a n cap] 24)).alloc (.cells (Array.replicate n (Value.string ByteArray.empty)) 9)).alloc (.cells (Array.replicate n (Value.bool false)) 4)).drew (w.heap.size + 1 + 1) 4 (List.replicate n (Value.bool false)) := by
      have := (RowAt.fresh ((w.alloc (.cells #[.int .i64 f.ven, .int .i64 f.ver, .slice a n cap] 24)).alloc (.cells (Array.replicate n (Value.string ByteArray.empty)) 9)) (List.replicate n (Value.bool false)) 4)
      have e : (List.replicate n (Value.bool false)).toArray = (Array.replicate n (Value.bool false)) := by simp
      rw [e] at this
      show RowAt (((w.alloc (.cells #[.int .i64 f.ven, .int .i64 f.ver, .slice a n cap] 24)).alloc (.cells (Array.replicate n (Value.string ByteArray.empty)) 9)).alloc (.cells (Array.replicate n (Value.bool false)) 4)) (w.heap.size + 1 + 1) 4 (List.replicate n (Value.bool false))
      simpa [RowAt] using this
    have hne : w.heap.size + 1 + 1 ≠ w.heap.size + 1 := by omega
    have hB1 : w.heap.size < w.heap.size + 1 + 1 := by omega
    have hS1 : w.heap.size < w.heap.size + 1 := by omega
    clear k0 k1 k2 mB mS
    generalize (((w.alloc (.cells #[.int .i64 f.ven, .int .i64 f.ver, .slice a n cap] 24)).alloc (.cells (Array.replicate n (Value.string ByteArray.empty)) 9)).alloc (.cells (Array.replicate n (Value.bool false)) 4)).drew = x at *
    generalize w.heap.size + 1 + 1 = gB at *
    generalize w.heap.size + 1 = gS at *
    have hh' := hh.below hw hN
    have hb' := hb.below hw hN
    have c2 := hFx.c2
    have hb2 := hb'.below (below_row (Below.refl x.heap.size x) #[] (Nat.le_refl _)) (Nat.le_trans hN hw.size)
    clear hb2
    by_cases hE : h.length = n ∧ b.length = n
    · obtain ⟨hE1, hE2⟩ := hE
      obtain ⟨bh, oh, ch, rfl, hbh, hsh⟩ := hh'.src (by intro e; rw [e] at hE1; simp at hE1; omega)
      obtain ⟨bb, ob, cb, rfl, hbb, hsb⟩ := hb'.src (by intro e; rw [e] at hE2; simp at hE2; omega)
      have HH := Lib.hid (show haveL n h b = h by rw [haveL, if_pos ⟨hE1, hE2⟩])
      have HD := Lib.hid (show dataL n h b = b by rw [dataL, if_pos ⟨hE1, hE2⟩])
      rw [hE1, hE2]
      have hlh : (h.map Value.bool).length = n := by rw [List.length_map, hE1]
      have hlb : (b.map Value.string).length = n := by rw [List.length_map, hE2]
      have hbbx : bb < w.heap.size := by omega
      clear hh hb hh' hb'
      have hRB2 := hRB.setRow (h.map Value.bool).toArray (h.map Value.bool) rfl
      have hT := tch_setRow x gB (h.map Value.bool).toArray
      have hRS2 := hRS.tch hT hne.symm
      have hw2 := below_row hw (h.map Value.bool).toArray (Nat.le_of_lt hB1)
      have hsb2 : ∀ j u, (b.map Value.string)[j]? = some u → (x.setRow gB (h.map Value.bool).toArray).cell? ((⟨bb, ob, none⟩ : Addr).add j) = some u := fun j u hj => by
        have e := hsb j u hj
        rw [add_off'] at e ⊢
        rw [tch_cell hT (p := ⟨bb, ob + j, none⟩) (Nat.lt_of_lt_of_le hbbx hw.size) (by show bb ≠ gB; omega)]; exact e
      obtain ⟨x2, hx2⟩ : ∃ x2, x2 = x.setRow gB (h.map Value.bool).toArray := ⟨_, rfl⟩
      rw [← hx2] at hRB2 hRS2 hw2 hsb2
      have hRS3 := hRS2.setRow (b.map Value.string).toArray (b.map Value.string) rfl
      have hRB3 := hRB2.tch (tch_setRow x2 gS (b.map Value.string).toArray) hne
      have hw3 := below_row hw2 (b.map Value.string).toArray (Nat.le_of_lt hS1)
      obtain ⟨x3, hx3⟩ : ∃ x3, x3 = x2.setRow gS (b.map Value.string).toArray := ⟨_, rfl⟩
      rw [← hx3] at hRS3 hRB3 hw3
      have HX2 := Lib.hid hx2
      have HX3 := Lib.hid hx3
      have HRB := Lib.hid hRB
      have HRS2 := Lib.hid hRS2
      have Hsh := Lib.hid hsh
      have Hsb := Lib.hid hsb2
      clear hT hsb hsh hsb2 hRB hRS hRS2 hRB2 hw hw2 hx2 hx3
      go_wp2_with (first
        | (refine wpList_copy_own rfl (.tmp 32) (.tmp 33) 39 39 rfl 4 Try.underlying39 (by kernel_rfl) gB 0 n n ⟨bh, oh, none⟩ n ch rfl rfl _ _ HRB.out (h.map Value.bool) (by rw [hlh]; exact (Nat.min_self n).symm) Hsh.out (by rw [hlh]; simp) (one_bools h) ?_; rw [copied (by rw [hlh]; simp), ← HX2.out])
        | (refine wpList_copy_own rfl (.tmp 35) (.tmp 36) 34 34 rfl 9 Try.underlying34 (by kernel_rfl) gS 0 n n ⟨bb, ob, none⟩ n cb rfl rfl _ _ HRS2.out (b.map Value.string) (by rw [hlb]; exact (Nat.min_self n).symm) Hsb.out (by rw [hlb]; simp) (one_strs b) ?_; rw [copied (by rw [hlb]; simp), ← HX3.out]))
      refine bodyPost_ret (v := .tuple #[.slice (some ⟨gB, 0, none⟩) n n, .slice (some ⟨gS, 0, none⟩) n n]) ?_ rfl ⟨gB, gS, rfl, by rw [HH.out]; exact hRB3, by rw [HD.out]; exact hRS3, Nat.le_of_lt hB1, Nat.le_of_lt hS1, hne, hw3⟩
      simp [results, Try.results51, go_sem]
    · have HH := Lib.hid (show (haveL n h b).map Value.bool = List.replicate n (Value.bool false) by rw [haveL, if_neg hE, List.map_replicate])
      have HD := Lib.hid (show (dataL n h b).map Value.string = List.replicate n (Value.string ByteArray.empty) by rw [dataL, if_neg hE, List.map_replicate])
      obtain ⟨ah, ch, rfl, _, _⟩ := hh'
      obtain ⟨ab, cb, rfl, _, _⟩ := hb'
      have hq : ((h.length : Int) == (n : Int)) = false ∨ (((h.length : Int) == (n : Int)) = true ∧ ((b.length : Int) == (n : Int)) = false) := by
        by_cases e : h.length = n
        · right
          refine ⟨by simp [e], ?_⟩
          simp only [beq_eq_false_iff_ne]
          intro e2
          exact hE ⟨e, by omega⟩
        · left
          simp only [beq_eq_false_iff_ne]
          omega
      clear hh hb hE
      rcases hq with hq1 | ⟨hq1, hq2⟩
      all_goals
        go_wp2_with fail
        refine bodyPost_ret (v := .tuple #[.slice (some ⟨gB, 0, none⟩) n n, .slice (some ⟨gS, 0, none⟩) n n]) ?_ rfl ⟨gB, gS, rfl, by rw [HH.out]; exact hRB, by rw [HD.out]; exact hRS, Nat.le_of_lt hB1, Nat.le_of_lt hS1, hne, hw⟩
        simp [results, Try.results51, go_sem]
end Go.Proofs.Ytbbfbeacgnimpaa
