/-
  The walk of what reads a description, the program's.
-/
import Derived.Test.YtbbfbeacgnimpaaFirC
open Go Go.RowKit Go.Proofs
namespace Go.Proofs.Ytbbfbeacgnimpaa
namespace Hub
theorem decFw_e1 {s : List UInt8} (h : rEnd (rdFw s).2 ≠ 0) : decFw s = (noFw, rEnd (rdFw s).2) := by rw [decFw, if_pos h]
theorem decFw_e2 {s : List UInt8} (h : ¬ rEnd (rdFw s).2 ≠ 0) (h2 : chkF (rdFw s).1 ≠ 0) : decFw s = (noFw, chkF (rdFw s).1) := by rw [decFw, if_neg h, if_pos h2]
theorem decFw_e3 {s : List UInt8} (h : ¬ rEnd (rdFw s).2 ≠ 0) (h2 : ¬ chkF (rdFw s).1 ≠ 0) : decFw s = ((rdFw s).1, 0) := by rw [decFw, if_neg h, if_neg h2]
theorem tch_new {w w1 w2 : World} {N B : Nat} (h : Below N w w1) (k : Tch B w1 w2) (hB : N ≤ B) (hN : N ≤ w.heap.size) : Below N w w2 :=
  h.trans (k.below hB (Nat.le_trans hN h.size))
theorem tch_cell {C : Nat} {w w' : World} (t : Tch C w w') {p : Addr} (hp : p.block < w.heap.size) (hn : p.block ≠ C) : w'.cell? p = w.cell? p := by
  unfold World.cell?; rw [t.block p.block hp (by simpa using hn)]
theorem IntsAt.tch {lo N C : Nat} {w w' : World} {v : Value} {l : List Int} (h : IntsAt lo N w v l) (t : Tch C w w') (hC : C < lo) (hN : N ≤ w.heap.size) : IntsAt lo N w' v l := by
  obtain ⟨a, cap, hv, hc⟩ := h
  refine ⟨a, cap, hv, fun hne => ?_⟩
  obtain ⟨b, off, ha, hlo, hbN, hcell⟩ := hc hne
  exact ⟨b, off, ha, hlo, hbN, fun i hi => by rw [tch_cell t (p := ⟨b, off + i, none⟩) (by show b < _; omega) (by show b ≠ C; omega)]; exact hcell i hi⟩
theorem IntsAt.wide {lo lo' N N' : Nat} {w : World} {v : Value} {l : List Int} (h : IntsAt lo N w v l) (hl : lo' ≤ lo) (hN : N ≤ N') : IntsAt lo' N' w v l := by
  obtain ⟨a, cap, hv, hc⟩ := h
  refine ⟨a, cap, hv, fun hne => ?_⟩
  obtain ⟨b, off, ha, hlo, hbN, hcell⟩ := hc hne
  exact ⟨b, off, ha, by omega, by omega, hcell⟩
theorem IntsAt.none (lo N : Nat) (w : World) : IntsAt lo N w (.slice .none 0 0) [] := ⟨.none, 0, rfl, fun h => absurd rfl h⟩
/-- Block k is a description of three cells. -/
def Fb (k : Nat) (a b v : Value) (x : World) : Prop := x.heap[k]? = some (.cells #[a, b, v] 24 (0, 0))
section
variable {k : Nat} {a b v : Value} {x x' : World}
theorem Fb.lt (h : Fb k a b v x) : k < x.heap.size := (Array.getElem?_eq_some_iff.1 h).1
theorem Fb.c0 (h : Fb k a b v x) : x.cell? ⟨k, 0, none⟩ = some a := by rw [Lib.cell_of_heap h]; rfl
theorem Fb.c1 (h : Fb k a b v x) : x.cell? ⟨k, 1, none⟩ = some b := by rw [Lib.cell_of_heap h]; rfl
theorem Fb.c2 (h : Fb k a b v x) : x.cell? ⟨k, 2, none⟩ = some v := by rw [Lib.cell_of_heap h]; rfl
theorem Fb.f (h : Fb k a b v x) (i : Nat) : x.frozen? ⟨k, i, none⟩ = false := Lib.frozen_of_heap h i
theorem Fb.tch {C : Nat} (h : Fb k a b v x) (t : Tch C x x') (hn : k ≠ C) : Fb k a b v x' := by
  unfold Fb; rw [t.block k h.lt (by simpa using hn)]; exact h
theorem Fb.below {N : Nat} (h : Fb k a b v x) (t : Below N x x') (hn : k < N) : Fb k a b v x' := by
  unfold Fb; rw [t.block k hn]; exact h
theorem Fb.set0 (h : Fb k a b v x) (y : Value) : Fb k y b v (x.setCell ⟨k, 0, none⟩ y) := by unfold Fb; simp [World.setCell, Array.getElem?_modify, show x.heap[k]? = _ from h]
theorem Fb.set1 (h : Fb k a b v x) (y : Value) : Fb k a y v (x.setCell ⟨k, 1, none⟩ y) := by unfold Fb; simp [World.setCell, Array.getElem?_modify, show x.heap[k]? = _ from h]
theorem Fb.set (h : Fb k a b v x) (a' b' v' : Value) : Fb k a' b' v' (((x.setCell ⟨k, 0, none⟩ a').setCell ⟨k, 1, none⟩ b').setCell ⟨k, 2, none⟩ v') := by
  unfold Fb; simp [World.setCell, Array.getElem?_modify, show x.heap[k]? = _ from h]
theorem Fb.tset (x : World) (k : Nat) (a' b' v' : Value) : Tch k x (((x.setCell ⟨k, 0, none⟩ a').setCell ⟨k, 1, none⟩ b').setCell ⟨k, 2, none⟩ v') := (((Tch.refl _ _).setCell 0 _).setCell 1 _).setCell 2 _
theorem Fb.set2 (h : Fb k a b v x) (y : Value) : Fb k a b y (x.setCell ⟨k, 2, none⟩ y) := by unfold Fb; simp [World.setCell, Array.getElem?_modify, show x.heap[k]? = _ from h]
end
end Hub
open Hub

set_option maxHeartbeats 1000000 in
theorem decFw_any (s : ByteArray) (w : World) (hs : s.size ≤ 1099511627776) :
    Calls Try.prog 12 #[.string s] w fun e w' => ∃ v, e = .returned (.tuple #[fwv (decFw (bl s)).1 v, .int .i64 (decFw (bl s)).2]) ∧ IntsAt w.heap.size w'.heap.size w' v (decFw (bl s)).1.sums ∧ Below w.heap.size w w' := by
  have HN := Lib.hid (fun w => wNew_any s w hs)
  have hint := (rInts_short 64 (rInt (rInt ⟨bl s, 0⟩).2).2).2
  have hrd : rdFw (bl s) = (⟨(rInt ⟨bl s, 0⟩).1, (rInt (rInt ⟨bl s, 0⟩).2).1, (rInts 64 (rInt (rInt ⟨bl s, 0⟩).2).2).1⟩, (rInts 64 (rInt (rInt ⟨bl s, 0⟩).2).2).2) := rfl
  have E1 := Lib.hid (fun h => decFw_e1 (s := bl s) h)
  have E2 := Lib.hid (fun h => decFw_e2 (s := bl s) h)
  have E3 := Lib.hid (fun h => decFw_e3 (s := bl s) h)
  rw [hrd] at E1 E2 E3
  clear hrd
  have H1 := Lib.hid (fun B w h => wrInt_any B ⟨bl s, 0⟩ w h)
  generalize rInt ⟨bl s, 0⟩ = o1 at *
  have H2 := Lib.hid (fun B w h => wrInt_any B o1.2 w h)
  generalize rInt o1.2 = o2 at *
  have H3 := Lib.hid (fun B w h => wrInts_any B o2.2 64 w h)
  generalize rInts 64 o2.2 = o3 at *
  generalize decFw (bl s) = D at *
  go_enter Try.func12, Try.ntmps12
  go_wp2_with fail
  refine (HN.out _).mono ?_
  rintro e w1 ⟨rfl, hrd, hb, hsz⟩
  have hs1 : w1.heap.size = w.heap.size + 2 := by simpa using hsz
  have hrd1 : RdP (w.heap.size + 1) ⟨bl s, 0⟩ w1 := by simpa using hrd
  have hb1 : Below (w.heap.size + 1) (w.alloc (.cells #[.int .i64 0, .int .i64 0, .slice none 0 0] 24)) w1 := by simpa using hb
  have hQ1 : Fb w.heap.size (.int .i64 0) (.int .i64 0) (.slice none 0 0) w1 := Fb.below (show Fb w.heap.size _ _ _ (w.alloc _) from heap_alloc_new w _) hb1 (by omega)
  have hw1 : Below w.heap.size w w1 := (below_box w _).trans (hb1.mono (by omega))
  clear hrd hb hsz hb1
  go_wp2_with fail
  have hF2 : Fb (w.heap.size + 2) (.int .i64 0) (.int .i64 0) (.slice none 0 0) (w1.alloc (.cells #[.int .i64 0, .int .i64 0, .slice none 0 0] 24)) := by rw [← hs1]; exact heap_alloc_new w1 _
  have hQ2 := hQ1.below (below_box w1 (.cells #[.int .i64 0, .int .i64 0, .slice none 0 0] 24)) hQ1.lt
  have hrd2 := hrd1.below (below_box w1 (.cells #[.int .i64 0, .int .i64 0, .slice none 0 0] 24)) hrd1.lt
  have hw2 : Below w.heap.size w (w1.alloc (.cells #[.int .i64 0, .int .i64 0, .slice none 0 0] 24)) := hw1.trans ((below_box w1 _).mono (by omega))
  generalize w1.alloc (.cells #[.int .i64 0, .int .i64 0, .slice none 0 0] 24) = W2 at *
  clear hQ1 hw1 hs1 hrd1
  refine (H1.out _ _ hrd2).mono ?_
  rintro e w3 ⟨rfl, hrd3, ht3⟩
  have hF3 := hF2.tch ht3 (by omega)
  have hQ3 := hQ2.tch ht3 (by omega)
  have hw3 := tch_new hw2 ht3 (by omega) (Nat.le_refl _)
  have c30 := hF3.c0
  have f3 := hF3.f 0
  clear hrd2 ht3 hF2 hQ2 hw2
  go_wp2_with fail
  have hF4 := hF3.set0 (.int .i64 o1.1)
  have T4 : Tch (w.heap.size + 2) w3 (w3.setCell ⟨w.heap.size + 2, 0, none⟩ (.int .i64 o1.1)) := (Tch.refl _ _).setCell 0 _
  have hQ4 := hQ3.tch T4 (by omega)
  have hrd4 := hrd3.kept T4 (by omega)
  have hw4 := tch_new hw3 T4 (by omega) (Nat.le_refl _)
  generalize w3.setCell ⟨w.heap.size + 2, 0, none⟩ (.int .i64 o1.1) = W4 at *
  clear T4 hF3 hQ3 hrd3 hw3 c30 f3
  refine (H2.out _ _ hrd4).mono ?_
  rintro e w5 ⟨rfl, hrd5, ht5⟩
  have hF5 := hF4.tch ht5 (by omega)
  have hQ5 := hQ4.tch ht5 (by omega)
  have hw5 := tch_new hw4 ht5 (by omega) (Nat.le_refl _)
  have c51 := hF5.c1
  have f5 := hF5.f 1
  clear hrd4 ht5 hF4 hQ4 hw4
  go_wp2_with fail
  have hF6 := hF5.set1 (.int .i64 o2.1)
  have T6 : Tch (w.heap.size + 2) w5 (w5.setCell ⟨w.heap.size + 2, 1, none⟩ (.int .i64 o2.1)) := (Tch.refl _ _).setCell 1 _
  have hQ6 := hQ5.tch T6 (by omega)
  have hrd6 := hrd5.kept T6 (by omega)
  have hw6 := tch_new hw5 T6 (by omega) (Nat.le_refl _)
  generalize w5.setCell ⟨w.heap.size + 2, 1, none⟩ (.int .i64 o2.1) = W6 at *
  clear T6 hF5 hQ5 hrd5 hw5 c51 f5
  refine (H3.out _ _ hrd6).mono ?_
  rintro e w7 ⟨v, rfl, hv7, hrd7, ht7⟩
  obtain ⟨va, vn, vc, rfl⟩ : ∃ a n c, v = .slice a n c := by
    rcases hv7.2 with ⟨hv, _⟩ | ⟨g, cap, cur, hv, _⟩
    · exact ⟨_, _, _, hv⟩
    · exact ⟨_, _, _, hv⟩
  have hF7 := hF6.tch ht7 (by omega)
  have hQ7 := hQ6.tch ht7 (by omega)
  have hw7 := tch_new hw6 ht7 (by omega) (Nat.le_refl _)
  have hW6 : w.heap.size + 2 < W6.heap.size := hF6.lt
  have c72 := hF7.c2
  have f7 := hF7.f 2
  clear hrd6 ht7 hF6 hQ6 hw6
  go_wp2_with fail
  have hF8 := hF7.set2 (.slice va vn vc)
  have T8 : Tch (w.heap.size + 2) w7 (w7.setCell ⟨w.heap.size + 2, 2, none⟩ (.slice va vn vc)) := (Tch.refl _ _).setCell 2 _
  have hQ8 := hQ7.tch T8 (by omega)
  have hrd8 := hrd7.kept T8 (by omega)
  have hw8 := tch_new hw7 T8 (by omega) (Nat.le_refl _)
  have hv8 := hv7.tch T8 (by omega)
  generalize w7.setCell ⟨w.heap.size + 2, 2, none⟩ (.slice va vn vc) = W8 at *
  clear T8 hF7 hQ7 hrd7 hw7 c72 f7 hv7
  refine (wEnd_any _ _ _ hrd8).mono ?_
  rintro e w9 ⟨rfl, rfl⟩
  have c80 := hF8.c0
  have c81 := hF8.c1
  have c82 := hF8.c2
  have d80 := hQ8.c0
  have d81 := hQ8.c1
  have d82 := hQ8.c2
  have g80 := hQ8.f 0
  have g81 := hQ8.f 1
  have g82 := hQ8.f 2
  have hne : w.heap.size ≠ w.heap.size + 2 := by omega
  have hv9 : IntsAt (w.heap.size + 1) W8.heap.size W8 (.slice va vn vc) o3.1 := by
    obtain ⟨a, cap, e1, h1⟩ := hv8.ints
    refine ⟨a, cap, e1, fun hne => ?_⟩
    obtain ⟨b, off, e2, h2, h3, h4⟩ := h1 hne
    exact ⟨b, off, e2, by omega, h3, h4⟩
  clear hv8 hrd8
  have HK := Lib.hid (chk_any ⟨o1.1, o2.1, o3.1⟩ (.slice va vn vc) _ _ W8 hv9 (Nat.le_refl _) (by show o3.1.length ≤ _; omega))
  unfold fwv at HK
  generalize chkF ⟨o1.1, o2.1, o3.1⟩ = C at *
  by_cases h1 : rEnd o3.2 = 0
  · have h1b : (rEnd o3.2 == 0) = true := by simpa using h1
    go_wp2_with fail
    refine HK.out.mono ?_
    rintro e w9 ⟨rfl, hb9⟩
    have hF9 := hF8.below hb9 hF8.lt
    have hQ9 := hQ8.below hb9 hQ8.lt
    have hw9 := hw8.trans (hb9.mono hw8.size)
    have hv10 := hv9.below hb9 (Nat.le_refl _)
    have HV := Lib.hid hv10
    have HS9 := Lib.hid hb9.size
    have c90 := hF9.c0
    have c91 := hF9.c1
    have c92 := hF9.c2
    have e90 := hQ9.c0
    have e91 := hQ9.c1
    have e92 := hQ9.c2
    have k90 := hQ9.f 0
    have k91 := hQ9.f 1
    have k92 := hQ9.f 2
    clear c80 c81 c82 d80 d81 d82 g80 g81 g82 hF8 hQ8 hw8 hv9 hb9 hv10
    by_cases h2 : C = 0
    · have h2n : (C != 0) = false := by simpa using h2
      have hD := E3.out (by omega) (by omega)
      clear E1 E2 E3 HK h1 h1b h2
      subst hD
      go_wp2_with fail
      have hQ := hQ9.set (.int .i64 o1.1) (.int .i64 o2.1) (.slice va vn vc)
      have hT := Fb.tset w9 w.heap.size (.int .i64 o1.1) (.int .i64 o2.1) (.slice va vn vc)
      have q0 := hQ.c0
      have q1 := hQ.c1
      have q2 := hQ.c2
      refine bodyPost_ret (v := .tuple #[fwv ⟨o1.1, o2.1, o3.1⟩ (.slice va vn vc), .int .i64 0]) ?_ rfl ⟨_, rfl, (HV.out.tch hT (by omega) HS9.out).wide (by omega) (Nat.le_trans HS9.out hT.size), tch_new hw9 hT (Nat.le_refl _) (Nat.le_refl _)⟩
      simp [results, Try.results12, go_sem, fwv, q0, q1, q2]
    · have h2n : (C != 0) = true := by simpa using h2
      have hD := E2.out (by omega) h2
      clear E1 E2 E3 HK h1 h1b h2
      subst hD
      go_wp2_with fail
      have hQ := hQ9.set (.int .i64 0) (.int .i64 0) (.slice none 0 0)
      have hT := Fb.tset w9 w.heap.size (.int .i64 0) (.int .i64 0) (.slice none 0 0)
      have q0 := hQ.c0
      have q1 := hQ.c1
      have q2 := hQ.c2
      refine bodyPost_ret (v := .tuple #[fwv noFw (.slice none 0 0), .int .i64 C]) ?_ rfl ⟨_, rfl, IntsAt.none _ _ _, tch_new hw9 hT (Nat.le_refl _) (Nat.le_refl _)⟩
      simp [results, Try.results12, go_sem, fwv, noFw, q0, q1, q2]
  · have h1b : (rEnd o3.2 == 0) = false := by simpa using h1
    have h1n : (rEnd o3.2 != 0) = true := by simpa using h1
    have hD := E1.out h1
    clear E1 E2 E3 HK h1
    subst hD
    go_wp2_with fail
    have hQ := hQ8.set (.int .i64 0) (.int .i64 0) (.slice none 0 0)
    have hT := Fb.tset W8 w.heap.size (.int .i64 0) (.int .i64 0) (.slice none 0 0)
    have q0 := hQ.c0
    have q1 := hQ.c1
    have q2 := hQ.c2
    refine bodyPost_ret (v := .tuple #[fwv noFw (.slice none 0 0), .int .i64 (rEnd o3.2)]) ?_ rfl ⟨_, rfl, IntsAt.none _ _ _, tch_new hw8 hT (Nat.le_refl _) (Nat.le_refl _)⟩
    simp [results, Try.results12, go_sem, fwv, noFw, q0, q1, q2]
end Go.Proofs.Ytbbfbeacgnimpaa
