/-
  What the laws on stored blocks leave out; the law: a complete image's data is the reference's.
-/
import Derived.Test.YtbbfbeacgnimpaaFirV
import Derived.Test.YtbbfbeacgnimpaaFirY
open Go Go.RowKit Go.Proofs
namespace Go.Proofs.Ytbbfbeacgnimpaa
namespace Hub
def largeL (f : Fw) (hl : List Bool) (bs : List ByteArray) (x : ByteArray) : Bool := decide (80 < f.sums.length) || decide (80 < hl.length) || decide (80 < bs.length) || decide (80 < x.size) || bs.any (fun y => decide (80 < y.size))
section
variable {f : Fw} {hl : List Bool} {bs : List ByteArray} {x : ByteArray}
theorem largeL_no (h : largeL f hl bs x = false) : f.sums.length ≤ 80 ∧ hl.length ≤ 80 ∧ bs.length ≤ 80 ∧ x.size ≤ 80 ∧ ∀ y ∈ bs, y.size ≤ 80 := by
  simp [largeL] at h
  exact ⟨by omega, by omega, by omega, by omega, h.2⟩
theorem largeL_of (h1 : f.sums.length ≤ 80) (h2 : hl.length ≤ 80) (h3 : bs.length ≤ 80) (h4 : x.size ≤ 80) (h5 : ∀ y ∈ bs, y.size ≤ 80) : largeL f hl bs x = false := by
  simp [largeL]; exact ⟨⟨⟨⟨h1, h2⟩, h3⟩, h4⟩, h5⟩
theorem largeL_a (h : 80 < f.sums.length ∨ 80 < hl.length ∨ 80 < bs.length ∨ 80 < x.size) : largeL f hl bs x = true := by
  simp [largeL]; omega
theorem largeL_b {y : ByteArray} (h1 : y ∈ bs) (h2 : 80 < y.size) : largeL f hl bs x = true := by
  simp [largeL]; exact .inr ⟨y, h1, h2⟩
end
/-- A box that holds a description with stored blocks. -/
def St (k : Nat) (f : Fw) (u vh vb : Value) (i : Int) (x : ByteArray) (w : World) : Prop := w.heap[k]? = some (.cells #[.int .i64 f.ven, .int .i64 f.ver, u, vh, vb, .int .i64 i, .string x] 41 (0, 0))
section
variable {k : Nat} {f : Fw} {u vh vb : Value} {i : Int} {x : ByteArray} {w w' : World}
theorem St.lt (h : St k f u vh vb i x w) : k < w.heap.size := (Array.getElem?_eq_some_iff.1 h).1
theorem St.below {N : Nat} (h : St k f u vh vb i x w) (t : Below N w w') (hn : k < N) : St k f u vh vb i x w' := by unfold St; rw [t.block k hn]; exact h
theorem St.c0 (h : St k f u vh vb i x w) : w.cell? ⟨k, 0, none⟩ = some (.int .i64 f.ven) := by rw [Lib.cell_of_heap h]; rfl
theorem St.c1 (h : St k f u vh vb i x w) : w.cell? ⟨k, 1, none⟩ = some (.int .i64 f.ver) := by rw [Lib.cell_of_heap h]; rfl
theorem St.c2 (h : St k f u vh vb i x w) : w.cell? ⟨k, 2, none⟩ = some u := by rw [Lib.cell_of_heap h]; rfl
theorem St.c3 (h : St k f u vh vb i x w) : w.cell? ⟨k, 3, none⟩ = some vh := by rw [Lib.cell_of_heap h]; rfl
theorem St.c4 (h : St k f u vh vb i x w) : w.cell? ⟨k, 4, none⟩ = some vb := by rw [Lib.cell_of_heap h]; rfl
theorem St.c5 (h : St k f u vh vb i x w) : w.cell? ⟨k, 5, none⟩ = some (.int .i64 i) := by rw [Lib.cell_of_heap h]; rfl
theorem St.c6 (h : St k f u vh vb i x w) : w.cell? ⟨k, 6, none⟩ = some (.string x) := by rw [Lib.cell_of_heap h]; rfl
end
end Hub
open Hub
theorem flagsT (v v' : Value) (l : List Bool) (lo N lo' N' : Nat) (w : World) (hv : BoolsAt lo N w v l) (hv' : BoolsAt lo' N' w v' l) (hl : l.length ≤ 1099511627776) :
    Calls Try.prog 28 #[v, v'] w fun e w' => e = .returned (.bool true) ∧ Below w.heap.size w w' := by
  have h := flags_any v v' l l lo N lo' N' w hv hv' hl
  rw [decide_eq_true rfl] at h
  exact h.mono fun e w' ⟨he, n, hn⟩ => ⟨he, hn ▸ Below.drewN' (Below.refl _ _) n⟩
theorem textsT (v v' : Value) (l : List ByteArray) (lo N lo' N' : Nat) (w : World) (hv : StrsAt lo N w v l) (hv' : StrsAt lo' N' w v' l) (hl : l.length ≤ 1099511627776) :
    Calls Try.prog 22 #[v, v'] w fun e w' => e = .returned (.bool true) ∧ Below w.heap.size w w' := by
  have h := texts_any v v' l l lo N lo' N' w hv hv' hl
  rw [decide_eq_true rfl] at h
  exact h.mono fun e w' ⟨he, n, hn⟩ => ⟨he, hn ▸ Below.drewN' (Below.refl _ _) n⟩

set_option maxHeartbeats 1000000 in
theorem large_any (f : Fw) (u vh vb : Value) (hl : List Bool) (bs : List ByteArray) (i : Int) (x : ByteArray) (lo N : Nat) (w : World) (hu : IntsAt lo N w u f.sums) (hh : BoolsAt lo N w vh hl) (hb : StrsAt lo N w vb bs) (hN : N ≤ w.heap.size)
    (k1 : f.sums.length ≤ maxLen) (k2 : hl.length ≤ maxLen) (k3 : bs.length ≤ maxLen) (k4 : x.size ≤ maxLen) :
    Calls Try.prog 23 #[stv f u vh vb i x] w fun e w' => e = .returned (.bool (largeL f hl bs x)) ∧ Below w.heap.size w w' := by
  obtain ⟨au, cu, rfl, -⟩ := hu
  obtain ⟨ah, ch, rfl, -⟩ := hh
  have HB := Lib.hid (hb.below (below_box w (.cells #[.int .i64 f.ven, .int .i64 f.ver, .slice au f.sums.length cu, .slice ah hl.length ch, vb, .int .i64 i, .string x] 41)) hN)
  obtain ⟨ab, cb, rfl, -⟩ := hb
  have Hw := Lib.hid (below_box w (.cells #[.int .i64 f.ven, .int .i64 f.ver, .slice au f.sums.length cu, .slice ah hl.length ch, .slice ab bs.length cb, .int .i64 i, .string x] 41))
  unfold maxLen at k1 k2 k3 k4
  unfold stv
  by_cases g1 : 80 < f.sums.length
  · have g1i : (80 : Int) < (f.sums.length : Int) := by omega
    rw [largeL_a (.inl g1)]
    go_enter Try.func23, Try.ntmps23
    go_wp2_with fail
    go_ret
    exact ⟨rfl, Hw.out⟩
  · have g1i : ¬ (80 : Int) < (f.sums.length : Int) := by omega
    by_cases g2 : 80 < hl.length
    · have g2i : (80 : Int) < (hl.length : Int) := by omega
      rw [largeL_a (.inr (.inl g2))]
      go_enter Try.func23, Try.ntmps23
      go_wp2_with fail
      go_ret
      exact ⟨rfl, Hw.out⟩
    · have g2i : ¬ (80 : Int) < (hl.length : Int) := by omega
      by_cases g3 : 80 < bs.length
      · have g3i : (80 : Int) < (bs.length : Int) := by omega
        rw [largeL_a (.inr (.inr (.inl g3)))]
        go_enter Try.func23, Try.ntmps23
        go_wp2_with fail
        go_ret
        exact ⟨rfl, Hw.out⟩
      · have g3i : ¬ (80 : Int) < (bs.length : Int) := by omega
        by_cases g4 : 80 < x.size
        · have g4i : (80 : Int) < (x.size : Int) := by omega
          rw [largeL_a (.inr (.inr (.inr g4)))]
          go_enter Try.func23, Try.ntmps23
          go_wp2_with fail
          go_ret
          exact ⟨rfl, Hw.out⟩
        · have g4i : ¬ (80 : Int) < (x.size : Int) := by omega
          have HNo := Lib.hid (fun h5 => largeL_of (f := f) (hl := hl) (bs := bs) (x := x) (by omega) (by omega) (by omega) (by omega) h5)
          have HYes := Lib.hid (fun k (hk : k < bs.length) (h5 : 80 < bs[k].size) => largeL_b (f := f) (hl := hl) (bs := bs) (x := x) (List.getElem_mem hk) h5)
          obtain ⟨n, hn⟩ : ∃ n, bs.length = n := ⟨_, rfl⟩
          have Hn := Lib.hid hn
          rw [hn] at HB Hw g3i ⊢
          have hn80 : n ≤ 80 := by omega
          clear hn g1 g2 g3 g4 k1 k2 k3 k4
          generalize largeL f hl bs x = R at *
          go_enter Try.func23, Try.ntmps23
          go_wp2_with fail
          go_loopw [3] (fun q wr => ∃ k : Nat, k ≤ n ∧ q = .int .i64 k ∧ (∀ j (hj : j < bs.length), j < k → bs[j].size ≤ 80) ∧ wr = w.alloc (.cells #[.int .i64 f.ven, .int .i64 f.ver, .slice au f.sums.length cu, .slice ah hl.length ch, .slice ab n cb, .int .i64 i, .string x] 41)) (fun i _ => n - (intOf i).toNat)
          case atStart => exact ⟨0, Nat.zero_le _, rfl, fun j _ h => by omega, rfl⟩
          case round =>
            obtain ⟨k, hk, rfl, hall, rfl⟩ := hrel
            by_cases hlt : k < n
            · have hkl : k < bs.length := by rw [Hn.out]; exact hlt
              have hki : (k : Int) < (n : Int) := by omega
              obtain ⟨bk, off, rfl, hbk, hcl⟩ := HB.out.get k hkl
              have HA := Lib.hid (fun (e : bs[k].size ≤ 80) j (hj : j < bs.length) (hjk : j < k + 1) => (show bs[j].size ≤ 80 from by
                by_cases e2 : j = k
                · subst e2; exact e
                · exact hall j hj (by omega)))
              have HY := Lib.hid (show 80 < bs[k].size → R = true from fun h5 => HYes.out k hkl h5)
              clear hall
              generalize bs[k] = y at *
              by_cases hbig : 80 < y.size
              · have hbi : (80 : Int) < (y.size : Int) := by omega
                have hR := HY.out hbig
                subst hR
                clear HA HY
                go_wp2_with fail
                go_ret
                exact ⟨rfl, Hw.out⟩
              · have hbi : ¬ (80 : Int) < (y.size : Int) := by omega
                have HA2 := Lib.hid (HA.out (by omega))
                clear HA HY
                go_wp2_with fail
                go_roundw
                case rel => exact ⟨k + 1, by omega, by go_num, HA2.out, by first | rfl | trivial⟩
                case measure => simp [intOf]; omega
            · have hki : ¬ (k : Int) < (n : Int) := by omega
              have hR : R = false := HNo.out (fun y hy => by
                obtain ⟨j, hj, rfl⟩ := List.getElem_of_mem hy
                exact hall j hj (by have := Hn.out; omega))
              subst hR
              clear hall
              go_wp2_with fail
              go_ret
              exact ⟨rfl, Hw.out⟩

set_option maxHeartbeats 1000000 in
theorem lawWhole (f : Fw) (u vh vb : Value) (hl : List Bool) (bs : List ByteArray) (i : Int) (x : ByteArray) (w : World) (hu : IntsAt 0 w.heap.size w u f.sums) (hh : BoolsAt 0 w.heap.size w vh hl) (hb : StrsAt 0 w.heap.size w vb bs)
    (k1 : f.sums.length ≤ maxLen) (k2 : hl.length ≤ maxLen) (k3 : bs.length ≤ maxLen) (k4 : x.size ≤ maxLen) :
    Calls Try.prog 7 #[stv f u vh vb i x] w fun e w' => e = .returned (.bool true) ∧ Below w.heap.size w w' := by
  have HG := Lib.hid (fun w' (k : Below w.heap.size w w') => large_any f u vh vb hl bs i x 0 w.heap.size w' (hu.below k (Nat.le_refl _)) (hh.below k (Nat.le_refl _)) (hb.below k (Nat.le_refl _)) k.size k1 k2 k3 k4)
  have hS0 : St w.heap.size f u vh vb i x (w.alloc (.cells #[.int .i64 f.ven, .int .i64 f.ver, u, vh, vb, .int .i64 i, .string x] 41)) := heap_alloc_new w _
  have hw0 := below_box w (.cells #[.int .i64 f.ven, .int .i64 f.ver, u, vh, vb, .int .i64 i, .string x] 41)
  by_cases hg : largeL f hl bs x = true
  · rw [hg] at HG
    clear hg hu hh hb
    unfold stv at *
    go_enter Try.func7, Try.ntmps7
    go_wp2_with (first | (go_at_call 23; refine (HG.out _ hw0).mono ?_; rintro e w1 ⟨rfl, hb1⟩) | (go_at_call 10; refine (awake_any _).mono ?_; rintro e w8 ⟨rfl, hb8⟩))
    go_ret
    exact ⟨rfl, bt hw0 (bt hb1 hb8)⟩
  · obtain ⟨n1, n2, n3, n4, n5⟩ := largeL_no (by simpa using hg)
    have hgf : largeL f hl bs x = false := by simpa using hg
    rw [hgf] at HG
    have HA := Lib.hid (fun w' (k : Below w.heap.size w w') => whole_any f u vh vb 0 w.heap.size hl bs w' (hu.below k (Nat.le_refl _)) (hh.below k (Nat.le_refl _)) (hb.below k (Nat.le_refl _)) k.size (by omega) (fun y hy => by have := n5 y hy; omega))
    have HX := Lib.hid (fun w' (k : Below w.heap.size w w') => xWhole_any f u vh vb 0 w.heap.size hl bs w' (hu.below k (Nat.le_refl _)) (hh.below k (Nat.le_refl _)) (hb.below k (Nat.le_refl _)) k.size (by omega) (fun y hy => by have := n5 y hy; omega))
    obtain ⟨au, cu, rfl, -⟩ := hu
    obtain ⟨ah, ch, rfl, -⟩ := hh
    obtain ⟨ab, cb, rfl, -⟩ := hb
    unfold stv fwv at *
    generalize wholeF f hl bs = R at *
    generalize mk R.1 = RS at *
    clear hg hgf n1 n2 n3 n4 n5 k1 k2 k3 k4
    go_enter Try.func7, Try.ntmps7
    go_wp2_with (go_at_call 23; refine (HG.out _ hw0).mono ?_; rintro e w1 ⟨rfl, hb1⟩; have hS1 := hS0.below hb1 hS0.lt; have c0 := hS1.c0; have c1 := hS1.c1; have c2 := hS1.c2; have c3 := hS1.c3; have c4 := hS1.c4)
    have hw1 := bt hw0 hb1
    refine (HA.out _ hw1).mono ?_
    rintro e w2 ⟨rfl, hb2⟩
    have hS2 := hS1.below hb2 hS1.lt
    have hw2 := bt hw1 hb2
    clear c0 c1 c2 c3 c4
    have c0 := hS2.c0
    have c1 := hS2.c1
    have c2 := hS2.c2
    have c3 := hS2.c3
    have c4 := hS2.c4
    go_wp2_with fail
    refine (HX.out _ hw2).mono ?_
    rintro e w3 ⟨rfl, hb3⟩
    go_wp2_with (go_at_call 10; refine (awake_any _).mono ?_; rintro e w8 ⟨rfl, hb8⟩)
    go_ret
    exact ⟨rfl, bt hw2 (bt hb3 hb8)⟩
end Go.Proofs.Ytbbfbeacgnimpaa
