/-
  Fragments: the walks of what checks a piece and limits a tick, the program's and the reference's.
-/
import Derived.Test.YtmjamjadfnbkdaaFra
open Go Go.RowKit Go.Proofs
namespace Go.Proofs.Ytmjamjadfnbkdaa
open Hub
set_option maxHeartbeats 1000000 in
theorem fits_any (i c n : Int) (w : World) (h0 : 0 ≤ c) (h1 : c ≤ 1099511627776) : Calls Try.prog 23 #[.int .i64 i, .int .i64 c, .int .i64 n] w fun e w' => e = .returned (.bool (fitsF i c n)) ∧ w = w' := by
  have hw : wrap64 (c - 1) = c - 1 := IntWalk.wrap64_in _ ⟨by omega, by omega⟩
  unfold fitsF
  by_cases e1 : i = c - 1
  · rw [if_pos e1]
    have b1 : (i != c - 1) = false := by simpa using e1
    by_cases e2 : c = 1
    · rw [if_pos e2]
      have b2 : (c == 1) = true := by simpa using e2
      subst e2
      clear e1
      go_enter Try.func23, Try.ntmps23
      go_wp2_with fail
      go_ret
      exact ⟨rfl, rfl⟩
    · rw [if_neg e2]
      have b2 : (c == 1) = false := by simpa using e2
      by_cases e3 : c = 16
      · rw [if_pos e3]
        have b3 : (c == 16) = true := by simpa using e3
        subst e3
        clear e1 e2
        by_cases e4 : 1 ≤ n
        · have d4 : decide (1 ≤ n) = true := by simpa using e4
          rw [d4, Bool.true_and]
          go_enter Try.func23, Try.ntmps23
          go_wp2_with fail
          go_ret
          exact ⟨rfl, rfl⟩
        · have d4 : decide (1 ≤ n) = false := by simpa using e4
          rw [d4, Bool.false_and]
          go_enter Try.func23, Try.ntmps23
          go_wp2_with fail
          go_ret
          exact ⟨rfl, rfl⟩
      · rw [if_neg e3]
        have b3 : (c == 16) = false := by simpa using e3
        clear e1 e2 e3
        by_cases e4 : 1 ≤ n
        · have d4 : decide (1 ≤ n) = true := by simpa using e4
          rw [d4, Bool.true_and]
          go_enter Try.func23, Try.ntmps23
          go_wp2_with fail
          go_ret
          exact ⟨rfl, rfl⟩
        · have d4 : decide (1 ≤ n) = false := by simpa using e4
          rw [d4, Bool.false_and]
          go_enter Try.func23, Try.ntmps23
          go_wp2_with fail
          go_ret
          exact ⟨rfl, rfl⟩
  · rw [if_neg e1]
    have b1 : (i != c - 1) = true := by simpa using e1
    clear e1
    go_enter Try.func23, Try.ntmps23
    go_wp2_with fail
    go_ret
    exact ⟨rfl, rfl⟩

set_option maxHeartbeats 1000000 in
theorem size_any (i c n : Int) (w : World) (h0 : 0 ≤ c) (h1 : c ≤ 1099511627776) (hi : i < c) : Calls Try.prog 24 #[.int .i64 i, .int .i64 c, .int .i64 n] w fun e w' => e = .returned (.bool (fitsF i c n)) ∧ w = w' := by
  have hw : wrap64 (c - 1) = c - 1 := IntWalk.wrap64_in _ ⟨by omega, by omega⟩
  unfold fitsF
  by_cases e1 : i = c - 1
  · rw [if_pos e1]
    have b1 : ¬ i < c - 1 := by omega
    by_cases e2 : c = 1
    · rw [if_pos e2]
      have b2 : (c == 1) = true := by simpa using e2
      subst e2
      clear e1
      go_enter Try.func24, Try.ntmps24
      go_wp2_with fail
      go_ret
      exact ⟨rfl, rfl⟩
    · rw [if_neg e2]
      have b2 : (c == 1) = false := by simpa using e2
      by_cases e3 : c = 16
      · rw [if_pos e3]
        have b3 : (c == 16) = true := by simpa using e3
        subst e3
        clear e1 e2
        by_cases e4 : 1 ≤ n
        · have d4 : decide (1 ≤ n) = true := by simpa using e4
          rw [d4, Bool.true_and]
          go_enter Try.func24, Try.ntmps24
          go_wp2_with fail
          go_ret
          exact ⟨rfl, rfl⟩
        · have d4 : decide (1 ≤ n) = false := by simpa using e4
          rw [d4, Bool.false_and]
          go_enter Try.func24, Try.ntmps24
          go_wp2_with fail
          go_ret
          exact ⟨rfl, rfl⟩
      · rw [if_neg e3]
        have b3 : (c == 16) = false := by simpa using e3
        clear e1 e2 e3
        by_cases e4 : 1 ≤ n
        · have d4 : decide (1 ≤ n) = true := by simpa using e4
          rw [d4, Bool.true_and]
          go_enter Try.func24, Try.ntmps24
          go_wp2_with fail
          go_ret
          exact ⟨rfl, rfl⟩
        · have d4 : decide (1 ≤ n) = false := by simpa using e4
          rw [d4, Bool.false_and]
          go_enter Try.func24, Try.ntmps24
          go_wp2_with fail
          go_ret
          exact ⟨rfl, rfl⟩
  · rw [if_neg e1]
    have b1 : i < c - 1 := by omega
    clear e1
    go_enter Try.func24, Try.ntmps24
    go_wp2_with fail
    go_ret
    exact ⟨rfl, rfl⟩

theorem limit_any (n : Int) (w : World) : Calls Try.prog 28 #[.int .i64 n] w fun e w' => e = .returned (.int .i64 (limF n)) ∧ w = w' := by
  unfold limF
  go_enter Try.func28, Try.ntmps28
  go_wp2_with fail
  go_ret
  exact ⟨rfl, rfl⟩

theorem tick_any (n : Int) (w : World) : Calls Try.prog 33 #[.int .i64 n] w fun e w' => e = .returned (.int .i64 (limF n)) ∧ w = w' := by
  have hd : limF n = if n < 0 then 0 else if 1099511627776 < n then 1099511627776 else n := by
    unfold limF
    split
    · omega
    · split <;> omega
  rw [hd]
  clear hd
  by_cases e1 : n < 0
  · rw [if_pos e1]
    go_enter Try.func33, Try.ntmps33
    go_wp2_with fail
    go_ret
    exact ⟨rfl, rfl⟩
  · rw [if_neg e1]
    by_cases e2 : 1099511627776 < n
    · rw [if_pos e2]
      go_enter Try.func33, Try.ntmps33
      go_wp2_with fail
      go_ret
      exact ⟨rfl, rfl⟩
    · rw [if_neg e2]
      go_enter Try.func33, Try.ntmps33
      go_wp2_with fail
      go_ret
      exact ⟨rfl, rfl⟩

set_option maxHeartbeats 1000000 in
theorem chk_any (s : ByteArray) (w : World) (hs : s.size ≤ 1099511627776) : Calls Try.prog 15 #[.string s] w fun e w' => e = .returned (.int .i64 (chkF s)) ∧ Below w.heap.size w w' := by
  unfold chkF
  by_cases h3 : s.size < 3
  · rw [if_pos h3]
    have h3i : (s.size : Int) < 3 := by omega
    go_enter Try.func15, Try.ntmps15
    go_wp2_with fail
    go_ret
    exact ⟨rfl, Below.refl _ _⟩
  · rw [if_neg h3]
    have h3i : ¬ (s.size : Int) < 3 := by omega
    have hi1 : (1 : Int) < (s.size : Int) := by omega
    have hi2 : (2 : Int) < (s.size : Int) := by omega
    have e1 := byI_at s 1 (by omega)
    have e2 := byI_at s 2 (by omega)
    have l1 := byI_lo s 1
    have l2 := byI_lo s 2
    have u1 := byI_hi s 1
    have u2 := byI_hi s 2
    have w1 : wrap64 (byI s 1) = byI s 1 := IntWalk.wrap64_in _ ⟨by omega, by omega⟩
    have w2 : wrap64 (byI s 2) = byI s 2 := IntWalk.wrap64_in _ ⟨by omega, by omega⟩
    have w3 : wrap64 ((s.size : Int) - 3) = (s.size : Int) - 3 := IntWalk.wrap64_in _ ⟨by omega, by omega⟩
    have HF := Lib.hid (fun W (h : byI s 1 < byI s 2) => fits_any (byI s 1) (byI s 2) ((s.size : Int) - 3) W l2 (by omega))
    generalize hB1 : byI s 1 = b1 at *
    generalize hB2 : byI s 2 = b2 at *
    by_cases g1 : b2 < 1
    · rw [if_pos (Or.inl g1)]
      have d1 : decide (b2 < 1) = true := decide_eq_true g1
      go_enter Try.func15, Try.ntmps15
      go_wp2_with fail
      go_quiet (fail)
      go_wp2_with fail
      go_ret
      exact ⟨rfl, Below.drewN' (Below.refl _ _) _⟩
    · have d1 : decide (b2 < 1) = false := decide_eq_false g1
      by_cases g2 : 16 < b2
      · rw [if_pos (Or.inr (Or.inl g2))]
        have d2 : decide (16 < b2) = true := decide_eq_true g2
        go_enter Try.func15, Try.ntmps15
        go_wp2_with fail
        go_quiet (fail)
        go_wp2_with fail
        go_ret
        exact ⟨rfl, Below.drewN' (Below.refl _ _) _⟩
      · have d2 : decide (16 < b2) = false := decide_eq_false g2
        by_cases g3 : b2 ≤ b1
        · rw [if_pos (Or.inr (Or.inr (Or.inl g3)))]
          have d3 : decide (b2 ≤ b1) = true := decide_eq_true g3
          go_enter Try.func15, Try.ntmps15
          go_wp2_with fail
          go_quiet (fail)
          go_wp2_with fail
          go_ret
          exact ⟨rfl, Below.drewN' (Below.refl _ _) _⟩
        · have d3 : decide (b2 ≤ b1) = false := decide_eq_false g3
          have HF2 := Lib.hid (fun W => HF.out W (by omega))
          cases hf : fitsF b1 b2 ((s.size : Int) - 3) with
          | false =>
            rw [if_pos (Or.inr (Or.inr (Or.inr rfl)))]
            rw [hf] at HF2
            go_enter Try.func15, Try.ntmps15
            go_wp2_with fail
            go_quiet (fail)
            go_wp2_with (go_at_call 23; refine (HF2.out _).mono ?_; rintro e w1 ⟨rfl, rfl⟩)
            go_ret
            exact ⟨rfl, Below.drewN' (Below.refl _ _) _⟩
          | true =>
            rw [if_neg (by rintro (h | h | h | h) <;> first | exact g1 h | exact g2 h | exact g3 h | exact absurd h (by decide))]
            rw [hf] at HF2
            go_enter Try.func15, Try.ntmps15
            go_wp2_with fail
            go_quiet (fail)
            go_wp2_with (go_at_call 23; refine (HF2.out _).mono ?_; rintro e w1 ⟨rfl, rfl⟩)
            go_ret
            exact ⟨rfl, Below.drewN' (Below.refl _ _) _⟩

set_option maxHeartbeats 1000000 in
theorem xChk_any (s : ByteArray) (w : World) (hs : s.size ≤ 1099511627776) : Calls Try.prog 16 #[.string s] w fun e w' => e = .returned (.int .i64 (chkF s)) ∧ Below w.heap.size w w' := by
  unfold chkF
  by_cases h3 : s.size < 3
  · rw [if_pos h3]
    have h3i : (s.size : Int) < 3 := by omega
    go_enter Try.func16, Try.ntmps16
    go_wp2_with fail
    go_ret
    exact ⟨rfl, Below.refl _ _⟩
  · rw [if_neg h3]
    have h3i : ¬ (s.size : Int) < 3 := by omega
    have hi1 : (1 : Int) < (s.size : Int) := by omega
    have hi2 : (2 : Int) < (s.size : Int) := by omega
    have e1 := byI_at s 1 (by omega)
    have e2 := byI_at s 2 (by omega)
    have l1 := byI_lo s 1
    have l2 := byI_lo s 2
    have u1 := byI_hi s 1
    have u2 := byI_hi s 2
    have w1 : wrap64 (byI s 1) = byI s 1 := IntWalk.wrap64_in _ ⟨by omega, by omega⟩
    have w2 : wrap64 (byI s 2) = byI s 2 := IntWalk.wrap64_in _ ⟨by omega, by omega⟩
    have w3 : wrap64 ((s.size : Int) - 3) = (s.size : Int) - 3 := IntWalk.wrap64_in _ ⟨by omega, by omega⟩
    have HF := Lib.hid (fun W (h : byI s 1 < byI s 2) => size_any (byI s 1) (byI s 2) ((s.size : Int) - 3) W l2 (by omega) (by omega))
    generalize hB1 : byI s 1 = b1 at *
    generalize hB2 : byI s 2 = b2 at *
    by_cases g1 : b2 < 1
    · rw [if_pos (Or.inl g1)]
      have d1 : decide (b2 < 1) = true := decide_eq_true g1
      go_enter Try.func16, Try.ntmps16
      go_wp2_with fail
      go_quiet (fail)
      go_wp2_with fail
      go_ret
      exact ⟨rfl, Below.drewN' (Below.refl _ _) _⟩
    · have d1 : decide (b2 < 1) = false := decide_eq_false g1
      by_cases g2 : 16 < b2
      · rw [if_pos (Or.inr (Or.inl g2))]
        have d2 : decide (16 < b2) = true := decide_eq_true g2
        go_enter Try.func16, Try.ntmps16
        go_wp2_with fail
        go_quiet (fail)
        go_wp2_with fail
        go_ret
        exact ⟨rfl, Below.drewN' (Below.refl _ _) _⟩
      · have d2 : decide (16 < b2) = false := decide_eq_false g2
        by_cases g3 : b2 ≤ b1
        · rw [if_pos (Or.inr (Or.inr (Or.inl g3)))]
          have d3 : decide (b2 ≤ b1) = true := decide_eq_true g3
          go_enter Try.func16, Try.ntmps16
          go_wp2_with fail
          go_quiet (fail)
          go_wp2_with fail
          go_ret
          exact ⟨rfl, Below.drewN' (Below.refl _ _) _⟩
        · have d3 : decide (b2 ≤ b1) = false := decide_eq_false g3
          have HF2 := Lib.hid (fun W => HF.out W (by omega))
          cases hf : fitsF b1 b2 ((s.size : Int) - 3) with
          | false =>
            rw [if_pos (Or.inr (Or.inr (Or.inr rfl)))]
            rw [hf] at HF2
            go_enter Try.func16, Try.ntmps16
            go_wp2_with fail
            go_quiet (fail)
            go_wp2_with (go_at_call 24; refine (HF2.out _).mono ?_; rintro e w1 ⟨rfl, rfl⟩)
            go_ret
            exact ⟨rfl, Below.drewN' (Below.refl _ _) _⟩
          | true =>
            rw [if_neg (by rintro (h | h | h | h) <;> first | exact g1 h | exact g2 h | exact g3 h | exact absurd h (by decide))]
            rw [hf] at HF2
            go_enter Try.func16, Try.ntmps16
            go_wp2_with fail
            go_quiet (fail)
            go_wp2_with (go_at_call 24; refine (HF2.out _).mono ?_; rintro e w1 ⟨rfl, rfl⟩)
            go_ret
            exact ⟨rfl, Below.drewN' (Below.refl _ _) _⟩
end Go.Proofs.Ytmjamjadfnbkdaa
