/-
  The walks of the checks of frames, the program's and the reference's.
-/
import Derived.Test.YtiicjbhlcmmijaaProg
import Derived.Test.YtiicjbhlcmmijaaFrm
import Derived.Deep.Light
open Go Go.RowKit Go.Proofs
namespace Go.Proofs.Ytiicjbhlcmmijaa
open Hub

theorem node_any (n : Int) (w : World) : Calls Try.prog 20 #[.int .i64 n] w fun e w' => e = .returned (.bool (nodeB n)) ∧ w = w' := by
  by_cases h1 : 0 ≤ n
  · by_cases h2 : n ≤ 250
    · have h : nodeB n = true := decide_eq_true ⟨h1, h2⟩
      rw [h]; clear h
      go_enter Try.func20, Try.ntmps20
      go_wp2
      go_ret
      exact ⟨rfl, rfl⟩
    · have h : nodeB n = false := decide_eq_false (by omega)
      rw [h]; clear h
      go_enter Try.func20, Try.ntmps20
      go_wp2
      go_ret
      exact ⟨rfl, rfl⟩
  · have h : nodeB n = false := decide_eq_false (by omega)
    rw [h]; clear h
    go_enter Try.func20, Try.ntmps20
    go_wp2
    go_ret
    exact ⟨rfl, rfl⟩
theorem single_any (n : Int) (w : World) : Calls Try.prog 22 #[.int .i64 n] w fun e w' => e = .returned (.bool (nodeB n)) ∧ w = w' := by
  by_cases h1 : 0 ≤ n
  · by_cases h2 : n ≤ 250
    · have h : nodeB n = true := decide_eq_true ⟨h1, h2⟩
      rw [h]; clear h
      go_enter Try.func22, Try.ntmps22
      go_wp2
      go_ret
      exact ⟨rfl, rfl⟩
    · have h : nodeB n = false := decide_eq_false (by omega)
      rw [h]; clear h
      go_enter Try.func22, Try.ntmps22
      go_wp2
      go_ret
      exact ⟨rfl, rfl⟩
  · have h : nodeB n = false := decide_eq_false (by omega)
    rw [h]; clear h
    go_enter Try.func22, Try.ntmps22
    go_wp2
    go_ret
    exact ⟨rfl, rfl⟩
theorem target_any (n : Int) (w : World) : Calls Try.prog 21 #[.int .i64 n] w fun e w' => e = .returned (.bool (targetB n)) ∧ w = w' := by
  cases hn : nodeB n with
  | true =>
    have h : targetB n = true := decide_eq_true (.inl (nodeB_yes hn))
    rw [h]; clear h
    go_enter Try.func21, Try.ntmps21
    go_wp2_with (go_at_call 20; refine (node_any _ _).mono ?_; rw [hn]; rintro e w1 ⟨rfl, rfl⟩)
    go_ret
    exact ⟨rfl, rfl⟩
  | false =>
    have hnn := nodeB_no hn
    by_cases h2 : n = 255
    · have h : targetB n = true := decide_eq_true (.inr h2)
      rw [h]; clear h
      have h3 : (n == 255) = true := by simpa using h2
      clear hnn h2
      go_enter Try.func21, Try.ntmps21
      go_wp2_with (go_at_call 20; refine (node_any _ _).mono ?_; rw [hn]; rintro e w1 ⟨rfl, rfl⟩)
      go_ret
      exact ⟨rfl, rfl⟩
    · have h : targetB n = false := decide_eq_false (by omega)
      rw [h]; clear h
      have h3 : (n == 255) = false := by simpa using h2
      clear hnn h2
      go_enter Try.func21, Try.ntmps21
      go_wp2_with (go_at_call 20; refine (node_any _ _).mono ?_; rw [hn]; rintro e w1 ⟨rfl, rfl⟩)
      go_ret
      exact ⟨rfl, rfl⟩

theorem either_any (n : Int) (w : World) : Calls Try.prog 23 #[.int .i64 n] w fun e w' => e = .returned (.bool (targetB n)) ∧ w = w' := by
  cases hn : nodeB n with
  | true =>
    have h : targetB n = true := decide_eq_true (.inl (nodeB_yes hn))
    rw [h]; clear h
    go_enter Try.func23, Try.ntmps23
    go_wp2_with (go_at_call 22; refine (single_any _ _).mono ?_; rw [hn]; rintro e w1 ⟨rfl, rfl⟩)
    go_ret
    exact ⟨rfl, rfl⟩
  | false =>
    have hnn := nodeB_no hn
    by_cases h2 : n = 255
    · have h : targetB n = true := decide_eq_true (.inr h2)
      rw [h]; clear h
      have h3 : (n == 255) = true := by simpa using h2
      clear hnn h2
      go_enter Try.func23, Try.ntmps23
      go_wp2_with (go_at_call 22; refine (single_any _ _).mono ?_; rw [hn]; rintro e w1 ⟨rfl, rfl⟩)
      go_ret
      exact ⟨rfl, rfl⟩
    · have h : targetB n = false := decide_eq_false (by omega)
      rw [h]; clear h
      have h3 : (n == 255) = false := by simpa using h2
      clear hnn h2
      go_enter Try.func23, Try.ntmps23
      go_wp2_with (go_at_call 22; refine (single_any _ _).mono ?_; rw [hn]; rintro e w1 ⟨rfl, rfl⟩)
      go_ret
      exact ⟨rfl, rfl⟩

set_option maxHeartbeats 4000000 in
theorem check_eq (f : Fr) (w : World) : Calls Try.prog 11 #[.agg #[.int .i64 f.kind, .int .i64 f.frm, .int .i64 f.to, .int .i64 f.src, .int .i64 f.tgt, .int .i64 f.seq, .int .i64 f.hops, .bool f.urg, .string f.dat]] w fun e w' => e = .returned (.int .i64 (check f)) ∧ w' = w.alloc (.cells #[.int .i64 f.kind, .int .i64 f.frm, .int .i64 f.to, .int .i64 f.src, .int .i64 f.tgt, .int .i64 f.seq, .int .i64 f.hops, .bool f.urg, .string f.dat] 23) := by
  generalize hr : check f = r
  have HR := Lib.hid hr
  clear hr
  go_enter Try.func11, Try.ntmps11
  go_wp2_with (first | (go_at_call 20; refine (node_any _ _).mono ?_; rintro e w1 ⟨rfl, rfl⟩) | (go_at_call 21; refine (target_any _ _).mono ?_; rintro e w1 ⟨rfl, rfl⟩))
  all_goals
    go_ret
    refine ⟨ret_int ?_, ?_⟩
    rotate_left
    · clear HR; first | rfl | ((try simp only [beq_iff_eq] at *); simp only [*])
    rw [← HR.out]
    go_light
    clear HR
    try simp only [nodeB, targetB, decide_eq_true_eq, beq_iff_eq, beq_eq_false_iff_ne, bne_iff_ne, ne_eq, Bool.not_eq_true', Bool.not_eq_false', bne_eq_false_iff_eq, toList_nil] at *
    simp only [check, inRange, badForm]
    repeat' split
    all_goals omega

theorem check_any (f : Fr) (w : World) : Calls Try.prog 11 #[.agg #[.int .i64 f.kind, .int .i64 f.frm, .int .i64 f.to, .int .i64 f.src, .int .i64 f.tgt, .int .i64 f.seq, .int .i64 f.hops, .bool f.urg, .string f.dat]] w fun e w' => e = .returned (.int .i64 (check f)) ∧ Below w.heap.size w w' := (check_eq f w).mono fun _ _ ⟨he, hw⟩ => ⟨he, hw ▸ (Below.refl _ _).alloc (Nat.le_refl _) _⟩

set_option maxHeartbeats 4000000 in
theorem refCheck_eq (f : Fr) (w : World) : Calls Try.prog 12 #[.agg #[.int .i64 f.kind, .int .i64 f.frm, .int .i64 f.to, .int .i64 f.src, .int .i64 f.tgt, .int .i64 f.seq, .int .i64 f.hops, .bool f.urg, .string f.dat]] w fun e w' => e = .returned (.int .i64 (check f)) ∧ w' = w.alloc (.cells #[.int .i64 f.kind, .int .i64 f.frm, .int .i64 f.to, .int .i64 f.src, .int .i64 f.tgt, .int .i64 f.seq, .int .i64 f.hops, .bool f.urg, .string f.dat] 23) := by
  generalize hr : check f = r
  have HR := Lib.hid hr
  clear hr
  go_enter Try.func12, Try.ntmps12
  go_wp2_with (first | (go_at_call 22; refine (single_any _ _).mono ?_; rintro e w1 ⟨rfl, rfl⟩) | (go_at_call 23; refine (either_any _ _).mono ?_; rintro e w1 ⟨rfl, rfl⟩))
  all_goals
    go_ret
    refine ⟨ret_int ?_, ?_⟩
    rotate_left
    · clear HR; first | rfl | ((try simp only [beq_iff_eq] at *); simp only [*])
    rw [← HR.out]
    go_light
    clear HR
    try simp only [nodeB, targetB, decide_eq_true_eq, decide_eq_false_iff_not, beq_iff_eq, beq_eq_false_iff_ne, bne_iff_ne, ne_eq, Bool.not_eq_true', Bool.not_eq_false', bne_eq_false_iff_eq, toList_nil] at *
    simp only [check, inRange, badForm]
    repeat' split
    all_goals omega

theorem refCheck_any (f : Fr) (w : World) : Calls Try.prog 12 #[.agg #[.int .i64 f.kind, .int .i64 f.frm, .int .i64 f.to, .int .i64 f.src, .int .i64 f.tgt, .int .i64 f.seq, .int .i64 f.hops, .bool f.urg, .string f.dat]] w fun e w' => e = .returned (.int .i64 (check f)) ∧ Below w.heap.size w w' := (refCheck_eq f w).mono fun _ _ ⟨he, hw⟩ => ⟨he, hw ▸ (Below.refl _ _).alloc (Nat.le_refl _) _⟩
end Go.Proofs.Ytiicjbhlcmmijaa
