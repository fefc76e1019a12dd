/-
  The walks of the reader's other methods, the program's.
-/
import Derived.Test.YtbbfbeacgnimpaaWirD
open Go Go.RowKit Go.Proofs
namespace Go.Proofs.Ytbbfbeacgnimpaa
open Hub

set_option maxHeartbeats 1000000 in
theorem wrCount_any (B : Nat) (r : Rs) (m : Int) (w : World) (h : RdP B r w) :
    Calls Try.prog 58 #[.pointer (some ⟨B, 0, none⟩), .int .i64 m] w fun e w' => e = .returned (.int .i64 (rCount m r).1) ∧ RdP B (rCount m r).2 w' ∧ Tch B w w' := by
  have HI := Lib.hid (fun w h => wrInt_any B r w h)
  have hcd : rCount m r = if (rInt r).2.err ≠ 0 then (0, (rInt r).2) else if (rInt r).1 < 0 then (0, { (rInt r).2 with err := 4 }) else if max m 0 < (rInt r).1 then (0, { (rInt r).2 with err := 3 }) else ((rInt r).1, (rInt r).2) := rfl
  generalize rCount m r = o at *
  generalize (rInt r).1 = n at *
  generalize (rInt r).2 = r1 at *
  by_cases he : r1.err = 0
  · have heb : (r1.err != 0) = false := by simpa using he
    rw [if_neg (by omega)] at hcd
    by_cases hn : n < 0
    · rw [if_pos hn] at hcd
      subst hcd
      clear he
      go_enter Try.func58, Try.ntmps58
      go_wp2_with fail
      refine (HI.out _ h).mono ?_
      rintro e w1 ⟨rfl, h1, hk1⟩
      have hc := h1.c1
      have hf := h1.f 1
      have hs := h1.set1 4
      go_wp2_with (go_at_call 56; refine (wErr_any B r1 _ h1).mono ?_; rintro e w2 ⟨rfl, rfl⟩)
      go_ret
      exact ⟨rfl, hs, hk1.setCell 1 _⟩
    · rw [if_neg hn] at hcd
      by_cases hm : max m 0 < n
      · rw [if_pos hm] at hcd
        subst hcd
        clear he
        go_enter Try.func58, Try.ntmps58
        go_wp2_with fail
        refine (HI.out _ h).mono ?_
        rintro e w1 ⟨rfl, h1, hk1⟩
        have hc := h1.c1
        have hf := h1.f 1
        have hs := h1.set1 3
        go_wp2_with (go_at_call 56; refine (wErr_any B r1 _ h1).mono ?_; rintro e w2 ⟨rfl, rfl⟩)
        go_ret
        exact ⟨rfl, hs, hk1.setCell 1 _⟩
      · rw [if_neg hm] at hcd
        subst hcd
        clear he
        go_enter Try.func58, Try.ntmps58
        go_wp2_with fail
        refine (HI.out _ h).mono ?_
        rintro e w1 ⟨rfl, h1, hk1⟩
        go_wp2_with (go_at_call 56; refine (wErr_any B r1 _ h1).mono ?_; rintro e w2 ⟨rfl, rfl⟩)
        go_ret
        exact ⟨rfl, h1, hk1⟩
  · have heb : (r1.err != 0) = true := by simpa using he
    rw [if_pos he] at hcd
    subst hcd
    clear he
    go_enter Try.func58, Try.ntmps58
    go_wp2_with fail
    refine (HI.out _ h).mono ?_
    rintro e w1 ⟨rfl, h1, hk1⟩
    go_wp2_with (go_at_call 56; refine (wErr_any B r1 _ h1).mono ?_; rintro e w2 ⟨rfl, rfl⟩)
    go_ret
    exact ⟨rfl, h1, hk1⟩

theorem bool_end (c : UInt8) : ((c.toNat : Int) == 1) = decide (c.toNat = 1) := by
  by_cases h : c.toNat = 1 <;> simp [h]; omega

end Go.Proofs.Ytbbfbeacgnimpaa
