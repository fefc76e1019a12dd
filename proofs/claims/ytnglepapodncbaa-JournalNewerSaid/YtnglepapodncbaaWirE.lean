/-
  The walks of the reader's other methods, the program's.
-/
import Derived.Test.YtnglepapodncbaaWirD
open Go Go.RowKit Go.Proofs
namespace Go.Proofs.Ytnglepapodncbaa
open Hub

set_option maxHeartbeats 1000000 in
theorem wrCount_any (B : Nat) (r : Rs) (m : Int) (w : World) (h : RdP B r w) :
    Calls Try.prog 57 #[.pointer (some ⟨B, 0, none⟩), .int .i64 m] w fun e w' => e = .returned (.int .i64 (rCount m r).1) ∧ RdP B (rCount m r).2 w' ∧ Tch B w w' := by
  have HI := Lib.hid (fun w h => wrInt_any B r w h)
  have hcd : rCount m r = if (rInt r).2.err ≠ 0 then (0, (rInt r).2) else if (rInt r).1 < 0 then (0, { (rInt r).2 with err := 4 }) else if max m 0 < (rInt r).1 then (0, { (rInt r).2 with err := 3 }) else ((rInt r).1, (rInt r).2) := rfl
  generalize rCount m r = o at *
  generalize (rInt r).1 = n at *
  generalize (rInt r).2 = r1 at *
  by_cases he : r1.err = 0
  · have heb : (r1.err != 0) = false := by simpa using he
    rw [if_neg (by omega)] at hcd
    by_cases hn : n < 0
    · rw [if_pos hn] at hcd
      subst hcd
      clear he
      go_enter Try.func57, Try.ntmps57
      go_wp2_with fail
      refine (HI.out _ h).mono ?_
      rintro e w1 ⟨rfl, h1, hk1⟩
      have hc := h1.c1
      have hf := h1.f 1
      have hs := h1.set1 4
      go_wp2_with (go_at_call 44; refine (wErr_any B r1 _ h1).mono ?_; rintro e w2 ⟨rfl, rfl⟩)
      go_ret
      exact ⟨rfl, hs, hk1.setCell 1 _⟩
    · rw [if_neg hn] at hcd
      by_cases hm : max m 0 < n
      · rw [if_pos hm] at hcd
        subst hcd
        clear he
        go_enter Try.func57, Try.ntmps57
        go_wp2_with fail
        refine (HI.out _ h).mono ?_
        rintro e w1 ⟨rfl, h1, hk1⟩
        have hc := h1.c1
        have hf := h1.f 1
        have hs := h1.set1 3
        go_wp2_with (go_at_call 44; refine (wErr_any B r1 _ h1).mono ?_; rintro e w2 ⟨rfl, rfl⟩)
        go_ret
        exact ⟨rfl, hs, hk1.setCell 1 _⟩
      · rw [if_neg hm] at hcd
        subst hcd
        clear he
        go_enter Try.func57, Try.ntmps57
        go_wp2_with fail
        refine (HI.out _ h).mono ?_
        rintro e w1 ⟨rfl, h1, hk1⟩
        go_wp2_with (go_at_call 44; refine (wErr_any B r1 _ h1).mono ?_; rintro e w2 ⟨rfl, rfl⟩)
        go_ret
        exact ⟨rfl, h1, hk1⟩
  · have heb : (r1.err != 0) = true := by simpa using he
    rw [if_pos he] at hcd
    subst hcd
    clear he
    go_enter Try.func57, Try.ntmps57
    go_wp2_with fail
    refine (HI.out _ h).mono ?_
    rintro e w1 ⟨rfl, h1, hk1⟩
    go_wp2_with (go_at_call 44; refine (wErr_any B r1 _ h1).mono ?_; rintro e w2 ⟨rfl, rfl⟩)
    go_ret
    exact ⟨rfl, h1, hk1⟩

set_option maxHeartbeats 1000000 in
theorem wrText_any (B : Nat) (r : Rs) (m : Int) (w : World) (h : RdP B r w) :
    Calls Try.prog 46 #[.pointer (some ⟨B, 0, none⟩), .int .i64 m] w fun e w' => e = .returned (.string (mk (rText m r).1)) ∧ RdP B (rText m r).2 w' ∧ Tch B w w' := by
  have HI := Lib.hid (fun w h => wrCount_any B r m w h)
  have hcd : rText m r = if (rCount m r).2.err ≠ 0 then ([], (rCount m r).2) else if ((rCount m r).2.rest.length : Int) < (rCount m r).1 then ([], { (rCount m r).2 with err := 5 }) else ((rCount m r).2.rest.take (rCount m r).1.toNat, { rest := (rCount m r).2.rest.drop (rCount m r).1.toNat, err := 0 }) := rfl
  have hn0 := rCount_nonneg m r
  generalize rText m r = o at *
  generalize (rCount m r).1 = n at *
  generalize (rCount m r).2 = r1 at *
  by_cases he : r1.err = 0
  · have heb : (r1.err != 0) = false := by simpa using he
    rw [if_neg (by omega)] at hcd
    by_cases hn : (r1.rest.length : Int) < n
    · rw [if_pos hn] at hcd
      subst hcd
      have hn2 : ((mk r1.rest).size : Int) < n := hn
      clear he hn
      go_enter Try.func46, Try.ntmps46
      go_wp2_with fail
      refine (HI.out _ h).mono ?_
      rintro e w1 ⟨rfl, h1, hk1⟩
      have hc0 := h1.c0
      have hc := h1.c1
      have hf := h1.f 1
      have hs := Lib.hid (h1.set1 5)
      have HZ := Lib.hid (fun w h => wErr_any B r1 w h)
      generalize mk r1.rest = K at *
      go_wp2_with (go_at_call 44; refine (HZ.out _ h1).mono ?_; rintro e w2 ⟨rfl, rfl⟩)
      go_ret
      exact ⟨rfl, hs.out, hk1.setCell 1 _⟩
    · rw [if_neg hn] at hcd
      subst hcd
      have hn2 : n ≤ ((mk r1.rest).size : Int) := by show n ≤ (r1.rest.length : Int); omega
      have hn3 : n.toNat ≤ (mk r1.rest).size := by omega
      have HT := Lib.hid (show (mk r1.rest).extract 0 n.toNat = mk (r1.rest.take n.toNat) from bl_inj (by rw [bl_take, bl_mk, bl_mk]))
      have HD := Lib.hid (show (mk r1.rest).extract n.toNat (mk r1.rest).size = mk (r1.rest.drop n.toNat) from bl_inj (by rw [bl_drop, bl_mk, bl_mk]))
      clear hn
      go_enter Try.func46, Try.ntmps46
      go_wp2_with fail
      refine (HI.out _ h).mono ?_
      rintro e w1 ⟨rfl, h1, hk1⟩
      have hc0 := h1.c0
      have hf := h1.f 0
      have hs := Lib.hid (h1.set0 (r1.rest.drop n.toNat) (by have := h1.2; rw [List.length_drop]; omega))
      have HZ := Lib.hid (fun w h => wErr_any B r1 w h)
      have HE := Lib.hid he
      clear he
      generalize mk r1.rest = K at *
      go_wp2_with (go_at_call 44; refine (HZ.out _ h1).mono ?_; rintro e w2 ⟨rfl, rfl⟩)
      rw [HT.out, HD.out]
      go_ret
      exact ⟨rfl, by have := hs.out; rw [HE.out] at this; exact this, hk1.setCell 0 _⟩
  · have heb : (r1.err != 0) = true := by simpa using he
    rw [if_pos he] at hcd
    subst hcd
    clear he
    go_enter Try.func46, Try.ntmps46
    go_wp2_with fail
    refine (HI.out _ h).mono ?_
    rintro e w1 ⟨rfl, h1, hk1⟩
    go_wp2_with (go_at_call 44; refine (wErr_any B r1 _ h1).mono ?_; rintro e w2 ⟨rfl, rfl⟩)
    go_ret
    exact ⟨rfl, h1, hk1⟩

theorem bool_end (c : UInt8) : ((c.toNat : Int) == 1) = decide (c.toNat = 1) := by
  by_cases h : c.toNat = 1 <;> simp [h]; omega

end Go.Proofs.Ytnglepapodncbaa
