/-
  The walk of the seventh law: a reader that was not made.
-/
import Derived.Test.YtapbmbbghbgkfaaWirO
open Go Go.RowKit Go.Proofs
namespace Go.Proofs.Ytapbmbbghbgkfaa
namespace Hub
/-- p is no reader, or one that was not made. -/
def NoR (p : Value) (w : World) : Prop := p = .pointer none ∨ ∃ B, p = .pointer (some ⟨B, 0, none⟩) ∧ w.cell? ⟨B, 2, none⟩ = some (.bool false)
end Hub
open Hub
theorem nErr (p : Value) (w : World) (h : NoR p w) : Calls Try.prog 32 #[p] w fun e w' => e = .returned (.int .i64 15) ∧ w = w' := by
  rcases h with rfl | ⟨B, rfl, hc⟩
  · go_enter Try.func32, Try.ntmps32
    go_wp2
    go_ret
    exact ⟨rfl, rfl⟩
  · go_enter Try.func32, Try.ntmps32
    go_wp2
    go_ret
    exact ⟨rfl, rfl⟩
theorem nFail (p : Value) (n : Int) (w : World) (h : NoR p w) : Calls Try.prog 34 #[p, .int .i64 n] w fun e w' => e = .returned (.tuple #[]) ∧ w = w' := by
  go_enter Try.func34, Try.ntmps34
  go_wp2_with (go_at_call 32; refine (nErr p _ h).mono ?_; rintro e w1 ⟨rfl, rfl⟩)
  go_end0
  exact ⟨rfl, rfl⟩
theorem nLeft (p : Value) (w : World) (h : NoR p w) : Calls Try.prog 35 #[p] w fun e w' => e = .returned (.int .i64 0) ∧ w = w' := by
  go_enter Try.func35, Try.ntmps35
  go_wp2_with (go_at_call 32; refine (nErr p _ h).mono ?_; rintro e w1 ⟨rfl, rfl⟩)
  go_ret
  exact ⟨rfl, rfl⟩
theorem nEnd (p : Value) (w : World) (h : NoR p w) : Calls Try.prog 28 #[p] w fun e w' => e = .returned (.int .i64 15) ∧ w = w' := by
  go_enter Try.func28, Try.ntmps28
  go_wp2_with (first | (go_at_call 32; refine (nErr p _ h).mono ?_; rintro e w1 ⟨rfl, rfl⟩) | (go_at_call 35; refine (nLeft p _ h).mono ?_; rintro e w1 ⟨rfl, rfl⟩))
  go_ret
  exact ⟨rfl, rfl⟩
theorem nInt (p : Value) (w : World) (h : NoR p w) : Calls Try.prog 23 #[p] w fun e w' => e = .returned (.int .i64 0) ∧ w = w' := by
  go_enter Try.func23, Try.ntmps23
  go_wp2_with (go_at_call 32; refine (nErr p _ h).mono ?_; rintro e w1 ⟨rfl, rfl⟩)
  go_ret
  exact ⟨rfl, rfl⟩
theorem nBool (p : Value) (w : World) (h : NoR p w) : Calls Try.prog 25 #[p] w fun e w' => e = .returned (.bool false) ∧ w = w' := by
  go_enter Try.func25, Try.ntmps25
  go_wp2_with (go_at_call 32; refine (nErr p _ h).mono ?_; rintro e w1 ⟨rfl, rfl⟩)
  go_ret
  exact ⟨rfl, rfl⟩
theorem nCount (p : Value) (m : Int) (w : World) (h : NoR p w) : Calls Try.prog 33 #[p, .int .i64 m] w fun e w' => e = .returned (.int .i64 0) ∧ w = w' := by
  go_enter Try.func33, Try.ntmps33
  go_wp2_with (first | (go_at_call 32; refine (nErr p _ h).mono ?_; rintro e w1 ⟨rfl, rfl⟩) | (go_at_call 23; refine (nInt p _ h).mono ?_; rintro e w1 ⟨rfl, rfl⟩))
  go_ret
  exact ⟨rfl, rfl⟩
theorem nText (p : Value) (m : Int) (w : World) (h : NoR p w) : Calls Try.prog 24 #[p, .int .i64 m] w fun e w' => e = .returned (.string { data := #[] }) ∧ w = w' := by
  go_enter Try.func24, Try.ntmps24
  go_wp2_with (first | (go_at_call 32; refine (nErr p _ h).mono ?_; rintro e w1 ⟨rfl, rfl⟩) | (go_at_call 33; refine (nCount p _ _ h).mono ?_; rintro e w1 ⟨rfl, rfl⟩))
  go_ret
  exact ⟨rfl, rfl⟩
theorem nTimes (f : Value) (w : World) : Calls Try.prog 39 #[.int .i64 0, f] w fun e w' => e = .returned (.slice none 0 0) ∧ w = w' := by
  go_enter Try.func39, Try.ntmps39
  go_wp2
  refine wp_loop_rounds 1 ?_
  rw [rounds_succ]
  go_wp2
  go_ret
  exact ⟨rfl, rfl⟩
theorem nInts (p : Value) (m : Int) (w : World) (h : NoR p w) : Calls Try.prog 27 #[p, .int .i64 m] w fun e w' => e = .returned (.slice none 0 0) ∧ w = w' := by
  go_enter Try.func27, Try.ntmps27
  go_wp2_with (first | (go_at_call 32; refine (nErr p _ h).mono ?_; rintro e w1 ⟨rfl, rfl⟩) | (go_at_call 33; refine (nCount p _ _ h).mono ?_; rintro e w1 ⟨rfl, rfl⟩) | (go_at_call 35; refine (nLeft p _ h).mono ?_; rintro e w1 ⟨rfl, rfl⟩) | (go_at_call 39; refine (nTimes _ _).mono ?_; rintro e w1 ⟨rfl, rfl⟩))
  go_ret
  exact ⟨rfl, rfl⟩

set_option maxHeartbeats 2000000 in
theorem none_any (m e : Int) (w : World) (_h0 : -9223372036854775808 ≤ m) (_h1 : m ≤ 9223372036854775807) (_g0 : -9223372036854775808 ≤ e) (_g1 : e ≤ 9223372036854775807) :
    Calls Try.prog 9 #[.int .i64 m, .int .i64 e] w fun e w' => e = .returned (.bool true) ∧ Below w.heap.size w w' := by
  have HW := Lib.hid awake_any
  clear _h0 _h1 _g0 _g1
  go_enter Try.func9, Try.ntmps9
  go_wp2
  have hN1 : ((w.alloc (.cells #[.string { data := #[] }, .int .i64 0, .bool false] 54)).alloc (.cells #[.pointer none, .pointer (some ⟨w.heap.size, 0, none⟩)] 55)).cell? ⟨w.heap.size, 2, none⟩ = some (.bool false) := by simp
  refine wp_loop_rounds 3 ?_
  iterate 3 (rw [rounds_succ]; go_wp2_with (first | (go_at_call 34; refine (nFail _ _ _ (by first | exact .inl rfl | exact .inr ⟨_, rfl, hN1⟩)).mono ?_; rintro e w1 ⟨rfl, rfl⟩) | (go_at_call 23; refine (nInt _ _ (by first | exact .inl rfl | exact .inr ⟨_, rfl, hN1⟩)).mono ?_; rintro e w1 ⟨rfl, rfl⟩) | (go_at_call 24; refine (nText _ _ _ (by first | exact .inl rfl | exact .inr ⟨_, rfl, hN1⟩)).mono ?_; rintro e w1 ⟨rfl, rfl⟩) | (go_at_call 25; refine (nBool _ _ (by first | exact .inl rfl | exact .inr ⟨_, rfl, hN1⟩)).mono ?_; rintro e w1 ⟨rfl, rfl⟩) | (go_at_call 33; refine (nCount _ _ _ (by first | exact .inl rfl | exact .inr ⟨_, rfl, hN1⟩)).mono ?_; rintro e w1 ⟨rfl, rfl⟩) | (go_at_call 27; refine (nInts _ _ _ (by first | exact .inl rfl | exact .inr ⟨_, rfl, hN1⟩)).mono ?_; rintro e w1 ⟨rfl, rfl⟩) | (go_at_call 35; refine (nLeft _ _ (by first | exact .inl rfl | exact .inr ⟨_, rfl, hN1⟩)).mono ?_; rintro e w1 ⟨rfl, rfl⟩) | (go_at_call 32; refine (nErr _ _ (by first | exact .inl rfl | exact .inr ⟨_, rfl, hN1⟩)).mono ?_; rintro e w1 ⟨rfl, rfl⟩) | (go_at_call 28; refine (nEnd _ _ (by first | exact .inl rfl | exact .inr ⟨_, rfl, hN1⟩)).mono ?_; rintro e w1 ⟨rfl, rfl⟩) | (go_at_call 10; refine (HW.out _).mono ?_; rintro e w1 ⟨rfl, hb⟩)))
  go_ret
  exact ⟨rfl, (((Below.refl _ _).alloc (Nat.le_refl _) _).alloc (by simp) _).trans (hb.mono (by simp; omega))⟩
end Go.Proofs.Ytapbmbbghbgkfaa
