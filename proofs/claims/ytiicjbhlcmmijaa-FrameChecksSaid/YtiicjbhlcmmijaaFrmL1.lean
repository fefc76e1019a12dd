/-
  The walk of the first law.
-/
import Derived.Test.YtiicjbhlcmmijaaFrmW
import Derived.Test.YtiicjbhlcmmijaaFrmO
import Derived.Test.YtiicjbhlcmmijaaQui
open Go Go.RowKit Go.Proofs
namespace Go.Proofs.Ytiicjbhlcmmijaa
open Hub

set_option maxHeartbeats 2000000 in
theorem checks_any (f : Fr) (w : World) : Calls Try.prog 3 #[.agg #[.int .i64 f.kind, .int .i64 f.frm, .int .i64 f.to, .int .i64 f.src, .int .i64 f.tgt, .int .i64 f.seq, .int .i64 f.hops, .bool f.urg, .string f.dat]] w fun e w' => e = .returned (.bool true) ∧ Below w.heap.size w w' := by
  by_cases hl : 300 < f.dat.size
  · have hl2 : decide ((300 : Int) < (f.dat.size : Int)) = true := by simp; omega
    go_enter Try.func3, Try.ntmps3
    go_wp2_with fail
    refine (awake_any _).mono ?_
    rintro e w1 ⟨rfl, hb⟩
    go_wp2_with fail
    go_ret
    exact ⟨rfl, bt ((Below.refl _ _).alloc (Nat.le_refl _) _) hb⟩
  · have hl2 : decide ((300 : Int) < (f.dat.size : Int)) = false := by simp; omega
    go_enter Try.func3, Try.ntmps3
    go_wp2_with fail
    have H1 := Lib.hid (fun w => check_any f w)
    have H2 := Lib.hid (fun w => refCheck_any f w)
    have H3 := Lib.hid (fun w => size_any f w)
    have H4 := Lib.hid (fun w => refSize_any f w)
    generalize (if check f = 0 then 11 + (f.dat.size : Int) else 0) = z at *
    generalize check f = c at *
    generalize hW : w.alloc (.cells #[.int .i64 f.kind, .int .i64 f.frm, .int .i64 f.to, .int .i64 f.src, .int .i64 f.tgt, .int .i64 f.seq, .int .i64 f.hops, .bool f.urg, .string f.dat] 23) = W
    refine wp_region_class (fun w' => Below W.heap.size W w') (by kernel_rfl) (by kernel_rfl) (Below.refl _ _).drew ?_
    refine BigFrame.wpQuiet_want rfl (fun K hK => ?_)
    refine quiet_val f.val (fun w' hC' => ?_) ?_
    · obtain ⟨hc, hf⟩ := bcell hC'
      subst hW
      rw [Fr.val]
      go_simp
    go_simp
    refine hK _ ?_
    clear hK K
    refine BigFrame.wpQuiet_want rfl (fun K hK => ?_)
    refine quiet_enter (.int .i64 c) 11 #[f.val] (fun w' hC' => by go_simp) (fun w' hC' => (H1.out w').mono fun e w'' ⟨he, hb⟩ => ⟨he, bt hC' hb⟩) ?_
    go_simp
    refine hK _ ?_
    clear hK K
    refine BigFrame.wpQuiet_want rfl (fun K hK => ?_)
    refine quiet_val f.val (fun w' hC' => ?_) ?_
    · obtain ⟨hc, hf⟩ := bcell hC'
      subst hW
      rw [Fr.val]
      go_simp
    go_simp
    refine hK _ ?_
    clear hK K
    refine BigFrame.wpQuiet_want rfl (fun K hK => ?_)
    refine quiet_enter (.int .i64 c) 12 #[f.val] (fun w' hC' => by go_simp) (fun w' hC' => (H2.out w').mono fun e w'' ⟨he, hb⟩ => ⟨he, bt hC' hb⟩) ?_
    go_simp
    refine hK _ ?_
    clear hK K
    refine BigFrame.wpQuiet_want rfl (fun K hK => ?_)
    refine quiet_val (.bool true) (fun w' hC' => by go_simp) ?_
    go_simp
    refine hK _ ?_
    clear hK K
    refine BigFrame.wpQuiet_want rfl (fun K hK => ?_)
    refine quiet_val (.bool true) (fun w' hC' => by go_simp) ?_
    go_simp
    refine hK _ ?_
    clear hK K
    refine BigFrame.wpQuiet_want rfl (fun K hK => ?_)
    refine quiet_val f.val (fun w' hC' => ?_) ?_
    · obtain ⟨hc, hf⟩ := bcell hC'
      subst hW
      rw [Fr.val]
      go_simp
    go_simp
    refine hK _ ?_
    clear hK K
    refine BigFrame.wpQuiet_want rfl (fun K hK => ?_)
    refine quiet_enter (.int .i64 z) 13 #[f.val] (fun w' hC' => by go_simp) (fun w' hC' => (H3.out w').mono fun e w'' ⟨he, hb⟩ => ⟨he, bt hC' hb⟩) ?_
    go_simp
    refine hK _ ?_
    clear hK K
    refine BigFrame.wpQuiet_want rfl (fun K hK => ?_)
    refine quiet_val f.val (fun w' hC' => ?_) ?_
    · obtain ⟨hc, hf⟩ := bcell hC'
      subst hW
      rw [Fr.val]
      go_simp
    go_simp
    refine hK _ ?_
    clear hK K
    refine BigFrame.wpQuiet_want rfl (fun K hK => ?_)
    refine quiet_enter (.int .i64 z) 14 #[f.val] (fun w' hC' => by go_simp) (fun w' hC' => (H4.out w').mono fun e w'' ⟨he, hb⟩ => ⟨he, bt hC' hb⟩) ?_
    go_simp
    refine hK _ ?_
    clear hK K
    refine BigFrame.wpQuiet_want rfl (fun K hK => ?_)
    refine quiet_val (.bool true) (fun w' hC' => by go_simp) ?_
    go_simp
    refine hK _ ?_
    clear hK K
    refine BigFrame.wpQuiet_want rfl (fun K hK => ?_)
    refine quiet_val (.bool true) (fun w' hC' => by go_simp) ?_
    go_simp
    refine hK _ ?_
    clear hK K
    refine BigFrame.wpQuiet_want rfl (fun K hK => ?_)
    refine quiet_val (.bool true) (fun w' hC' => by go_simp) ?_
    go_simp
    refine hK _ ?_
    clear hK K
    refine BigFrame.wpQuiet_want rfl (fun K hK => ?_)
    refine quiet_enter (.bool true) 10 #[] (fun w' hC' => by go_simp) (fun w' hC' => (awake_any w').mono fun e w'' ⟨he, hb⟩ => ⟨he, bt hC' hb⟩) ?_
    go_simp
    refine hK _ ?_
    clear hK K
    refine BigFrame.wpQuiet_want rfl (fun K hK => ?_)
    refine quiet_val (.bool true) (fun w' hC' => by go_simp) ?_
    go_simp
    refine hK _ ?_
    clear hK K
    refine BigFrame.wpQuiet_want rfl (fun K hK => ?_)
    refine quiet_val (.bool true) (fun w' hC' => by go_simp) ?_
    go_simp
    refine hK _ ?_
    clear hK K
    refine wpQuiet_nil ?_
    intro w' hC'
    go_wp2_with fail
    go_ret
    subst hW
    exact ⟨rfl, bt ((Below.refl _ _).alloc (Nat.le_refl _) _) hC'⟩
end Go.Proofs.Ytiicjbhlcmmijaa
