/-
  The walks of the first three laws: the results are the reference's.
-/
import Derived.Test.YtegngjdeifbdiaaRepK
open Go Go.RowKit Go.Proofs
namespace Go.Proofs.Ytegngjdeifbdiaa
open Hub

set_option maxHeartbeats 4000000 in
theorem windows_any (x : Int × Int) (n : Int) (w : World) (g0 : -9223372036854775808 ≤ x.1) (g1 : x.1 ≤ 9223372036854775807) (b0 : 0 ≤ x.2) (b1 : x.2 ≤ 18446744073709551615) (n0 : -9223372036854775808 ≤ n) (n1 : n ≤ 9223372036854775807) :
    Calls Try.prog 3 #[.agg #[.int .i64 x.1, .int .u64 x.2], .int .i64 n] w fun e w' => e = .returned (.bool true) ∧ Below w.heap.size w w' := by
  obtain ⟨t, b⟩ := x
  simp only at b0 b1 ⊢
  have A1 := Lib.hid (fun w => wAcc_any t b n w b0 b1)
  have A2 := Lib.hid (fun w => xAcc_any t b n w b0 b1)
  have A3 := Lib.hid (fun w => wChk_any t b w b0 b1)
  have A4 := Lib.hid (fun w => xChk_any t b w b0 b1)
  have HW := Lib.hid awake_any
  generalize acc t b n = r at *
  generalize chk t b = c at *
  obtain ⟨at1, ab1, ok⟩ := r
  simp only at A1 A2
  clear b0 b1 n0 n1 g0 g1
  go_enter Try.func3, Try.ntmps3
  go_wp2_with fail
  refine (A1.out _).mono ?_
  rintro e w1 ⟨rfl, hb1⟩
  have B1 := bt ((Below.refl _ w).alloc (Nat.le_refl _) _) hb1
  have k1 := ((Kp.nil (X := w)).two _ _ _).below hb1
  have f0 := k1.hd
  have f1 := k1.tl.hd
  have z1 := k1.lt
  have K1 := Lib.hid k1
  clear k1 hb1
  go_wp2_with fail
  refine (A2.out _).mono ?_
  rintro e w2 ⟨rfl, hb2⟩
  have B2 := bt (step_al B1 _) hb2
  have k2 := (K1.out.two _ _ _).below hb2
  have h0 := k2.hd
  have h1 := k2.tl.hd
  have h2 := k2.tl.tl.hd
  have h3 := k2.tl.tl.tl.hd
  have z2 := k2.lt
  have z3 := k2.tl.tl.lt
  have K2 := Lib.hid k2
  clear k2 hb2
  go_wp2_with fail
  go_region_with (first | (go_at_call 11; refine (A3.out _).mono ?_; rintro e w3 ⟨rfl, rfl⟩) | (go_at_call 12; refine (A4.out _).mono ?_; rintro e w4 ⟨rfl, hb4⟩; have k4 := Kp.below (Kp.drew (Kp.alloc (Kp.two K2.out _ _ _) _)) hb4; have i0 := k4.hd; have i1 := k4.tl.hd; have i2 := k4.tl.tl.hd; have i3 := k4.tl.tl.tl.hd; have i4 := k4.tl.tl.tl.tl.hd; have i5 := k4.tl.tl.tl.tl.tl.hd; have B4 := bt (step_drew (step_al (step_al B2 _) _)) hb4; clear k4 hb4) | (go_at_call 13; refine (HW.out _).mono ?_; rintro e w5 ⟨rfl, hb5⟩))
  all_goals
    go_wp2_with fail
    go_ret
    exact ⟨rfl, bt B4 hb5⟩
end Go.Proofs.Ytegngjdeifbdiaa
