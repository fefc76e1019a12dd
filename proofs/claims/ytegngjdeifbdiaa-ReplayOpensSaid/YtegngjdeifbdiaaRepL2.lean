/-
  The walks of the second and third law: sealing and opening are the reference's.
-/
import Derived.Test.YtegngjdeifbdiaaRepK
open Go Go.RowKit Go.Proofs
namespace Go.Proofs.Ytegngjdeifbdiaa
open Hub

set_option maxHeartbeats 4000000 in
theorem seals_any (c : Cs) (w : World) (hc : c.ok) :
    Calls Try.prog 4 #[c.val] w fun e w' => e = .returned (.bool true) ∧ Below w.heap.size w w' := by
  obtain ⟨key, node, n, s, oth⟩ := c
  obtain ⟨k0, k1, hs, ho⟩ := hc
  simp only [maxLen] at k0 k1 hs ho
  rw [Cs.val]
  have HW := Lib.hid awake_any
  have hs' : s.size ≤ 9223372036854775807 := by omega
  by_cases hl : (1100 : Int) < (s.size : Int)
  · go_enter Try.func4, Try.ntmps4
    go_wp2_with fail
    refine (HW.out _).mono ?_
    rintro e w8 ⟨rfl, hb8⟩
    go_wp2_with fail
    go_ret
    exact ⟨rfl, bt (step_al (Below.refl _ _) _) hb8⟩
  · have A1 := Lib.hid (fun w => wSeal_any key node n s w k0 k1 hs')
    have A2 := Lib.hid (fun w => xSeal_any key node n s w k0 k1 hs')
    generalize sealR key.toNat node n (bl s) = r at *
    obtain ⟨x, y⟩ := r
    simp only at A1 A2
    generalize mk x = z at *
    clear k0 k1 hs ho
    go_enter Try.func4, Try.ntmps4
    go_wp2_with fail
    refine (A1.out _).mono ?_
    rintro e w1 ⟨rfl, hb1⟩
    have B1 := bt (step_al (Below.refl _ w) _) hb1
    have k1 := ((Kp.nil (X := w)).five _ _ _ _ _ _).below hb1
    have f0 := k1.hd
    have f1 := k1.tl.hd
    have f2 := k1.tl.tl.hd
    have f3 := k1.tl.tl.tl.hd
    have f4 := k1.tl.tl.tl.tl.hd
    have z1 := k1.lt
    clear k1 hb1
    go_wp2_with fail
    refine (A2.out _).mono ?_
    rintro e w2 ⟨rfl, hb2⟩
    have B2 := bt B1 hb2
    clear hb2
    go_wp2_with fail
    refine (HW.out _).mono ?_
    rintro e w5 ⟨rfl, hb5⟩
    go_wp2_with fail
    go_ret
    exact ⟨rfl, bt B2 hb5⟩

set_option maxHeartbeats 4000000 in
theorem opens_any (c : Cs) (x : Int × Int) (w : World) (hc : c.ok) (g0 : -9223372036854775808 ≤ x.1) (g1 : x.1 ≤ 9223372036854775807) (b0 : 0 ≤ x.2) (b1 : x.2 ≤ 18446744073709551615) :
    Calls Try.prog 5 #[c.val, .agg #[.int .i64 x.1, .int .u64 x.2]] w fun e w' => e = .returned (.bool true) ∧ Below w.heap.size w w' := by
  obtain ⟨key, node, n, s, oth⟩ := c
  obtain ⟨t, b⟩ := x
  obtain ⟨k0, k1, hs, ho⟩ := hc
  simp only [maxLen] at k0 k1 hs ho b0 b1 ⊢
  rw [Cs.val]
  have HW := Lib.hid awake_any
  by_cases hl : (1200 : Int) < (oth.size : Int)
  · go_enter Try.func5, Try.ntmps5
    go_wp2_with fail
    refine (HW.out _).mono ?_
    rintro e w8 ⟨rfl, hb8⟩
    go_wp2_with fail
    go_ret
    exact ⟨rfl, bt (step_al (step_al (Below.refl _ _) _) _) hb8⟩
  · have A1 := Lib.hid (fun w => wOpen_any key node t b oth w k0 k1 b0 b1 (by omega))
    have A2 := Lib.hid (fun w => xOpen_any key node t b oth w k0 k1 b0 b1 (by omega))
    generalize openR key.toNat node t b (bl oth) = r at *
    obtain ⟨x, ⟨t1, b1'⟩, y⟩ := r
    simp only at A1 A2
    generalize mk x = z at *
    clear k0 k1 hs ho b0 b1 g0 g1
    go_enter Try.func5, Try.ntmps5
    go_wp2_with fail
    refine (A1.out _).mono ?_
    rintro e w1 ⟨rfl, hb1⟩
    have B1 := bt (step_al (step_al (Below.refl _ w) _) _) hb1
    have k1 := (((Kp.nil (X := w)).five _ _ _ _ _ _).two _ _ _).below hb1
    have f0 := k1.hd
    have f1 := k1.tl.hd
    have f2 := k1.tl.tl.hd
    have f3 := k1.tl.tl.tl.hd
    have f4 := k1.tl.tl.tl.tl.hd
    have f5 := k1.tl.tl.tl.tl.tl.hd
    have f6 := k1.tl.tl.tl.tl.tl.tl.hd
    have z1 := k1.lt
    have z2 := k1.tl.tl.lt
    simp only [World.size_alloc] at f0 f1 z1
    have K1 := Lib.hid k1
    clear k1 hb1
    go_wp2_with fail
    refine (A2.out _).mono ?_
    rintro e w2 ⟨rfl, hb2⟩
    have B2 := bt (step_al B1 _) hb2
    have k2 := ((Kp.nil (X := w1)).two _ _ _).below hb2
    have h0 := k2.hd
    have h1 := k2.tl.hd
    have z3 := k2.lt
    clear k2 hb2
    go_wp2_with fail
    refine (HW.out _).mono ?_
    rintro e w5 ⟨rfl, hb5⟩
    go_wp2_with fail
    go_ret
    exact ⟨rfl, bt (step_al B2 _) hb5⟩
end Go.Proofs.Ytegngjdeifbdiaa
