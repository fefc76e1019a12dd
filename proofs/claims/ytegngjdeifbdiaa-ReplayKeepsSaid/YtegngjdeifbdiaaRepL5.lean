/-
  The walk of the fifth law: a valid window stays valid, its top does not fall, what was recorded is rejected.
-/
import Derived.Test.YtegngjdeifbdiaaRepP
import Derived.Test.YtegngjdeifbdiaaRepK
open Go Go.RowKit Go.Proofs
namespace Go.Proofs.Ytegngjdeifbdiaa
open Hub
theorem bit_even (b k : Int) (h0 : 0 ≤ b) : ((b / 2 ^ k.toNat).tmod 2 == 0) = !b.toNat.testBit k.toNat := by
  rw [← bit_at b k h0]
  have : 0 ≤ b / 2 ^ k.toNat := Int.ediv_nonneg h0 (Int.le_of_lt (Int.pow_pos (by decide)))
  rw [Int.tmod_eq_emod_of_nonneg this]
  generalize b / 2 ^ k.toNat = q
  rcases (show q % 2 = 0 ∨ q % 2 = 1 by omega) with h | h <;> rw [h] <;> rfl

theorem bit_even' (b k : Int) (h0 : 0 ≤ b) : ((b / 2 ^ k.toNat) % 2 == 0) = !b.toNat.testBit k.toNat := by
  rw [← bit_even b k h0]
  have : 0 ≤ b / 2 ^ k.toNat := Int.ediv_nonneg h0 (Int.le_of_lt (Int.pow_pos (by decide)))
  rw [Int.tmod_eq_emod_of_nonneg this]
set_option maxHeartbeats 4000000 in
theorem keeps_any (x : Int × Int) (n a : Int) (w : World) (g0 : -9223372036854775808 ≤ x.1) (g1 : x.1 ≤ 9223372036854775807) (b0 : 0 ≤ x.2) (b1 : x.2 ≤ 18446744073709551615) (n0 : -9223372036854775808 ≤ n) (n1 : n ≤ 9223372036854775807) (a0 : 0 ≤ a) (a1 : a ≤ 255) :
    Calls Try.prog 7 #[.agg #[.int .i64 x.1, .int .u64 x.2], .int .i64 n, .int .u8 a] w fun e w' => e = .returned (.bool true) ∧ Below w.heap.size w w' := by
  obtain ⟨t, b⟩ := x
  simp only at g0 g1 b0 b1 ⊢
  have A3 := Lib.hid (fun w => xChk_any t b w b0 b1)
  have HW := Lib.hid awake_any
  by_cases hc : chk t b = 0
  · obtain ⟨t1, b1', ok, hr⟩ : ∃ t1 b1' ok, acc t b n = (t1, b1', ok) := ⟨_, _, _, rfl⟩
    have A1 := Lib.hid (fun w => wAcc_any t b n w b0 b1)
    have hb := acc_b (t := t) (b := b) (n := n) b0 b1
    have hch := chk_acc n b0 hc
    have htop := acc_top (t := t) (b := b) n
    have hrej := fun (k : Int) (h : Rej t b (t - k)) => rej_keeps n h
    rw [hr] at A1 hb hch htop hrej
    simp only at A1 hb hch htop hrej
    have A2 := Lib.hid (fun w => wChk_any t1 b1' w hb.1 hb.2)
    have A4 := Lib.hid (fun m w => wAcc_any t1 b1' m w hb.1 hb.2)
    rw [hch] at A2
    rw [hc] at A3
    have hnt : ¬ t1 < t := by omega
    have hk0 : 0 ≤ a % 64 := by omega
    have hk1 : a % 64 ≤ 63 := by omega
    have htr := chk_zero' hc
    have HB := bit_even b (a % 64) b0
    have HC := bit_even' b (a % 64) b0
    have hwin : ok = false ∨ (ok = true ∧ t1 = n) ∨ (ok = true ∧ t1 ≠ n ∧ t1 = t) := by
      cases ok with
      | false => exact .inl rfl
      | true => by_cases h : t1 = n
                · exact .inr (.inl ⟨rfl, h⟩)
                · exact .inr (.inr ⟨rfl, h, (htop.2 rfl).resolve_left h⟩)
    go_enter Try.func7, Try.ntmps7
    go_wp2_with fail
    refine (A3.out _).mono ?_
    rintro e w1 ⟨rfl, hb1⟩
    have B1 := bt (step_al (Below.refl _ w) _) hb1
    have k1 := ((Kp.nil (X := w)).two _ _ _).below hb1
    have f0 := k1.hd
    have f1 := k1.tl.hd
    have z1 := k1.lt
    have K1 := Lib.hid k1
    clear k1 hb1
    go_wp2_with fail
    refine (A1.out _).mono ?_
    rintro e w2 ⟨rfl, hb2⟩
    have B2 := bt B1 hb2
    have k2 := K1.out.below hb2
    have h0 := k2.hd
    have h1 := k2.tl.hd
    have z2 := k2.lt
    have K2 := Lib.hid k2
    clear k2 hb2
    go_wp2_with fail
    refine (A2.out _).mono ?_
    rintro e w3 ⟨rfl, rfl⟩
    have B3 := step_al (step_al B2 (.cells #[.int .i64 t1, .int .u64 b1'] 24)) (.cells #[.int .i64 t1, .int .u64 b1'] 24)
    have k3 := (K2.out.two (.int .i64 t1) (.int .u64 b1') 24).alloc (.cells #[.int .i64 t1, .int .u64 b1'] 24)
    have z3 : w2.heap.size < ((w2.alloc (.cells #[.int .i64 t1, .int .u64 b1'] 24)).alloc (.cells #[.int .i64 t1, .int .u64 b1'] 24)).heap.size := k3.lt
    generalize ((w2.alloc (.cells #[.int .i64 t1, .int .u64 b1'] 24)).alloc (.cells #[.int .i64 t1, .int .u64 b1'] 24)) = X at *
    have i0 := k3.hd
    have i1 := k3.tl.hd
    have i2 := k3.tl.tl.hd
    have i3 := k3.tl.tl.tl.hd
    have z4 := k3.tl.tl.lt
    clear k3 h0 h1 z2 f0 f1 z1 A2 A3 A1 htop
    by_cases ht : t < 0
    · rcases hwin with rfl | ⟨rfl, rfl⟩ | ⟨rfl, hne, rfl⟩
      · go_wp2_with fail
        refine (HW.out _).mono ?_
        rintro e w8 ⟨rfl, hb8⟩
        go_wp2_with fail
        go_ret
        exact ⟨rfl, bt B3 hb8⟩
      · go_wp2_with fail
        refine (HW.out _).mono ?_
        rintro e w8 ⟨rfl, hb8⟩
        go_wp2_with fail
        go_ret
        exact ⟨rfl, bt B3 hb8⟩
      · have hneb : (t1 != n) = true := by simpa using hne
        go_wp2_with fail
        refine (HW.out _).mono ?_
        rintro e w8 ⟨rfl, hb8⟩
        go_wp2_with fail
        go_ret
        exact ⟨rfl, bt B3 hb8⟩
    · by_cases hbt : b.toNat.testBit (a % 64).toNat = true
      · rw [hbt] at HB HC
        have hf := rej_acc (hrej (a % 64) ⟨by omega, .inr (by rw [Int.sub_sub_self]; exact hbt)⟩)
        have A5 := Lib.hid (fun w => A4.out (t - a % 64) w)
        rw [hf] at A5
        simp only [Bool.not_true] at A5 HB HC
        clear hrej hf hbt A4
        rcases hwin with rfl | ⟨rfl, rfl⟩ | ⟨rfl, hne, rfl⟩
        · go_wp2_with fail
          refine (A5.out _).mono ?_
          rintro e w6 ⟨rfl, hb6⟩
          go_wp2_with fail
          refine (HW.out _).mono ?_
          rintro e w8 ⟨rfl, hb8⟩
          go_wp2_with fail
          go_ret
          exact ⟨rfl, bt (step_al (bt B3 hb6) _) hb8⟩
        · go_wp2_with fail
          refine (A5.out _).mono ?_
          rintro e w6 ⟨rfl, hb6⟩
          go_wp2_with fail
          refine (HW.out _).mono ?_
          rintro e w8 ⟨rfl, hb8⟩
          go_wp2_with fail
          go_ret
          exact ⟨rfl, bt (step_al (bt B3 hb6) _) hb8⟩
        · have hneb : (t1 != n) = true := by simpa using hne
          go_wp2_with fail
          refine (A5.out _).mono ?_
          rintro e w6 ⟨rfl, hb6⟩
          go_wp2_with fail
          refine (HW.out _).mono ?_
          rintro e w8 ⟨rfl, hb8⟩
          go_wp2_with fail
          go_ret
          exact ⟨rfl, bt (step_al (bt B3 hb6) _) hb8⟩
      · have hbt' : b.toNat.testBit (a % 64).toNat = false := by simpa using hbt
        rw [hbt'] at HB HC
        simp only [Bool.not_false] at HB HC
        clear hrej hbt hbt' A4
        rcases hwin with rfl | ⟨rfl, rfl⟩ | ⟨rfl, hne, rfl⟩
        · go_wp2_with fail
          refine (HW.out _).mono ?_
          rintro e w8 ⟨rfl, hb8⟩
          go_wp2_with fail
          go_ret
          exact ⟨rfl, bt B3 hb8⟩
        · go_wp2_with fail
          refine (HW.out _).mono ?_
          rintro e w8 ⟨rfl, hb8⟩
          go_wp2_with fail
          go_ret
          exact ⟨rfl, bt B3 hb8⟩
        · have hneb : (t1 != n) = true := by simpa using hne
          go_wp2_with fail
          refine (HW.out _).mono ?_
          rintro e w8 ⟨rfl, hb8⟩
          go_wp2_with fail
          go_ret
          exact ⟨rfl, bt B3 hb8⟩
  · have hcb : (chk t b == 0) = false := by simpa using hc
    generalize chk t b = c at *
    clear hc
    go_enter Try.func7, Try.ntmps7
    go_wp2_with fail
    refine (A3.out _).mono ?_
    rintro e w1 ⟨rfl, hb1⟩
    go_wp2_with fail
    refine (HW.out _).mono ?_
    rintro e w8 ⟨rfl, hb8⟩
    go_wp2_with fail
    go_ret
    exact ⟨rfl, bt (bt (step_al (Below.refl _ _) _) hb1) hb8⟩
end Go.Proofs.Ytegngjdeifbdiaa
