/-
  The walk of accepting a number, the program's.
-/
import Derived.Test.YtegngjdeifbdiaaRepA
open Go Go.RowKit Go.Proofs
namespace Go.Proofs.Ytegngjdeifbdiaa
namespace Hub
theorem chk_zero {t b : Int} (h : chk t b = 0) : -1 ≤ t ∧ t ≤ 1099511627776 ∧ (t = -1 → b = 0) := by
  rw [chk] at h
  split at h
  · omega
  · exact absurd h (by decide)
theorem pow_cast (k : Nat) : (2 : Int) ^ k = ((2 ^ k : Nat) : Int) := by push_cast; rfl
theorem acc_shl (b k : Int) (h0 : 0 ≤ b) : bits .or .u64 (IntKind.u64.wrap (b * 2 ^ k.toNat)) 1 = ((b.toNat * 2 ^ k.toNat % 18446744073709551616 ||| 1 : Nat) : Int) := by
  obtain ⟨m, rfl⟩ := Int.eq_ofNat_of_zero_le h0
  rw [Int.toNat_natCast]
  have e : IntKind.u64.wrap ((m : Int) * 2 ^ k.toNat) = ((m * 2 ^ k.toNat % 18446744073709551616 : Nat) : Int) := by
    rw [pow_cast, ← Int.natCast_mul]
    generalize m * 2 ^ k.toNat = x
    simp only [IntKind.wrap, IntKind.bits, IntKind.signed, Bool.false_and]
    simp
  rw [e, show (1 : Int) = ((1 : Nat) : Int) from rfl, bits_or_nat .u64 _ _ (by simp only [IntKind.bits]; omega) (by simp only [IntKind.bits]; omega)]
  have : (m * 2 ^ k.toNat % 18446744073709551616 ||| 1) < 2 ^ 64 := Nat.or_lt_two_pow (by omega) (by omega)
  exact IntWalk.u64_in _ ⟨by omega, by omega⟩
theorem acc_one : bits .or .u64 0 1 = ((0 ||| 1 : Nat) : Int) := by decide
theorem two_in (k : Nat) (hk : k < 64) : IntKind.u64.wrap (2 ^ k) = ((2 ^ k : Nat) : Int) := by
  rw [pow_cast]
  have : 2 ^ k ≤ 2 ^ 63 := Nat.pow_le_pow_right (by decide) (by omega)
  generalize (2 ^ k : Nat) = x at *
  exact IntWalk.u64_in _ ⟨by omega, by omega⟩
theorem and_bit (m k : Nat) : m &&& 2 ^ k ≠ 0 ↔ m.testBit k = true := by
  constructor
  · intro h
    cases hb : m.testBit k with
    | true => rfl
    | false =>
      exfalso; apply h
      apply Nat.eq_of_testBit_eq
      intro i
      rw [Nat.testBit_and, Nat.testBit_two_pow, Nat.zero_testBit]
      by_cases hi : k = i
      · subst hi; rw [hb]; rfl
      · rw [decide_eq_false hi, Bool.and_false]
  · intro h e
    have : (m &&& 2 ^ k).testBit k = true := by rw [Nat.testBit_and, h, Nat.testBit_two_pow_self]; rfl
    rw [e, Nat.zero_testBit] at this; cases this
theorem acc_bit (b : Int) (k : Nat) (hk : k < 64) (h0 : 0 ≤ b) (h1 : b ≤ 18446744073709551615) : (bits .and .u64 b (IntKind.u64.wrap (2 ^ k)) != 0) = b.toNat.testBit k := by
  obtain ⟨m, rfl⟩ := Int.eq_ofNat_of_zero_le h0
  have h2 : 2 ^ k ≤ 2 ^ 63 := Nat.pow_le_pow_right (by decide) (by omega)
  have h3 := Nat.two_pow_pos k
  rw [two_in k hk, u64_and_nat _ _ (by omega) (by omega), Int.toNat_natCast]
  have h := and_bit m k
  cases hb : m.testBit k with
  | true =>
    have := h.2 hb
    simp only [bne_iff_ne, ne_eq]; omega
  | false =>
    have : m &&& 2 ^ k = 0 := by
      by_cases hz : m &&& 2 ^ k = 0
      · exact hz
      · have := h.1 hz; rw [hb] at this; cases this
    rw [this]; rfl
theorem acc_or (b : Int) (k : Nat) (hk : k < 64) (h0 : 0 ≤ b) (h1 : b ≤ 18446744073709551615) : bits .or .u64 b (IntKind.u64.wrap (2 ^ k)) = ((b.toNat ||| 2 ^ k : Nat) : Int) := by
  obtain ⟨m, rfl⟩ := Int.eq_ofNat_of_zero_le h0
  have h2 : 2 ^ k ≤ 2 ^ 63 := Nat.pow_le_pow_right (by decide) (by omega)
  rw [two_in k hk, bits_or_nat .u64 _ _ (by simp only [IntKind.bits]; omega) (by simp only [IntKind.bits]; omega), Int.toNat_natCast]
  have : (m ||| 2 ^ k) < 2 ^ 64 := Nat.or_lt_two_pow (by omega) (by omega)
  exact IntWalk.u64_in _ ⟨by omega, by omega⟩
end Hub
open Hub

set_option maxRecDepth 20000 in
set_option maxHeartbeats 4000000 in
theorem wAcc_any (t b n : Int) (w : World) (h0 : 0 ≤ b) (h1 : b ≤ 18446744073709551615) : Calls Try.prog 9 #[.agg #[.int .i64 t, .int .u64 b], .int .i64 n] w fun e w' => e = .returned (.tuple #[.agg #[.int .i64 (acc t b n).1, .int .u64 (acc t b n).2.1], .bool (acc t b n).2.2]) ∧ Below w.heap.size w w' := by
  have HC := Lib.hid (fun w => wChk_any t b w h0 h1)
  by_cases hc : chk t b = 0
  · obtain ⟨ht1, ht2, ht3⟩ := chk_zero hc
    rw [hc] at HC
    by_cases hn : n < 0 ∨ 1099511627776 < n ∨ n ≤ t - 64
    · have hv : acc t b n = (t, b, false) := by rw [acc, if_pos (.inr hn)]
      rw [hv]; clear hv ht3 hc h1
      go_enter Try.func9, Try.ntmps9
      go_wp2_with fail
      refine (HC.out _).mono ?_
      rintro e w1 ⟨rfl, rfl⟩
      go_wp2_with fail
      all_goals (refine bodyPost_ret (v := .tuple #[.agg #[.int .i64 t, .int .u64 b], .bool false]) ?_ rfl ⟨rfl, ((Below.refl _ _).alloc (Nat.le_refl _) _ |>.alloc (by simp) _).alloc (by simp; omega) _⟩; simp [results, Try.results9, go_sem])
    · by_cases hlt : t < n
      · by_cases h64 : n - t < 64
        · have hv : acc t b n = (n, bits .or .u64 (IntKind.u64.wrap (b * 2 ^ (n - t).toNat)) 1, true) := by rw [acc, if_neg (by omega), if_pos hlt, if_pos h64, acc_shl b _ h0]
          rw [hv]; clear hv hc h1 ht3
          go_enter Try.func9, Try.ntmps9
          go_wp2_with fail
          refine (HC.out _).mono ?_
          rintro e w1 ⟨rfl, rfl⟩
          go_wp2_with fail
          all_goals first | (exfalso; omega) | (refine bodyPost_ret (v := .tuple #[.agg #[.int .i64 n, .int .u64 (bits .or .u64 (IntKind.u64.wrap (b * 2 ^ (n - t).toNat)) 1)], .bool true]) ?_ rfl ⟨rfl, ((Below.refl _ _).alloc (Nat.le_refl _) _ |>.alloc (by simp) _).alloc (by simp; omega) _⟩; simp [results, Try.results9, go_sem])
        · have hv : acc t b n = (n, bits .or .u64 0 1, true) := by rw [acc, if_neg (by omega), if_pos hlt, if_neg h64, acc_one]
          rw [hv]; clear hv hc h1 ht3
          go_enter Try.func9, Try.ntmps9
          go_wp2_with fail
          refine (HC.out _).mono ?_
          rintro e w1 ⟨rfl, rfl⟩
          go_wp2_with fail
          all_goals first | (exfalso; omega) | (refine bodyPost_ret (v := .tuple #[.agg #[.int .i64 n, .int .u64 (bits .or .u64 0 1)], .bool true]) ?_ rfl ⟨rfl, ((Below.refl _ _).alloc (Nat.le_refl _) _ |>.alloc (by simp) _).alloc (by simp; omega) _⟩; simp [results, Try.results9, go_sem])
      · have hAB := acc_bit b (t - n).toNat (by omega) h0 h1
        cases hbt : b.toNat.testBit (t - n).toNat with
        | true =>
          have hv : acc t b n = (t, b, false) := by rw [acc, if_neg (by omega), if_neg hlt, if_pos hbt]
          rw [hbt] at hAB
          rw [hv]; clear hv hc h1 ht3 hbt
          go_enter Try.func9, Try.ntmps9
          go_wp2_with fail
          refine (HC.out _).mono ?_
          rintro e w1 ⟨rfl, rfl⟩
          go_wp2_with fail
          all_goals first | (exfalso; omega) | (refine bodyPost_ret (v := .tuple #[.agg #[.int .i64 t, .int .u64 b], .bool false]) ?_ rfl ⟨rfl, ((Below.refl _ _).alloc (Nat.le_refl _) _ |>.alloc (by simp) _).alloc (by simp; omega) _⟩; simp [results, Try.results9, go_sem])
        | false =>
          have hv : acc t b n = (t, bits .or .u64 b (IntKind.u64.wrap (2 ^ (t - n).toNat)), true) := by rw [acc, if_neg (by omega), if_neg hlt, if_neg (by rw [hbt]; exact Bool.false_ne_true), acc_or b _ (by omega) h0 h1]
          rw [hbt] at hAB
          rw [hv]; clear hv hc h1 ht3 hbt
          go_enter Try.func9, Try.ntmps9
          go_wp2_with fail
          refine (HC.out _).mono ?_
          rintro e w1 ⟨rfl, rfl⟩
          go_wp2_with fail
          all_goals first | (exfalso; omega) | (refine bodyPost_ret (v := .tuple #[.agg #[.int .i64 t, .int .u64 (bits .or .u64 b (IntKind.u64.wrap (2 ^ (t - n).toNat)))], .bool true]) ?_ rfl ⟨rfl, ((Below.refl _ _).alloc (Nat.le_refl _) _ |>.alloc (by simp) _).alloc (by simp; omega) _⟩; simp [results, Try.results9, go_sem])
  · have hv : acc t b n = (t, b, false) := by rw [acc, if_pos (.inl hc)]
    rw [hv]; clear hv h1
    have hcb : (chk t b != 0) = true := by simpa using hc
    clear hc
    generalize chk t b = r at *
    go_enter Try.func9, Try.ntmps9
    go_wp2_with fail
    refine (HC.out _).mono ?_
    rintro e w1 ⟨rfl, rfl⟩
    go_wp2_with fail
    refine bodyPost_ret (v := .tuple #[.agg #[.int .i64 t, .int .u64 b], .bool false]) ?_ rfl ⟨rfl, ((Below.refl _ _).alloc (Nat.le_refl _) _ |>.alloc (by simp) _).alloc (by simp; omega) _⟩; simp [results, Try.results9, go_sem]
end Go.Proofs.Ytegngjdeifbdiaa
