/-
  The plain law of the window: a valid one stays valid, and what was accepted is rejected.
-/
import Derived.Test.YtegngjdeifbdiaaRepO
open Go Go.RowKit Go.Proofs
namespace Go.Proofs.Ytegngjdeifbdiaa
namespace Hub
/-- The number m was accepted before, or lies too far back. -/
def Rej (t b m : Int) : Prop := m ≤ t ∧ (m ≤ t - 64 ∨ b.toNat.testBit (t - m).toNat = true)
theorem rej_acc {t b m : Int} (h : Rej t b m) : acc t b m = (t, b, false) := by
  rw [acc]
  by_cases h1 : chk t b ≠ 0 ∨ m < 0 ∨ 1099511627776 < m ∨ m ≤ t - 64
  · rw [if_pos h1]
  · rw [if_neg h1, if_neg (by have := h.1; omega), if_pos]
    rcases h.2 with h2 | h2
    · exact absurd (Or.inr (Or.inr (Or.inr h2))) h1
    · exact h2
/-- The new bits behind a number above the top. -/
def shl (t b n : Int) : Nat := (if n - t < 64 then b.toNat * 2 ^ (n - t).toNat % 18446744073709551616 else 0) ||| 1
theorem acc_cases (t b n : Int) : acc t b n = (t, b, false) ∨ (chk t b = 0 ∧ 0 ≤ n ∧ n ≤ 1099511627776 ∧ t - 64 < n ∧
    ((t < n ∧ acc t b n = (n, ((shl t b n : Nat) : Int), true)) ∨ (n ≤ t ∧ acc t b n = (t, ((b.toNat ||| 2 ^ (t - n).toNat : Nat) : Int), true)))) := by
  rw [acc]
  by_cases h1 : chk t b ≠ 0 ∨ n < 0 ∨ 1099511627776 < n ∨ n ≤ t - 64
  · exact .inl (by rw [if_pos h1])
  · rw [if_neg h1]
    by_cases h2 : t < n
    · refine .inr ⟨?_, by omega, by omega, by omega, .inl ⟨h2, by rw [if_pos h2]; rfl⟩⟩
      exact Classical.byContradiction fun h => h1 (.inl h)
    · by_cases h3 : b.toNat.testBit (t - n).toNat = true
      · exact .inl (by rw [if_neg h2, if_pos h3])
      · refine .inr ⟨?_, by omega, by omega, by omega, .inr ⟨by omega, by rw [if_neg h2, if_neg h3]⟩⟩
        exact Classical.byContradiction fun h => h1 (.inl h)
theorem chk_zero' {t b : Int} (h : chk t b = 0) : (t = -1 ∧ b = 0) ∨ (0 ≤ t ∧ t ≤ 1099511627776 ∧ b % 2 = 1 ∧ (t < 63 → b / 2 ^ (t + 1).toNat = 0)) := by
  rw [chk] at h
  by_cases h1 : (t = -1 ∧ b = 0) ∨ (0 ≤ t ∧ t ≤ 1099511627776 ∧ b % 2 = 1 ∧ (t < 63 → b / 2 ^ (t + 1).toNat = 0))
  · exact h1
  · rw [if_neg h1] at h; omega
theorem chk_nat {t : Int} {v : Nat} (h0 : 0 ≤ t) (h1 : t ≤ 1099511627776) (hv : v.testBit 0 = true) (h2 : t < 63 → v < 2 ^ (t + 1).toNat) : chk t (v : Int) = 0 := by
  rw [chk, if_pos]
  refine .inr ⟨h0, h1, ?_, fun h => ?_⟩
  · rw [Nat.testBit_zero] at hv; simp at hv; omega
  · have := Nat.div_eq_of_lt (h2 h)
    exact_mod_cast this
theorem chk_lt {t b : Int} (h : chk t b = 0) (hb : 0 ≤ b) (ht : t < 63) (h0 : 0 ≤ t) : b.toNat < 2 ^ (t + 1).toNat := by
  rcases chk_zero' h with ⟨h1, _⟩ | ⟨_, _, _, h4⟩
  · omega
  · have h5 := h4 ht
    obtain ⟨v, rfl⟩ := Int.eq_ofNat_of_zero_le hb
    have h6 : v / 2 ^ (t + 1).toNat = 0 := by exact_mod_cast h5
    simpa using (Nat.div_eq_zero_iff_lt (Nat.pow_pos (by decide))).1 h6
theorem shl_bit0 (t b n : Int) : (shl t b n).testBit 0 = true := by rw [shl, Nat.testBit_or]; simp
theorem or_bit0 {b : Int} (h : b % 2 = 1) (hb : 0 ≤ b) (x : Nat) : (b.toNat ||| x).testBit 0 = true := by
  rw [Nat.testBit_or, Nat.testBit_zero]
  have : b.toNat % 2 = 1 := by omega
  simp [this]
theorem chk_acc {t b : Int} (n : Int) (hb : 0 ≤ b) (h : chk t b = 0) : chk (acc t b n).1 (acc t b n).2.1 = 0 := by
  rcases acc_cases t b n with e | ⟨_, n0, n1, n2, ⟨hlt, e⟩ | ⟨hle, e⟩⟩
  · rw [e]; exact h
  · rw [e]
    refine chk_nat n0 n1 (shl_bit0 _ _ _) fun hn => ?_
    rw [shl]
    refine Nat.or_lt_two_pow ?_ (Nat.one_lt_two_pow (by omega))
    split
    · by_cases ht : 0 ≤ t
      · have h1 := chk_lt h hb (by omega) ht
        refine Nat.lt_of_le_of_lt (Nat.mod_le _ _) ?_
        have e1 : (n + 1).toNat = (t + 1).toNat + (n - t).toNat := by omega
        rw [e1, Nat.pow_add]
        exact Nat.mul_lt_mul_of_pos_right h1 (Nat.pow_pos (by decide))
      · rcases chk_zero' h with ⟨_, rfl⟩ | ⟨h1, _⟩
        · simp only [Int.toNat_zero, Nat.zero_mul, Nat.zero_mod]; exact Nat.pow_pos (by decide)
        · omega
    · exact Nat.pow_pos (by decide)
  · rw [e]
    have ht : 0 ≤ t := by omega
    rcases chk_zero' h with ⟨h1, _⟩ | ⟨_, t1, hb2, _⟩
    · omega
    refine chk_nat ht t1 (or_bit0 hb2 hb _) fun hn => ?_
    exact Nat.or_lt_two_pow (chk_lt h hb hn ht) (Nat.pow_lt_pow_right (by decide) (by omega))
theorem acc_top {t b : Int} (n : Int) : t ≤ (acc t b n).1 ∧ ((acc t b n).2.2 = true → (acc t b n).1 = n ∨ (acc t b n).1 = t) := by
  rcases acc_cases t b n with e | ⟨_, n0, n1, n2, ⟨hlt, e⟩ | ⟨hle, e⟩⟩ <;> rw [e]
  · exact ⟨Int.le_refl _, fun h => by simp at h⟩
  · exact ⟨by simp only; omega, fun _ => .inl rfl⟩
  · exact ⟨Int.le_refl _, fun _ => .inr rfl⟩
theorem shl_bit {t b n : Int} (k : Nat) (hlt : t < n) (hk : (n - t).toNat + k < 64) (h : b.toNat.testBit k = true) : (shl t b n).testBit ((n - t).toNat + k) = true := by
  rw [shl, if_pos (by omega), Nat.testBit_or, show (18446744073709551616 : Nat) = 2 ^ 64 from rfl, Nat.testBit_mod_two_pow, Nat.testBit_mul_two_pow]
  simp [h, hk]
theorem rej_keeps {t b m : Int} (n : Int) (h : Rej t b m) : Rej (acc t b n).1 (acc t b n).2.1 m := by
  obtain ⟨hm, h⟩ := h
  rcases acc_cases t b n with e | ⟨_, n0, n1, n2, ⟨hlt, e⟩ | ⟨hle, e⟩⟩
  · rw [e]; exact ⟨hm, h⟩
  · rw [e]
    refine ⟨by simp only; omega, ?_⟩
    simp only
    by_cases hd : m ≤ n - 64
    · exact .inl hd
    · refine .inr ?_
      rcases h with h | h
      · omega
      · have e1 : (n - m).toNat = (n - t).toNat + (t - m).toNat := by omega
        rw [Int.toNat_natCast, e1]
        exact shl_bit _ hlt (by omega) h
  · rw [e]
    refine ⟨hm, ?_⟩
    rcases h with h | h
    · exact .inl h
    · refine .inr ?_
      simp only [Int.toNat_natCast]
      rw [Nat.testBit_or, h]; rfl
theorem rej_new {t b n : Int} (h : (acc t b n).2.2 = true) : Rej (acc t b n).1 (acc t b n).2.1 n := by
  rcases acc_cases t b n with e | ⟨_, n0, n1, n2, ⟨hlt, e⟩ | ⟨hle, e⟩⟩
  · rw [e] at h; simp at h
  · rw [e]
    refine ⟨Int.le_refl _, .inr ?_⟩
    simp only [Int.toNat_natCast, Int.sub_self, Int.toNat_zero]
    exact shl_bit0 _ _ _
  · rw [e]
    refine ⟨hle, .inr ?_⟩
    simp only [Int.toNat_natCast]
    rw [Nat.testBit_or, Nat.testBit_two_pow_self]; simp
/-- What the law about lists keeps: the window is valid, its top is the greatest accepted, and what was accepted is rejected. -/
theorem acc_in {t b n : Int} (h : (acc t b n).2.2 = true) : 0 ≤ n ∧ n ≤ 1099511627776 := by
  rcases acc_cases t b n with e | ⟨_, n0, n1, _⟩
  · rw [e] at h; simp at h
  · exact ⟨n0, n1⟩
theorem acc_new {t b n : Int} (h : chk t b = 0) (n0 : 0 ≤ n) (n1 : n ≤ 1099511627776) (hn : t < n) : (acc t b n).2.2 = true := by
  rw [acc, if_neg (by rw [h]; omega), if_pos hn]
theorem acc_same {t b n : Int} (h : (acc t b n).2.2 = false) : acc t b n = (t, b, false) := by
  rcases acc_cases t b n with e | ⟨_, n0, n1, n2, ⟨hlt, e⟩ | ⟨hle, e⟩⟩
  · exact e
  · rw [e] at h; simp at h
  · rw [e] at h; simp at h
theorem acc_max {t b n : Int} (h : (acc t b n).2.2 = true) : (acc t b n).1 = max t n := by
  rcases acc_cases t b n with e | ⟨_, n0, n1, n2, ⟨hlt, e⟩ | ⟨hle, e⟩⟩
  · rw [e] at h; simp at h
  · rw [e]; simp only; omega
  · rw [e]; simp only; omega
theorem acc_b {t b n : Int} (b0 : 0 ≤ b) (b1 : b ≤ 18446744073709551615) : 0 ≤ (acc t b n).2.1 ∧ (acc t b n).2.1 ≤ 18446744073709551615 := by
  rcases acc_cases t b n with e | ⟨_, n0, n1, n2, ⟨hlt, e⟩ | ⟨hle, e⟩⟩
  · rw [e]; exact ⟨b0, b1⟩
  · rw [e]
    have : shl t b n < 2 ^ 64 := by
      rw [shl]
      refine Nat.or_lt_two_pow ?_ (by decide)
      split
      · exact Nat.mod_lt _ (by decide)
      · decide
    simp only; omega
  · rw [e]
    have : (b.toNat ||| 2 ^ (t - n).toNat) < 2 ^ 64 := Nat.or_lt_two_pow (by omega) (Nat.pow_lt_pow_right (by decide) (by omega))
    simp only; omega
end Hub
end Go.Proofs.Ytegngjdeifbdiaa
