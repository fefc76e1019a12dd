/-
  The walks of the checks of windows, the program's and the reference's.
-/
import Derived.Test.YtegngjdeifbdiaaProg
import Derived.Test.YtegngjdeifbdiaaRep
import Derived.Test.YtegngjdeifbdiaaWirI
import Derived.Deep.Light
open Go Go.RowKit Go.Proofs
namespace Go.Proofs.Ytegngjdeifbdiaa
namespace Hub
theorem acell {wr : World} (o : Obj) {b c : Nat} {v : Value} (h : wr.cell? ⟨b, c, none⟩ = some v) (hlt : b < wr.heap.size) : (wr.alloc o).cell? ⟨b, c, none⟩ = some v :=
  (((Below.refl wr.heap.size wr).alloc (Nat.le_refl _) o).cell (p := ⟨b, c, none⟩) hlt).trans h
theorem u64_and1 (b : Int) (h0 : 0 ≤ b) (h1 : b ≤ 18446744073709551615) : bits .and .u64 b 1 = b % 2 := by
  obtain ⟨m, rfl⟩ := Int.eq_ofNat_of_zero_le h0
  rw [show (1 : Int) = ((1 : Nat) : Int) from rfl, u64_and_nat _ _ (by omega) (by decide), nat_mask1]; omega
theorem bit_at (b k : Int) (h0 : 0 ≤ b) : ((b / 2 ^ k.toNat).tmod 2 == 1) = b.toNat.testBit k.toNat := by
  obtain ⟨m, rfl⟩ := Int.eq_ofNat_of_zero_le h0
  rw [Int.toNat_natCast, Nat.testBit_eq_decide_div_mod_eq]
  have e : ((m : Int) / 2 ^ k.toNat).tmod 2 = ((m / 2 ^ k.toNat % 2 : Nat) : Int) := by
    have : (m : Int) / 2 ^ k.toNat = ((m / 2 ^ k.toNat : Nat) : Int) := by push_cast; rfl
    rw [this, Int.tmod_eq_emod_of_nonneg (Int.natCast_nonneg _)]; rfl
  rw [e]
  by_cases h : m / 2 ^ k.toNat % 2 = 1
  · rw [h]; rfl
  · rw [decide_eq_false h]
    have : m / 2 ^ k.toNat % 2 = 0 := by omega
    rw [this]; rfl
theorem bits_in (t b : Int) (h0 : 0 ≤ b) (h1 : b ≤ 18446744073709551615) (ht : 0 ≤ t) : (∀ j : Nat, j ≤ 63 → b.toNat.testBit j = true → (j : Int) ≤ t) ↔ (t < 63 → b / 2 ^ (t + 1).toNat = 0) := by
  obtain ⟨m, rfl⟩ := Int.eq_ofNat_of_zero_le h0
  obtain ⟨n, rfl⟩ := Int.eq_ofNat_of_zero_le ht
  rw [Int.toNat_natCast, show ((n : Int) + 1).toNat = n + 1 from by omega]
  have e : (m : Int) / 2 ^ (n + 1) = ((m / 2 ^ (n + 1) : Nat) : Int) := by push_cast; rfl
  rw [e]
  have hm : m < 2 ^ 64 := by omega
  constructor
  · intro h _
    have : m < 2 ^ (n + 1) := by
      refine Nat.lt_pow_two_of_testBit m fun i hi => ?_
      cases hb : m.testBit i with
      | false => rfl
      | true =>
        exfalso
        by_cases h64 : i ≤ 63
        · have := h i h64 hb; omega
        · have := Nat.testBit_lt_two_pow (x := m) (i := i) (Nat.lt_of_lt_of_le hm (Nat.pow_le_pow_right (by decide) (by omega)))
          rw [this] at hb; cases hb
    rw [Nat.div_eq_of_lt this]; rfl
  · intro h j hj hb
    by_cases hn : (n : Int) < 63
    · have h2 := h hn
      have h3 : m / 2 ^ (n + 1) = 0 := by omega
      have h4 : m < 2 ^ (n + 1) := by
        have := (Nat.div_eq_zero_iff).1 h3
        rcases this with h | h
        · exact absurd h (Nat.ne_of_gt (Nat.two_pow_pos _))
        · exact h
      by_cases hjn : j ≤ n
      · omega
      · have := Nat.testBit_lt_two_pow (x := m) (i := j) (Nat.lt_of_lt_of_le h4 (Nat.pow_le_pow_right (by decide) (by omega)))
        rw [this] at hb; cases hb
    · omega
theorem bit0 (b : Int) (h0 : 0 ≤ b) : b.toNat.testBit 0 = decide (b % 2 = 1) := by
  obtain ⟨m, rfl⟩ := Int.eq_ofNat_of_zero_le h0
  rw [Int.toNat_natCast, Nat.testBit_zero]
  by_cases h : m % 2 = 1
  · rw [decide_eq_true h, decide_eq_true (by omega)]
  · rw [decide_eq_false h, decide_eq_false (by omega)]
end Hub
open Hub

set_option maxRecDepth 20000 in
set_option maxHeartbeats 2000000 in
theorem wChk_any (t b : Int) (w : World) (h0 : 0 ≤ b) (h1 : b ≤ 18446744073709551615) : Calls Try.prog 11 #[.agg #[.int .i64 t, .int .u64 b]] w fun e w' => e = .returned (.int .i64 (chk t b)) ∧ w' = w.alloc (.cells #[.int .i64 t, .int .u64 b] 24) := by
  generalize hr : chk t b = r
  have HR := Lib.hid hr
  have HB := Lib.hid (u64_and1 b h0 h1)
  clear hr h1
  go_enter Try.func11, Try.ntmps11
  go_wp2_with fail
  all_goals
    go_ret
    refine ⟨ret_int ?_, ?_⟩
    rotate_left
    · clear HR HB; first | rfl | simp only [*]
    rw [← HR.out, chk]
    clear HR
    go_light
    try simp only [HB.out, beq_iff_eq, beq_eq_false_iff_ne, bne_iff_ne, ne_eq, bne_eq_false_iff_eq] at *
    clear HB
    split <;> omega

set_option maxRecDepth 20000 in
set_option maxHeartbeats 2000000 in
theorem bit_any (t b k : Int) (w : World) (h0 : 0 ≤ b) : Calls Try.prog 19 #[.agg #[.int .i64 t, .int .u64 b], .int .i64 k] w fun e w' => e = .returned (.bool (decide (0 ≤ k ∧ k ≤ 63) && b.toNat.testBit k.toNat)) ∧ w' = w.alloc (.cells #[.int .i64 t, .int .u64 b] 24) := by
  have HB := Lib.hid (bit_at b k h0)
  by_cases hk : 0 ≤ k
  · by_cases hk2 : k ≤ 63
    · rw [decide_eq_true ⟨hk, hk2⟩, Bool.true_and]
      generalize b.toNat.testBit k.toNat = r at *
      go_enter Try.func19, Try.ntmps19
      go_wp2_with fail
      rw [HB.out]
      go_ret
      exact ⟨rfl, rfl⟩
    · rw [decide_eq_false (fun h => hk2 h.2), Bool.false_and]
      generalize b.toNat.testBit k.toNat = r at *
      go_enter Try.func19, Try.ntmps19
      go_wp2_with fail
      go_ret
      exact ⟨rfl, rfl⟩
  · rw [decide_eq_false (fun h => hk h.1), Bool.false_and]
    generalize b.toNat.testBit k.toNat = r at *
    go_enter Try.func19, Try.ntmps19
    go_wp2_with fail
    go_ret
    exact ⟨rfl, rfl⟩

set_option maxRecDepth 20000 in
set_option maxHeartbeats 4000000 in
theorem xChk_any (t b : Int) (w : World) (h0 : 0 ≤ b) (h1 : b ≤ 18446744073709551615) : Calls Try.prog 12 #[.agg #[.int .i64 t, .int .u64 b]] w fun e w' => e = .returned (.int .i64 (chk t b)) ∧ Below w.heap.size w w' := by
  have HB := Lib.hid (fun k w => bit_any t b k w h0)
  by_cases ht1 : t < -1
  · have hr : chk t b = 2 := by rw [chk, if_neg (by omega)]
    rw [hr]; clear hr h1
    go_enter Try.func12, Try.ntmps12
    go_wp2_with fail
    go_ret
    exact ⟨rfl, (Below.refl _ _).alloc (Nat.le_refl _) _⟩
  by_cases ht2 : 1099511627776 < t
  · have hr : chk t b = 2 := by rw [chk, if_neg (by omega)]
    rw [hr]; clear hr h1
    go_enter Try.func12, Try.ntmps12
    go_wp2_with fail
    go_ret
    exact ⟨rfl, (Below.refl _ _).alloc (Nat.le_refl _) _⟩
  by_cases ht3 : t = -1
  · by_cases hb : b = 0
    · have hr : chk t b = 0 := by rw [chk, if_pos (by omega)]
      rw [hr]; clear hr h1
      subst hb ht3
      go_enter Try.func12, Try.ntmps12
      go_wp2_with fail
      go_loopw [3] (fun i wr => ∃ k : Nat, k ≤ 64 ∧ i = .int .i64 k ∧ wr.cell? ⟨w.heap.size, 0, none⟩ = some (.int .i64 (-1)) ∧ wr.cell? ⟨w.heap.size, 1, none⟩ = some (.int .u64 0) ∧ w.heap.size < wr.heap.size ∧ Below w.heap.size w wr) (fun i _ => 64 - (intOf i).toNat)
      case atStart => exact ⟨0, by omega, rfl, by simp, by simp, by simp, (Below.refl _ _).alloc (Nat.le_refl _) _⟩
      case round =>
        obtain ⟨k, hk, rfl, c0, c1, hlt, hbr⟩ := hrel
        by_cases hk2 : k ≤ 63
        · have hki : (k : Int) ≤ 63 := by omega
          go_wp2_with fail
          refine (HB.out _ _).mono ?_
          rw [show ((decide (0 ≤ (k : Int) ∧ (k : Int) ≤ 63)) && (0 : Int).toNat.testBit (k : Int).toNat) = false from by simp]
          rintro e w1 ⟨rfl, rfl⟩
          go_wp2_with fail
          go_roundw
          case rel => exact ⟨k + 1, by omega, by go_num, acell _ c0 hlt, acell _ c1 hlt, by simp; omega, hbr.alloc (Nat.le_of_lt hlt) _⟩
          case measure => simp [intOf]; omega
        · have hki : ¬ (k : Int) ≤ 63 := by omega
          go_wp2_with fail
          go_ret
          exact ⟨rfl, hbr⟩
    · have hr : chk t b = 2 := by rw [chk, if_neg (by omega)]
      rw [hr]; clear hr h1
      have hbb : (b != 0) = true := by simpa using hb
      clear hb
      subst ht3
      go_enter Try.func12, Try.ntmps12
      go_wp2_with fail
      go_ret
      exact ⟨rfl, (Below.refl _ _).alloc (Nat.le_refl _) _⟩
  have ht0 : 0 ≤ t := by omega
  have htb : (t == -1) = false := by simpa using ht3
  have hb0 := bit0 b h0
  by_cases hodd : b % 2 = 1
  · have HBI := Lib.hid (bits_in t b h0 h1 ht0)
    have hc : chk t b = if t < 63 → b / 2 ^ (t + 1).toNat = 0 then 0 else 2 := by
      rw [chk]
      by_cases h : t < 63 → b / 2 ^ (t + 1).toNat = 0
      · rw [if_pos (.inr ⟨ht0, by omega, hodd, h⟩), if_pos h]
      · rw [if_neg (by rintro (h' | h'); omega; exact h h'.2.2.2), if_neg h]
    have HC := Lib.hid hc
    generalize chk t b = r at *
    have hbit : (decide (0 ≤ (0 : Int) ∧ (0 : Int) ≤ 63) && b.toNat.testBit (0 : Int).toNat) = true := by
      rw [show (0 : Int).toNat = 0 from rfl, hb0, decide_eq_true hodd]; rfl
    have HB0 := Lib.hid hbit
    clear hc hb0 hbit hodd ht3 h1
    go_enter Try.func12, Try.ntmps12
    go_wp2_with fail
    refine (HB.out _ _).mono ?_
    rw [HB0.out]
    rintro e w1 ⟨rfl, rfl⟩
    go_wp2_with fail
    go_loopw [3] (fun i wr => ∃ k : Nat, k ≤ 64 ∧ i = .int .i64 k ∧ (∀ j : Nat, j < k → b.toNat.testBit j = true → (j : Int) ≤ t) ∧ wr.cell? ⟨w.heap.size, 0, none⟩ = some (.int .i64 t) ∧ wr.cell? ⟨w.heap.size, 1, none⟩ = some (.int .u64 b) ∧ w.heap.size < wr.heap.size ∧ Below w.heap.size w wr) (fun i _ => 64 - (intOf i).toNat)
    case atStart => exact ⟨0, by omega, rfl, fun j hj => by omega, by simp, by simp, by simp; omega, ((Below.refl _ _).alloc (Nat.le_refl _) _).alloc (by simp) _⟩
    case round =>
      obtain ⟨k, hk, rfl, hall, c0, c1, hlt, hbr⟩ := hrel
      have HA := Lib.hid hall
      clear hall
      by_cases hk2 : k ≤ 63
      · have hki : (k : Int) ≤ 63 := by omega
        cases hb : b.toNat.testBit k with
        | false =>
          have HBk := Lib.hid (show (decide (0 ≤ (k : Int) ∧ (k : Int) ≤ 63) && b.toNat.testBit (k : Int).toNat) = false from by rw [Int.toNat_natCast, hb, Bool.and_false])
          have HH := Lib.hid hb
          clear hb
          go_wp2_with fail
          refine (HB.out _ _).mono ?_
          rw [HBk.out]
          rintro e w1 ⟨rfl, rfl⟩
          go_wp2_with fail
          go_roundw
          case rel =>
            refine ⟨k + 1, by omega, by go_num, fun j hj hjb => ?_, acell _ c0 hlt, acell _ c1 hlt, by simp; omega, hbr.alloc (Nat.le_of_lt hlt) _⟩
            by_cases hjk : j < k
            · exact HA.out j hjk hjb
            · have : j = k := by omega
              subst this
              rw [HH.out] at hjb; cases hjb
          case measure => simp [intOf]; omega
        | true =>
          have HBk := Lib.hid (show (decide (0 ≤ (k : Int) ∧ (k : Int) ≤ 63) && b.toNat.testBit (k : Int).toNat) = true from by rw [Int.toNat_natCast, hb, decide_eq_true ⟨by omega, hki⟩]; rfl)
          have HH := Lib.hid hb
          clear hb
          by_cases hkt : (k : Int) ≤ t
          · have hkt2 : ¬ t < (k : Int) := by omega
            go_wp2_with fail
            refine (HB.out _ _).mono ?_
            rw [HBk.out]
            rintro e w1 ⟨rfl, rfl⟩
            go_wp2_with fail
            go_roundw
            case rel =>
              refine ⟨k + 1, by omega, by go_num, fun j hj hjb => ?_, acell _ c0 hlt, acell _ c1 hlt, by simp; omega, hbr.alloc (Nat.le_of_lt hlt) _⟩
              by_cases hjk : j < k
              · exact HA.out j hjk hjb
              · omega
            case measure => simp [intOf]; omega
          · have hkt2 : t < (k : Int) := by omega
            have hr : r = 2 := by
              rw [HC.out, if_neg]
              intro h
              exact hkt (HBI.out.2 h k hk2 HH.out)
            have HR := Lib.hid hr
            clear hr hkt
            go_wp2_with fail
            refine (HB.out _ _).mono ?_
            rw [HBk.out]
            rintro e w1 ⟨rfl, rfl⟩
            go_wp2_with fail
            go_ret
            exact ⟨by rw [HR.out]; rfl, hbr.alloc (Nat.le_of_lt hlt) _⟩
      · have hki : ¬ (k : Int) ≤ 63 := by omega
        have hr : r = 0 := by
          rw [HC.out, if_pos]
          exact HBI.out.1 fun j hj hjb => HA.out j (by omega) hjb
        have HR := Lib.hid hr
        clear hr
        go_wp2_with fail
        go_ret
        exact ⟨by rw [HR.out]; rfl, hbr⟩
  · have hr : chk t b = 2 := by rw [chk, if_neg (by omega)]
    rw [hr]; clear hr h1
    have HB0 := Lib.hid (show (decide (0 ≤ (0 : Int) ∧ (0 : Int) ≤ 63) && b.toNat.testBit (0 : Int).toNat) = false from by rw [show (0 : Int).toNat = 0 from rfl, hb0, decide_eq_false hodd]; rfl)
    clear hb0 hodd ht3
    go_enter Try.func12, Try.ntmps12
    go_wp2_with fail
    refine (HB.out _ _).mono ?_
    rw [HB0.out]
    rintro e w1 ⟨rfl, rfl⟩
    go_wp2_with fail
    go_ret
    exact ⟨rfl, ((Below.refl _ _).alloc (Nat.le_refl _) _).alloc (by simp) _⟩
end Go.Proofs.Ytegngjdeifbdiaa
