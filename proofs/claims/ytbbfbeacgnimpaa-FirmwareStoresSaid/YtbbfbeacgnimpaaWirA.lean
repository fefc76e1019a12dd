/-
  The walks of the encodings of numbers, the program's and the reference's.
-/
import Derived.Test.YtbbfbeacgnimpaaProg
import Derived.Test.YtbbfbeacgnimpaaWir
import Derived.Test.YtbbfbeacgnimpaaOwn
open Go Go.RowKit Go.Proofs
namespace Go.Proofs.Ytbbfbeacgnimpaa
namespace Hub
theorem or128_nat : ∀ x : Fin 256, (x.val ||| 128) = x.val % 128 + 128 := by decide +kernel
theorem bits_or_nat (k : IntKind) (a b : Nat) (ha : a < 2 ^ k.bits) (hb : b < 2 ^ k.bits) : bits .or k (a : Int) (b : Int) = k.wrap ((a ||| b : Nat) : Int) := by
  simp only [bits, BitVec.ofInt_natCast, BitVec.toNat_or, BitVec.toNat_ofNat, Nat.mod_eq_of_lt ha, Nat.mod_eq_of_lt hb]
theorem u8_top (z : Int) (h : 0 ≤ z) : bits .or .u8 (z % 256) 128 = ((UInt8.ofNat (z.toNat % 128 + 128)).toNat : Int) := by
  obtain ⟨m, rfl⟩ := Int.eq_ofNat_of_zero_le h
  have e : ((m : Int) % 256) = ((m % 256 : Nat) : Int) := by omega
  have f := or128_nat ⟨m % 256, by omega⟩
  have g : (UInt8.ofNat (m % 128 + 128)).toNat = m % 128 + 128 := by simp; omega
  simp only at f
  rw [e, show (128 : Int) = ((128 : Nat) : Int) from rfl]
  rw [bits_or_nat .u8 _ _ (by simp [IntKind.bits]; omega) (by simp [IntKind.bits]), f, Int.toNat_natCast, g]
  simp only [IntKind.wrap, IntKind.bits, IntKind.signed, Bool.false_and]
  simp; omega
theorem u8_low (z : Int) (h : 0 ≤ z) (h1 : z < 128) : z = ((UInt8.ofNat z.toNat).toNat : Int) := by
  have g : (UInt8.ofNat z.toNat).toNat = z.toNat := by simp; omega
  rw [g]; omega
theorem zig_prog (n : Int) (h0 : -9223372036854775808 ≤ n) (h1 : n ≤ 9223372036854775807) : bits BinOp.xor IntKind.u64 (IntKind.u64.wrap (IntKind.u64.wrap n * 2)) (IntKind.u64.wrap (n / 9223372036854775808)) = (zig n : Int) := by
  by_cases hn : 0 ≤ n
  · have e1 : IntKind.u64.wrap n = n := IntWalk.u64_in _ ⟨by omega, by omega⟩
    have e2 : IntKind.u64.wrap (n * 2) = n * 2 := IntWalk.u64_in _ ⟨by omega, by omega⟩
    have e3 : n / 9223372036854775808 = 0 := by omega
    have e4 : IntKind.u64.wrap 0 = ((0 : Nat) : Int) := rfl
    have e5 : n * 2 = ((zig n : Nat) : Int) := by unfold zig; rw [if_pos hn]; omega
    rw [e1, e2, e3, e4, e5, u64_xor_nat _ _ (by have := zig_lt n h0 h1; omega) (by decide), Nat.xor_zero]
  · have e3 : n / 9223372036854775808 = -1 := by omega
    have e4 : IntKind.u64.wrap (-1) = ((18446744073709551615 : Nat) : Int) := rfl
    have e1 : IntKind.u64.wrap n = n + 18446744073709551616 := by simp only [IntKind.wrap, IntKind.bits, IntKind.signed, Bool.false_and]; simp; omega
    have e2 : IntKind.u64.wrap ((n + 18446744073709551616) * 2) = ((18446744073709551615 - zig n : Nat) : Int) := by
      unfold zig; rw [if_neg hn]; simp only [IntKind.wrap, IntKind.bits, IntKind.signed, Bool.false_and]; simp; omega
    rw [e3, e4, e1, e2, u64_xor_nat _ _ (by omega) (by decide)]
    have hz := zig_lt n h0 h1
    generalize zig n = z at *
    have g := (BitVec.xor_allOnes (x := BitVec.ofNat 64 (18446744073709551615 - z)))
    have k := congrArg BitVec.toNat g
    rw [BitVec.toNat_xor, BitVec.toNat_allOnes, BitVec.toNat_not, BitVec.toNat_ofNat, Nat.mod_eq_of_lt (by omega)] at k
    rw [show (18446744073709551615 : Nat) = 2 ^ 64 - 1 from rfl] at *
    rw [k]; omega
theorem zig_ref0 (n : Int) (hn : 0 ≤ n) : n * 2 = (zig n : Int) := by unfold zig; rw [if_pos hn]; omega
theorem zig_ref1 (n : Int) (hn : ¬ 0 ≤ n) (h0 : -9223372036854775808 ≤ n) : bits BinOp.xor IntKind.u64 IntKind.u64.max (IntKind.u64.wrap (IntKind.u64.wrap n * 2)) = (zig n : Int) := by
  have e4 : IntKind.u64.max = ((18446744073709551615 : Nat) : Int) := rfl
  have e1 : IntKind.u64.wrap n = n + 18446744073709551616 := by simp only [IntKind.wrap, IntKind.bits, IntKind.signed, Bool.false_and]; simp; omega
  have e2 : IntKind.u64.wrap ((n + 18446744073709551616) * 2) = ((18446744073709551615 - zig n : Nat) : Int) := by
    unfold zig; rw [if_neg hn]; simp only [IntKind.wrap, IntKind.bits, IntKind.signed, Bool.false_and]; simp; omega
  rw [e4, e1, e2, u64_xor_nat _ _ (by decide) (by omega)]
  have hz := zig_lt n h0 (by omega)
  generalize zig n = z at *
  have g := (BitVec.xor_allOnes (x := BitVec.ofNat 64 (18446744073709551615 - z)))
  have k := congrArg BitVec.toNat g
  rw [BitVec.toNat_xor, BitVec.toNat_allOnes, BitVec.toNat_not, BitVec.toNat_ofNat, Nat.mod_eq_of_lt (by omega), Nat.xor_comm] at k
  rw [show (18446744073709551615 : Nat) = 2 ^ 64 - 1 from rfl] at *
  rw [k]; omega
theorem u8_top2 (z : Int) (h : 0 ≤ z) : z % 128 + 128 = ((UInt8.ofNat (z.toNat % 128 + 128)).toNat : Int) := by
  have g : (UInt8.ofNat (z.toNat % 128 + 128)).toNat = z.toNat % 128 + 128 := by simp; omega
  rw [g]; omega
theorem wi_quo (k : Nat) (z : Int) (hz0 : 0 ≤ z) (hz : z.toNat < 128 ^ (9 - k) * 2) : IntKind.u64.wrap (z.tdiv 128) = z / 128 := by
  have h : 128 ^ (9 - k) ≤ 128 ^ 9 := Nat.pow_le_pow_right (by decide) (by omega)
  rw [Int.tdiv_eq_ediv_of_nonneg hz0]
  exact IntWalk.u64_in _ ⟨by omega, by omega⟩
theorem wi_step (n : Int) (l : List UInt8) (z : Int) (c : UInt8) (hz0 : 0 ≤ z) (h : 128 ≤ z) (hz : z.toNat < 128 ^ (9 - l.length) * 2) (hl : l.length ≤ 9) (hc : c = UInt8.ofNat (z.toNat % 128 + 128)) (hg : l ++ grp z.toNat = enc n) :
    (z / 128).toNat < 128 ^ (9 - (l ++ [c]).length) * 2 ∧ (l ++ [c]).length ≤ 9 ∧ (l ++ [c]) ++ grp (z / 128).toNat = enc n := by
  have e : (z / 128).toNat = z.toNat / 128 := by omega
  have hl9 : l.length ≠ 9 := by
    intro h9; rw [h9] at hz; simp at hz; omega
  refine ⟨?_, by simp; omega, ?_⟩
  · rw [e, List.length_append, List.length_singleton]
    obtain ⟨k, hk⟩ : ∃ k, 9 - l.length = k + 1 := ⟨8 - l.length, by omega⟩
    rw [hk, Nat.pow_succ] at hz
    rw [show 9 - (l.length + 1) = k from by omega]
    omega
  · rw [e, ← hg, grp_big z.toNat (by omega), ← hc]; simp
theorem wi_last (n : Int) (l : List UInt8) (z : Int) (c : UInt8) (_hz0 : 0 ≤ z) (h : z < 128) (hc : c = UInt8.ofNat z.toNat) (hg : l ++ grp z.toNat = enc n) : mk (l ++ [c]) = mk (enc n) := by
  rw [← hg, grp_small z.toNat (by omega), ← hc]
end Hub
open Hub

set_option maxHeartbeats 1000000 in
theorem wInt_any (n : Int) (w : World) (h0 : -9223372036854775808 ≤ n) (h1 : n ≤ 9223372036854775807) :
    Calls Try.prog 41 #[.int .i64 n] w fun e w' => e = .returned (.string (mk (enc n))) ∧ Below w.heap.size w w' := by
  have HE := Lib.hid (zig_prog n h0 h1)
  have HL := Lib.hid (zig_lt n h0 h1)
  go_enter Try.func41, Try.ntmps41
  go_wp2
  rw [HE.out]
  clear h0 h1
  go_loopw [3, 4] (fun u b wr => ∃ (z : Int) (l : List UInt8), u = .int .u64 z ∧ 0 ≤ z ∧ z.toNat < 128 ^ (9 - l.length) * 2 ∧ l.length ≤ 9 ∧ OwnB wr w.heap.size b l ∧ Below w.heap.size w wr ∧ l ++ grp z.toNat = enc n) (fun u _ _ => (intOf u).toNat)
  case atStart => exact ⟨(zig n : Int), [], rfl, by omega, by have := HL.out; simp; omega, by simp, OwnB.nil _ _, Below.refl _ _, rfl⟩
  case round =>
    obtain ⟨z, l, rfl, hz0, hz, hl, hown, hb, hg⟩ := hrel
    have HB := Lib.hid hb.size
    by_cases hlt : 128 ≤ z
    · obtain ⟨c, hc⟩ : ∃ c : UInt8, c = UInt8.ofNat (z.toNat % 128 + 128) := ⟨_, rfl⟩
      have HU := Lib.hid (u8_top z hz0)
      rw [← hc] at HU
      have HS := Lib.hid (wi_step n l z c hz0 hlt hz hl hc hg)
      clear hz hg hc
      go_wp2_with (at_builtin; refine step_appB rfl _ _ rfl w.heap.size _ l [c] 1 wr.heap.size rfl (hown.alloc _) rfl ?_ (by simp; omega) (by have := HB.out; simp; omega) ?_)
      · intro j hj
        match j, hj with
        | 0, _ => simp [HU.out]
      · intro v' w1 hown' hb'
        go_wp2
        go_roundw
        case rel => exact ⟨z / 128, l ++ [c], rfl, by omega, HS.out.1, HS.out.2.1, hown', (hb.alloc HB.out _).trans hb', HS.out.2.2⟩
        case measure => simp [intOf]; omega
    · obtain ⟨c, hc⟩ : ∃ c : UInt8, c = UInt8.ofNat z.toNat := ⟨_, rfl⟩
      have HU := Lib.hid (u8_low z hz0 (by omega))
      rw [← hc] at HU
      have HS := Lib.hid (wi_last n l z c hz0 (by omega) hc hg)
      have hlt2 : z < 128 := by omega
      clear hz hg hc hlt
      go_wp2_with (at_builtin; refine step_appB rfl _ _ rfl w.heap.size _ l [c] 1 wr.heap.size rfl (hown.alloc _) rfl ?_ (by simp; omega) (by have := HB.out; simp; omega) ?_)
      · simp [← HU.out]
      · intro v' w1 hown' hb'
        go_wp2_with (refine step_strO rfl _ rfl w.heap.size _ _ rfl hown' ?_)
        go_ret
        exact ⟨ret_str HS.out, (hb.alloc HB.out _).trans hb'⟩

set_option maxHeartbeats 1000000 in
theorem refInt_any (n : Int) (w : World) (h0 : -9223372036854775808 ≤ n) (h1 : n ≤ 9223372036854775807) :
    Calls Try.prog 47 #[.int .i64 n] w fun e w' => e = .returned (.string (mk (enc n))) ∧ Below w.heap.size w w' := by
  have HL := Lib.hid (zig_lt n h0 h1)
  by_cases hn : 0 ≤ n
  · have HE := Lib.hid (zig_ref0 n hn)
    go_enter Try.func47, Try.ntmps47
    go_wp2
    rw [HE.out]
    clear h0 h1 hn
    go_loopw [3, 4] (fun u b wr => ∃ (z : Int) (l : List UInt8), u = .int .u64 z ∧ 0 ≤ z ∧ z.toNat < 128 ^ (9 - l.length) * 2 ∧ l.length ≤ 9 ∧ OwnB wr w.heap.size b l ∧ Below w.heap.size w wr ∧ l ++ grp z.toNat = enc n) (fun u _ _ => (intOf u).toNat)
    case atStart => exact ⟨(zig n : Int), [], rfl, by omega, by have := HL.out; simp; omega, by simp, OwnB.nil _ _, Below.refl _ _, rfl⟩
    case round =>
      obtain ⟨z, l, rfl, hz0, hz, hl, hown, hb, hg⟩ := hrel
      have HB := Lib.hid hb.size
      by_cases hlt : 128 ≤ z
      · obtain ⟨c, hc⟩ : ∃ c : UInt8, c = UInt8.ofNat (z.toNat % 128 + 128) := ⟨_, rfl⟩
        have HT := Lib.hid (wi_quo l.length z hz0 hz)
        have HU := Lib.hid (u8_top2 z hz0)
        rw [← hc] at HU
        have HS := Lib.hid (wi_step n l z c hz0 hlt hz hl hc hg)
        clear hz hg hc
        go_wp2_with (at_builtin; refine step_appB rfl _ _ rfl w.heap.size _ l [c] 1 wr.heap.size rfl (hown.alloc _) rfl ?_ (by simp; omega) (by have := HB.out; simp; omega) ?_)
        · intro j hj
          match j, hj with
          | 0, _ => simp [HU.out]
        · intro v' w1 hown' hb'
          go_wp2
          rw [HT.out]
          go_roundw
          case rel => exact ⟨z / 128, l ++ [c], rfl, by omega, HS.out.1, HS.out.2.1, hown', (hb.alloc HB.out _).trans hb', HS.out.2.2⟩
          case measure => simp [intOf]; omega
      · obtain ⟨c, hc⟩ : ∃ c : UInt8, c = UInt8.ofNat z.toNat := ⟨_, rfl⟩
        have HU := Lib.hid (u8_low z hz0 (by omega))
        rw [← hc] at HU
        have HS := Lib.hid (wi_last n l z c hz0 (by omega) hc hg)
        have hlt2 : z < 128 := by omega
        clear hz hg hc hlt
        go_wp2_with (at_builtin; refine step_appB rfl _ _ rfl w.heap.size _ l [c] 1 wr.heap.size rfl (hown.alloc _) rfl ?_ (by simp; omega) (by have := HB.out; simp; omega) ?_)
        · simp [← HU.out]
        · intro v' w1 hown' hb'
          go_wp2_with (refine step_strO rfl _ rfl w.heap.size _ _ rfl hown' ?_)
          go_ret
          exact ⟨ret_str HS.out, (hb.alloc HB.out _).trans hb'⟩
  · have HE := Lib.hid (zig_ref1 n hn h0)
    go_enter Try.func47, Try.ntmps47
    go_wp2
    rw [HE.out]
    clear h0 h1 hn
    go_loopw [3, 4] (fun u b wr => ∃ (z : Int) (l : List UInt8), u = .int .u64 z ∧ 0 ≤ z ∧ z.toNat < 128 ^ (9 - l.length) * 2 ∧ l.length ≤ 9 ∧ OwnB wr w.heap.size b l ∧ Below w.heap.size w wr ∧ l ++ grp z.toNat = enc n) (fun u _ _ => (intOf u).toNat)
    case atStart => exact ⟨(zig n : Int), [], rfl, by omega, by have := HL.out; simp; omega, by simp, OwnB.nil _ _, Below.refl _ _, rfl⟩
    case round =>
      obtain ⟨z, l, rfl, hz0, hz, hl, hown, hb, hg⟩ := hrel
      have HB := Lib.hid hb.size
      by_cases hlt : 128 ≤ z
      · obtain ⟨c, hc⟩ : ∃ c : UInt8, c = UInt8.ofNat (z.toNat % 128 + 128) := ⟨_, rfl⟩
        have HT := Lib.hid (wi_quo l.length z hz0 hz)
        have HU := Lib.hid (u8_top2 z hz0)
        rw [← hc] at HU
        have HS := Lib.hid (wi_step n l z c hz0 hlt hz hl hc hg)
        clear hz hg hc
        go_wp2_with (at_builtin; refine step_appB rfl _ _ rfl w.heap.size _ l [c] 1 wr.heap.size rfl (hown.alloc _) rfl ?_ (by simp; omega) (by have := HB.out; simp; omega) ?_)
        · intro j hj
          match j, hj with
          | 0, _ => simp [HU.out]
        · intro v' w1 hown' hb'
          go_wp2
          rw [HT.out]
          go_roundw
          case rel => exact ⟨z / 128, l ++ [c], rfl, by omega, HS.out.1, HS.out.2.1, hown', (hb.alloc HB.out _).trans hb', HS.out.2.2⟩
          case measure => simp [intOf]; omega
      · obtain ⟨c, hc⟩ : ∃ c : UInt8, c = UInt8.ofNat z.toNat := ⟨_, rfl⟩
        have HU := Lib.hid (u8_low z hz0 (by omega))
        rw [← hc] at HU
        have HS := Lib.hid (wi_last n l z c hz0 (by omega) hc hg)
        have hlt2 : z < 128 := by omega
        clear hz hg hc hlt
        go_wp2_with (at_builtin; refine step_appB rfl _ _ rfl w.heap.size _ l [c] 1 wr.heap.size rfl (hown.alloc _) rfl ?_ (by simp; omega) (by have := HB.out; simp; omega) ?_)
        · simp [← HU.out]
        · intro v' w1 hown' hb'
          go_wp2_with (refine step_strO rfl _ rfl w.heap.size _ _ rfl hown' ?_)
          go_ret
          exact ⟨ret_str HS.out, (hb.alloc HB.out _).trans hb'⟩
end Go.Proofs.Ytbbfbeacgnimpaa
