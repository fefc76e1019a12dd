/-
  The walk of the reading of a number, the program's.
-/
import Derived.Test.YtbbfbeacgnimpaaProg
import Derived.Test.YtbbfbeacgnimpaaWir
import Derived.Test.YtbbfbeacgnimpaaWirA
open Go Go.RowKit Go.Proofs
namespace Go.Proofs.Ytbbfbeacgnimpaa
namespace Hub
/-- How many bytes were read. -/
def viUsed (l : List UInt8) : Int := if (vi 0 0 l).1 = 0 then (l.length : Int) - ((vi 0 0 l).2.2.length : Int) else 0

theorem and127_nat : ∀ x : Fin 256, (x.val &&& 127) = x.val % 128 := by decide +kernel
theorem bits_and_nat (k : IntKind) (a b : Nat) (ha : a < 2 ^ k.bits) (hb : b < 2 ^ k.bits) : bits .and k (a : Int) (b : Int) = k.wrap ((a &&& b : Nat) : Int) := by
  simp only [bits, BitVec.ofInt_natCast, BitVec.toNat_and, BitVec.toNat_ofNat, Nat.mod_eq_of_lt ha, Nat.mod_eq_of_lt hb]
theorem u8_and127 (c : UInt8) : bits .and .u8 (c.toNat : Int) 127 = ((c.toNat % 128 : Nat) : Int) := by
  have hc := c.toNat_lt
  have f := and127_nat ⟨c.toNat, by omega⟩
  simp only at f
  rw [show (127 : Int) = ((127 : Nat) : Int) from rfl, bits_and_nat .u8 _ _ (by simp [IntKind.bits]; omega) (by simp [IntKind.bits]), f]
  exact IntWalk.u8_in _ ⟨by omega, by omega⟩
theorem pow128 (k : Nat) : 2 ^ (7 * k) = 128 ^ k := by rw [Nat.pow_mul]
theorem or_add (z a k : Nat) (hz : z < 128 ^ k) : z ||| a * 128 ^ k = z + a * 128 ^ k := by
  rw [← pow128] at *
  rw [Nat.or_comm, Nat.mul_comm, ← Nat.two_pow_add_eq_or_of_lt hz, Nat.add_comm]
theorem vi_val_lt (z : Nat) (c : UInt8) (k : Nat) (hz : z < 128 ^ k) (hk : k ≤ 9) (hc : k = 9 → c.toNat ≤ 1) : z + c.toNat % 128 * 128 ^ k < 18446744073709551616 := by
  by_cases h9 : k = 9
  · subst h9
    have h1 := hc rfl
    have : c.toNat % 128 * 128 ^ 9 ≤ 1 * 128 ^ 9 := Nat.mul_le_mul_right _ (by omega)
    omega
  · have h1 : c.toNat % 128 * 128 ^ k ≤ 127 * 128 ^ k := Nat.mul_le_mul_right _ (by omega)
    have h2 : 128 ^ (k + 1) ≤ 128 ^ 9 := Nat.pow_le_pow_right (by decide) (by omega)
    rw [Nat.pow_succ] at h2
    omega
theorem vi_or (z : Int) (c : UInt8) (k : Nat) (hz0 : 0 ≤ z) (hz : z.toNat < 128 ^ k) (hk : k ≤ 9) (hc : k = 9 → c.toNat ≤ 1) :
    bits .or .u64 z (IntKind.u64.wrap (IntKind.u64.wrap (bits .and .u8 (c.toNat : Int) 127) * 2 ^ (7 * k))) = ((z.toNat + c.toNat % 128 * 128 ^ k : Nat) : Int) := by
  have hv := vi_val_lt z.toNat c k hz hk hc
  rw [u8_and127, IntWalk.u64_in ((c.toNat % 128 : Nat) : Int) ⟨by omega, by omega⟩]
  have e : ((c.toNat % 128 : Nat) : Int) * 2 ^ (7 * k) = ((c.toNat % 128 * 128 ^ k : Nat) : Int) := by
    rw [← pow128]; push_cast; rfl
  rw [e, IntWalk.u64_in _ ⟨by omega, by omega⟩, show z = ((z.toNat : Nat) : Int) from by omega, Int.toNat_natCast, bits_or_nat .u64 _ _ (by simp only [IntKind.bits]; omega) (by simp only [IntKind.bits]; omega), or_add _ _ _ hz]
  exact IntWalk.u64_in _ ⟨by omega, by omega⟩
theorem vi_or0 (z : Int) (c : UInt8) (hz0 : 0 ≤ z) (hz : z.toNat < 128 ^ 0) :
    bits .or .u64 z (IntKind.u64.wrap (IntKind.u64.wrap (bits .and .u8 (c.toNat : Int) 127))) = ((z.toNat + c.toNat % 128 * 128 ^ 0 : Nat) : Int) := by
  have h := vi_or z c 0 hz0 hz (Nat.zero_le _) (fun h => by omega)
  rw [show (2 : Int) ^ (7 * 0) = 1 from rfl, Int.mul_one] at h
  exact h
theorem vi_or9 (z : Int) (c : UInt8) (hz0 : 0 ≤ z) (hz : z.toNat < 128 ^ 9) (hc : c.toNat ≤ 1) :
    bits .or .u64 z (IntKind.u64.wrap (IntKind.u64.wrap (bits .and .u8 (c.toNat : Int) 127) * 9223372036854775808)) = ((z.toNat + c.toNat % 128 * 128 ^ 9 : Nat) : Int) :=
  vi_or z c 9 hz0 hz (Nat.le_refl _) (fun _ => hc)
section
variable (s : ByteArray) (z : Int) (k : Nat) (hk : k < s.size) (hv : vi 0 0 (bl s) = vi k z.toNat ((bl s).drop k))
include hv
theorem vi_head : vi 0 0 (bl s) = vi k z.toNat (s[k] :: (bl s).drop (k + 1)) := by
  rw [hv, getElem_bl s k hk, List.drop_eq_getElem_cons]
theorem vi_bad (h : (0 < k ∧ s[k].toNat = 0) ∨ (k = 9 ∧ 1 < s[k].toNat)) : ((vi 0 0 (bl s)).2.1 : Int) = 0 ∧ viUsed (bl s) = 0 ∧ (vi 0 0 (bl s)).1 = 4 := by
  rw [viUsed, vi_head s z k hk hv, vi_cons, if_pos h]; simp
theorem vi_end (h : ¬ ((0 < k ∧ s[k].toNat = 0) ∨ (k = 9 ∧ 1 < s[k].toNat))) (h7 : s[k].toNat < 128) : ((vi 0 0 (bl s)).2.1 : Int) = ((z.toNat + s[k].toNat % 128 * 128 ^ k : Nat) : Int) ∧ viUsed (bl s) = k + 1 ∧ (vi 0 0 (bl s)).1 = 0 := by
  have e : s[k].toNat % 128 = s[k].toNat := by omega
  have hz := size_bl s
  rw [viUsed, vi_head s z k hk hv, vi_cons, if_neg h, if_pos h7, if_pos rfl, e]
  refine ⟨rfl, ?_, rfl⟩
  simp only [List.length_drop]; omega
theorem vi_go (h : ¬ ((0 < k ∧ s[k].toNat = 0) ∨ (k = 9 ∧ 1 < s[k].toNat))) (h7 : 128 ≤ s[k].toNat) (hz : z.toNat < 128 ^ k) : z.toNat + s[k].toNat % 128 * 128 ^ k < 128 ^ (k + 1) ∧ vi 0 0 (bl s) = vi (k + 1) (z.toNat + s[k].toNat % 128 * 128 ^ k) ((bl s).drop (k + 1)) := by
  have hc := s[k].toNat_lt
  have e : s[k].toNat % 128 = s[k].toNat - 128 := by omega
  refine ⟨?_, ?_⟩
  · have h1 : s[k].toNat % 128 * 128 ^ k ≤ 127 * 128 ^ k := Nat.mul_le_mul_right _ (by omega)
    rw [Nat.pow_succ]; omega
  · rw [vi_head s z k hk hv, vi_cons, if_neg h, if_neg (by omega), e]
end
theorem vi_short (s : ByteArray) (z k : Nat) (hk : k = s.size) (hv : vi 0 0 (bl s) = vi k z ((bl s).drop k)) : ((vi 0 0 (bl s)).2.1 : Int) = 0 ∧ viUsed (bl s) = 0 ∧ (vi 0 0 (bl s)).1 = 5 := by
  have : (bl s).drop k = [] := List.drop_eq_nil_of_le (by rw [size_bl]; omega)
  rw [viUsed, hv, this, vi_nil]; simp
end Hub
open Hub

set_option maxRecDepth 20000 in
set_option maxHeartbeats 1000000 in
theorem wVarint_any (s : ByteArray) (w : World) (hs : s.size ≤ 1099511627776) :
    Calls Try.prog 57 #[.string s] w fun e w' => e = .returned (.tuple #[.int .u64 ((vi 0 0 (bl s)).2.1 : Nat), .int .i64 (viUsed (bl s)), .int .i64 (vi 0 0 (bl s)).1]) ∧ w = w' := by
  obtain ⟨ra, hra⟩ : ∃ ra : Int, ra = ((vi 0 0 (bl s)).2.1 : Nat) := ⟨_, rfl⟩
  obtain ⟨rb, hrb⟩ : ∃ rb : Int, rb = viUsed (bl s) := ⟨_, rfl⟩
  obtain ⟨rc, hrc⟩ : ∃ rc : Int, rc = (vi 0 0 (bl s)).1 := ⟨_, rfl⟩
  rw [← hra, ← hrb, ← hrc]
  have HR := Lib.hid (And.intro hra (And.intro hrb hrc))
  clear hra hrb hrc
  go_enter Try.func57, Try.ntmps57
  go_wp2
  go_loop [5, 10] (fun u i => ∃ (k : Nat) (z : Int), k ≤ s.size ∧ k ≤ 9 ∧ i = .int .i64 k ∧ u = .int .u64 z ∧ 0 ≤ z ∧ z.toNat < 128 ^ k ∧ vi 0 0 (bl s) = vi k z.toNat ((bl s).drop k)) (fun _ i => s.size - (intOf i).toNat)
  case atStart => exact ⟨0, 0, Nat.zero_le _, by omega, rfl, rfl, by omega, by simp, rfl⟩
  case round =>
    obtain ⟨k, z, hk, hk9, rfl, rfl, hz0, hz, hv⟩ := hrel
    by_cases hlt : k < s.size
    · have HZ := Lib.hid hz
      have HBad := Lib.hid (vi_bad s z k hlt hv)
      have HEnd := Lib.hid (vi_end s z k hlt hv)
      have HGo := Lib.hid (fun h h7 => vi_go s z k hlt hv h h7 hz)
      have HOr1 := Lib.hid (vi_or z s[k] k hz0 hz hk9)
      clear hz hv
      by_cases hbad : (0 < k ∧ s[k].toNat = 0) ∨ (k = 9 ∧ 1 < s[k].toNat)
      · have HB := Lib.hid (HBad.out hbad)
        clear HBad HEnd HGo
        have hd : (0 < k ∧ s[k].toNat = 0) ∨ (k = 9 ∧ ¬ s[k].toNat = 0 ∧ 1 < s[k].toNat) := by omega
        clear hbad
        rcases hd with ⟨h1, h2⟩ | ⟨h1, h2, h3⟩
        · go_wp2
          go_ret3
          exact ⟨by rw [HR.out.1, HR.out.2.1, HR.out.2.2, HB.out.1, HB.out.2.1, HB.out.2.2]; rfl, rfl⟩
        · subst h1
          have h4 : (1 : Int) < (s[9].toNat : Int) := by omega
          go_wp2
          all_goals first | (exfalso; omega) | (go_ret3; exact ⟨by rw [HR.out.1, HR.out.2.1, HR.out.2.2, HB.out.1, HB.out.2.1, HB.out.2.2]; rfl, rfl⟩)
      · have HOr := Lib.hid (HOr1.out (by omega))
        have h1 : k = 0 ∨ (0 < k ∧ ¬ s[k].toNat = 0) := by omega
        have HE := Lib.hid (HEnd.out hbad)
        have HG := Lib.hid (HGo.out hbad)
        have hn : k = 9 → s[k].toNat ≤ 1 := by omega
        clear HBad HEnd HGo HOr1 hbad
        by_cases h7 : s[k].toNat < 128
        · have HE2 := Lib.hid (HE.out h7)
          have h7i : (s[k].toNat : Int) < 128 := by omega
          clear HE HG
          by_cases h9 : k = 9
          · have h1' := hn h9
            subst h9
            have h2 : ¬ s[9].toNat = 0 := by omega
            have h3 : (s[9].toNat : Int) ≤ 1 := by omega
            clear h1 hn
            have HOr9 := Lib.hid (vi_or9 z s[9] hz0 HZ.out h1')
            clear h1'
            go_wp2
            all_goals first | (exfalso; omega) | (exfalso; rename_i hx _; simp at hx; omega) | (go_ret3; refine ⟨?_, rfl⟩; rw [HR.out.1, HR.out.2.1, HR.out.2.2, HE2.out.1, HE2.out.2.1, HE2.out.2.2, ← HOr9.out]; rfl)
          · clear hn
            rcases h1 with h1 | ⟨h1, h2⟩
            · subst h1
              have HOr0 := Lib.hid (vi_or0 z s[0] hz0 HZ.out)
              go_wp2
              go_ret3
              refine ⟨?_, rfl⟩; rw [HR.out.1, HR.out.2.1, HR.out.2.2, HE2.out.1, HE2.out.2.1, HE2.out.2.2, ← HOr0.out]
              rfl
            · go_wp2
              go_ret3
              exact ⟨by rw [HR.out.1, HR.out.2.1, HR.out.2.2, HE2.out.1, HE2.out.2.1, HE2.out.2.2, ← HOr.out]; rfl, rfl⟩
        · have h9 : ¬ k = 9 := by omega
          have h7i : 128 ≤ (s[k].toNat : Int) := by omega
          have HG2 := Lib.hid (HG.out (by omega))
          clear HE HG hn h7
          rcases h1 with h1 | ⟨h1, h2⟩
          · subst h1
            have HOr0 := Lib.hid (vi_or0 z s[0] hz0 HZ.out)
            go_wp2
            rw [HOr0.out]
            go_round
            case rel => exact ⟨1, _, by omega, by omega, by go_num, rfl, by omega, HG2.out.1, HG2.out.2⟩
            case measure => simp [intOf]; omega
          · go_wp2
            rw [HOr.out]
            go_round
            case rel => exact ⟨k + 1, _, by omega, by omega, by go_num, rfl, by omega, HG2.out.1, HG2.out.2⟩
            case measure => simp [intOf]; omega
    · obtain rfl : k = s.size := by omega
      have HB := Lib.hid (vi_short s z.toNat _ rfl hv)
      clear hz hv
      go_wp2
      go_ret3
      exact ⟨by rw [HR.out.1, HR.out.2.1, HR.out.2.2, HB.out.1, HB.out.2.1, HB.out.2.2]; rfl, rfl⟩
end Go.Proofs.Ytbbfbeacgnimpaa
