/-
  The walks of the laws on linearity and on bursts: each returns true, and nothing that was there before has changed.
-/
import Derived.Test.YtelelaaijfjjkaaDigL
import Derived.Test.YtelelaaijfjjkaaDigP
open Go Go.RowKit Go.Proofs
namespace Go.Proofs.Ytelelaaijfjjkaa
open Hub

theorem burst_byte (x : Int) (k : Nat) (h0 : 0 ≤ x) : x / 2 ^ (8 * k) % 256 = ((byteAt x.toNat k).toNat : Int) := by
  rw [byteAt_int x k h0, show (256 : Nat) = 2 ^ 8 from rfl, ← Nat.pow_mul]; simp
theorem crc_ne {a b : BitVec 16} (h : a ≠ b) : ((a.toNat : Int) == (b.toNat : Int)) = false := by
  simp; intro e; exact h (BitVec.eq_of_toNat_eq (by omega))
theorem crc32_ne {a b : BitVec 32} (h : a ≠ b) : ((a.toNat : Int) != (b.toNat : Int)) = true := by
  simp; intro e; exact h (BitVec.eq_of_toNat_eq (by omega))
theorem conv_holds {P : Program} (src dst e : TypeId) (hs : P.underlying src = some (.slice e)) (he : P.underlying e = some (.int .u8)) (hd : P.underlying dst = some .string)
    (w : World) (B cap len : Nat) (l : List UInt8) (hl : l.length = len) (hc : HoldsB w B l) : (convert src dst (.slice (some ⟨B, 0, none⟩) len cap)).run P w = .ok (.string (mk l)) w := by
  subst hl
  exact run_convert_bytes_back (P := P) w src dst e ⟨B, 0, none⟩ cap l hs he hd (fun j hj => by rw [add_plain]; exact (hc.2 j hj).1)

set_option maxHeartbeats 2000000 in
theorem bursts_any (s : ByteArray) (at_ x : Int) (w : World) (hs : s.size ≤ maxLen) (g0 : -9223372036854775808 ≤ at_) (g1 : at_ ≤ 9223372036854775807) (x0 : 0 ≤ x) (_x1 : x ≤ 4294967295) :
    Calls Try.prog 8 #[.string s, .int .i64 at_, .int .u32 x] w fun e w' => e = .returned (.bool true) ∧ Below w.heap.size w w' := by
  unfold maxLen at hs
  by_cases hin : s.size ≤ 2000 ∧ 0 ≤ at_ ∧ at_ < s.size ∧ x ≠ 0
  · obtain ⟨hl, ha0, ha1, hx⟩ := hin
    have hx' : (x == 0) = false := by simpa using hx
    clear hx
    obtain ⟨p, rfl⟩ := Int.eq_ofNat_of_zero_le ha0
    clear g0 g1 ha0
    go_enter Try.func8, Try.ntmps8
    go_wp2_with (refine step_bytes rfl _ rfl _ rfl ?_; intro w1 cap hb1 hz1 hcap hB1)

    go_loopw [8, 9] (fun c i wr => ∃ k : Nat, k ≤ 4 ∧ p + k ≤ s.size ∧ i = .int .i64 k ∧ c = .bool (chg x.toNat k) ∧ Below w.heap.size w wr ∧ HoldsB wr w.heap.size (bur (bl s) p x.toNat k)) (fun _ i _ => 4 - (intOf i).toNat)
    case atStart => exact ⟨0, by omega, by omega, rfl, rfl, hb1, hB1⟩
    case round =>
      obtain ⟨k, hk4, hk, rfl, rfl, hb, hB⟩ := hrel
      by_cases hgo : k < 4 ∧ p + k < s.size
      · obtain ⟨hk3, hpk⟩ := hgo
        have hpl : p + k < (bur (bl s) p x.toNat k).length := by rw [bur_length, size_bl]; exact hpk
        obtain ⟨hx1, hx2⟩ := hB.2 _ hpl
        have hpk2 : (p : Int) + k < s.size := by omega
        have hk4' : decide ((k : Int) < 4) = true := by simp; omega
        have hv := burst_byte x k x0
        have hw := u8_xor_nat (bur (bl s) p x.toNat k)[p + k].toNat (byteAt x.toNat k).toNat (UInt8.toNat_lt _) (UInt8.toNat_lt _)
        rw [← UInt8.toNat_xor] at hw
        have HH0 := hB.set (p + k) hpl ((bur (bl s) p x.toNat k)[p + k] ^^^ byteAt x.toNat k)
        have hl2 : ((bur (bl s) p x.toNat k).set (p + k) ((bur (bl s) p x.toNat k)[p + k] ^^^ byteAt x.toNat k)).length = s.size := by rw [List.length_set, bur_length, size_bl]
        have hcv := fun hl3 => conv_holds (P := Try.prog) 33 9 5 Try.underlying33 Try.underlying5 Try.underlying9 _ w.heap.size cap s.size _ hl3 HH0
        have hcv := hcv hl2
        have hbn : bur (bl s) p x.toNat (k + 1) = (bur (bl s) p x.toNat k).set (p + k) ((bur (bl s) p x.toNat k)[p + k] ^^^ byteAt x.toNat k) := by rw [bur, getD_get hpl]
        have HQ0 : chg x.toNat (k + 1) = true → k = 1 → crc16 ((bur (bl s) p x.toNat k).set (p + k) ((bur (bl s) p x.toNat k)[p + k] ^^^ byteAt x.toNat k)) ≠ crc16 (bl s) := by
          intro h1 h2
          rw [← hbn]; subst h2
          exact burst16 (bl s) p x.toNat (by rw [size_bl]; omega) h1
        have HB0 := hb.setCell (p := ⟨w.heap.size, p + k, none⟩) (Nat.le_refl _) (.int .u8 (((bur (bl s) p x.toNat k)[p + k] ^^^ byteAt x.toNat k).toNat : Int))
        rw [← hbn] at HH0
        have HH := Lib.hid HH0
        have HB2 := Lib.hid HB0
        have HQ1 := Lib.hid HQ0
        have HL2 := Lib.hid hl2
        clear HH0 HB0 HQ0 hbn hl2
        have hn0 : chg x.toNat (k + 1) = (chg x.toNat k || decide (byteAt x.toNat k ≠ 0)) := rfl
        generalize (bur (bl s) p x.toNat k).set (p + k) ((bur (bl s) p x.toNat k)[p + k] ^^^ byteAt x.toNat k) = l2 at *
        generalize (bur (bl s) p x.toNat k)[p + k] ^^^ byteAt x.toNat k = nb at *
        generalize (bur (bl s) p x.toNat k)[p + k] = ob at *
        generalize byteAt x.toNat k = cb at *
        cases hch : chg x.toNat k with
        | true =>
          rw [hch, Bool.true_or] at hn0
          have HN := Lib.hid hn0
          clear hch hn0 hB
          by_cases hk1 : k = 1
          · have HQ := Lib.hid (crc_ne (HQ1.out HN.out hk1))
            have hk1' : ((k : Int) == 1) = true := by simp; omega
            clear hk1
            go_wp2_with fail
            refine (crc16_any _ _ (by rw [size_mk, HL2.out]; omega)).mono ?_
            rintro e w2 ⟨rfl, rfl⟩
            rw [bl_mk]
            go_wp2_with fail
            refine (crc16_any _ _ (by omega)).mono ?_
            rintro e w2 ⟨rfl, rfl⟩
            have hne := HQ.out
            go_wp2_with fail
            go_roundw
            case rel => exact ⟨k + 1, by omega, by omega, by go_num, by rw [HN.out], HB2.out, HH.out⟩
            case measure => simp [intOf]; omega
          · have hk1' : ((k : Int) == 1) = false := by simp; omega
            clear hcv
            go_wp2
            go_roundw
            case rel => exact ⟨k + 1, by omega, by omega, by go_num, by rw [HN.out], HB2.out, HH.out⟩
            case measure => simp [intOf]; omega
        | false =>
          rw [hch, Bool.false_or] at hn0
          clear hch hB
          by_cases hcz : cb = 0
          · have hcz' : ((cb.toNat : Int) != 0) = false := by simp [hcz]
            have HN := Lib.hid (show chg x.toNat (k + 1) = false from hn0.trans (by simp [hcz]))
            clear hcz
            clear hn0 hcv
            by_cases hk1 : k = 1
            · have hk1' : ((k : Int) == 1) = true := by simp; omega
              clear hk1
              go_wp2
              go_roundw
              case rel => exact ⟨k + 1, by omega, by omega, by go_num, by rw [HN.out], HB2.out, HH.out⟩
              case measure => simp [intOf]; omega
            · have hk1' : ((k : Int) == 1) = false := by simp; omega
              go_wp2
              go_roundw
              case rel => exact ⟨k + 1, by omega, by omega, by go_num, by rw [HN.out], HB2.out, HH.out⟩
              case measure => simp [intOf]; omega
          · have HN := Lib.hid (show chg x.toNat (k + 1) = true from hn0.trans (by simp [hcz]))
            clear hn0
            have hcz' : ((cb.toNat : Int) != 0) = true := by simp; intro h; exact hcz (zero_u8 h)
            clear hcz
            by_cases hk1 : k = 1
            · have HQ := Lib.hid (crc_ne (HQ1.out HN.out hk1))
              have hk1' : ((k : Int) == 1) = true := by simp; omega
              clear hk1
              go_wp2_with fail
              refine (crc16_any _ _ (by rw [size_mk, HL2.out]; omega)).mono ?_
              rintro e w2 ⟨rfl, rfl⟩
              rw [bl_mk]
              go_wp2_with fail
              refine (crc16_any _ _ (by omega)).mono ?_
              rintro e w2 ⟨rfl, rfl⟩
              have hne := HQ.out
              go_wp2_with fail
              go_roundw
              case rel => exact ⟨k + 1, by omega, by omega, by go_num, by rw [HN.out], HB2.out, HH.out⟩
              case measure => simp [intOf]; omega
            · have hk1' : ((k : Int) == 1) = false := by simp; omega
              clear hcv
              go_wp2
              go_roundw
              case rel => exact ⟨k + 1, by omega, by omega, by go_num, by rw [HN.out], HB2.out, HH.out⟩
              case measure => simp [intOf]; omega
      · have hl2 : (bur (bl s) p x.toNat k).length = s.size := by rw [bur_length, size_bl]
        by_cases hk3 : k < 4
        · have hk4' : decide ((k : Int) < 4) = true := by simp; omega
          have hpk2 : decide ((p : Int) + k < s.size) = false := by simp; omega
          have hpk3 : ¬ ((p : Int) + k < s.size) := by omega
          clear hgo
          cases hch : chg x.toNat k with
          | false =>
            go_wp2_with (go_at_call 10; refine (awake_any _).mono ?_; rintro e w5 ⟨rfl, hb5⟩)
            go_ret
            exact ⟨rfl, bt hb hb5⟩
          | true =>
            have HQ := Lib.hid (crc32_ne (burst32 (bl s) p x.toNat k hk4 (by rw [size_bl]; exact hk) hch))
            generalize bur (bl s) p x.toNat k = l at *
            go_wp2_with (refine step_tostr rfl _ rfl _ _ _ l rfl hl2 hB ?_)
            refine (crc32_any _ _ (by rw [size_mk]; omega)).mono ?_
            rintro e w2 ⟨rfl, rfl⟩
            rw [bl_mk]
            go_wp2_with fail
            refine (crc32_any _ _ (by omega)).mono ?_
            rintro e w2 ⟨rfl, rfl⟩
            have hne := HQ.out
            go_wp2_with fail
            refine (awake_any _).mono ?_
            rintro e w5 ⟨rfl, hb5⟩
            go_wp2_with fail
            go_ret
            exact ⟨rfl, bt hb hb5⟩
        · have hk4' : decide ((k : Int) < 4) = false := by simp; omega
          have hk5 : ¬ ((k : Int) < 4) := by omega
          clear hgo
          cases hch : chg x.toNat k with
          | false =>
            go_wp2_with (go_at_call 10; refine (awake_any _).mono ?_; rintro e w5 ⟨rfl, hb5⟩)
            go_ret
            exact ⟨rfl, bt hb hb5⟩
          | true =>
            have HQ := Lib.hid (crc32_ne (burst32 (bl s) p x.toNat k hk4 (by rw [size_bl]; exact hk) hch))
            generalize bur (bl s) p x.toNat k = l at *
            go_wp2_with (refine step_tostr rfl _ rfl _ _ _ l rfl hl2 hB ?_)
            refine (crc32_any _ _ (by rw [size_mk]; omega)).mono ?_
            rintro e w2 ⟨rfl, rfl⟩
            rw [bl_mk]
            go_wp2_with fail
            refine (crc32_any _ _ (by omega)).mono ?_
            rintro e w2 ⟨rfl, rfl⟩
            have hne := HQ.out
            go_wp2_with fail
            refine (awake_any _).mono ?_
            rintro e w5 ⟨rfl, hb5⟩
            go_wp2_with fail
            go_ret
            exact ⟨rfl, bt hb hb5⟩
  · by_cases h1 : s.size ≤ 2000
    · by_cases h2 : at_ < 0
      · go_enter Try.func8, Try.ntmps8
        go_wp2_with (go_at_call 10; refine (awake_any _).mono ?_; rintro e w1 ⟨rfl, hb⟩)
        go_ret
        exact ⟨rfl, hb⟩
      · by_cases h3 : (s.size : Int) ≤ at_
        · go_enter Try.func8, Try.ntmps8
          go_wp2_with (go_at_call 10; refine (awake_any _).mono ?_; rintro e w1 ⟨rfl, hb⟩)
          go_ret
          exact ⟨rfl, hb⟩
        · have h4 : (x == 0) = true := by
            by_cases h5 : x = 0
            · simp [h5]
            · exact absurd ⟨h1, by omega, by omega, h5⟩ hin
          clear hin
          go_enter Try.func8, Try.ntmps8
          go_wp2_with (go_at_call 10; refine (awake_any _).mono ?_; rintro e w1 ⟨rfl, hb⟩)
          go_ret
          exact ⟨rfl, hb⟩
    · go_enter Try.func8, Try.ntmps8
      go_wp2_with (go_at_call 10; refine (awake_any _).mono ?_; rintro e w1 ⟨rfl, hb⟩)
      go_ret
      exact ⟨rfl, hb⟩
end Go.Proofs.Ytelelaaijfjjkaa
