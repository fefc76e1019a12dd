/-
  The walk of the reference's CRC-16: it returns the plain function of its string.
-/
import Derived.Test.YtiicjbhlcmmijaaProg
import Derived.Test.YtiicjbhlcmmijaaLib
import Derived.WalkSpells
import Derived.WalkLawsBesides
import Derived.Lib.Hide
open Go Go.RowKit Go.Proofs
namespace Go.Proofs.Ytiicjbhlcmmijaa
open Hub

set_option maxHeartbeats 400000 in
theorem refCrc16_any (s : ByteArray) (w : World) (hs : s.size ≤ 1099511627776) :
    Calls Try.prog 26 #[.string s] w fun e w' => e = .returned (.int .i64 ((crc16 (bl s)).toNat : Int)) ∧ w = w' := by
  go_enter Try.func26, Try.ntmps26
  go_wp2
  go_loop [3, 4] (fun v i => ∃ k : Nat, k ≤ s.size ∧ i = .int .i64 k ∧ v = .int .i64 ((crc16 ((bl s).take k)).toNat : Int)) (fun _ i => s.size - (intOf i).toNat)
  case atStart => exact ⟨0, Nat.zero_le _, rfl, rfl⟩
  case round =>
    obtain ⟨k, hk, rfl, rfl⟩ := hrel
    by_cases hlt : k < s.size
    · have hn : crc16 ((bl s).take (k + 1)) = byte16 (crc16 ((bl s).take k)) s[k] := crc16_take (bl s) k (by rw [size_bl]; exact hlt)
      have HN := Lib.hid hn
      clear hn
      generalize crc16 ((bl s).take k) = r at *
      go_wp2
      rw [ref16_in]
      go_loop [3, 5] (fun v i => ∃ j : Nat, j ≤ 8 ∧ i = .int .i64 j ∧ v = .int .i64 ((iter step16 j (r ^^^ (BitVec.ofNat 16 s[k].toNat <<< 8))).toNat : Int)) (fun _ i => 8 - (intOf i).toNat)
      case atStart => exact ⟨0, by omega, rfl, rfl⟩
      case round =>
        obtain ⟨j, hj, rfl, rfl⟩ := hrel
        by_cases hj8 : j < 8
        · have HS := Lib.hid (show iter step16 (j + 1) (r ^^^ (BitVec.ofNat 16 s[k].toNat <<< 8)) = step16 (iter step16 j (r ^^^ (BitVec.ofNat 16 s[k].toNat <<< 8))) from rfl)
          generalize iter step16 j (r ^^^ (BitVec.ofNat 16 s[k].toNat <<< 8)) = q at *
          have hq : (q.toNat : Int) ≤ 65535 := by have := q.isLt; omega
          have hq0 : 0 ≤ (q.toNat : Int) := by omega
          have HY := Lib.hid (ref16_yes q)
          have HNo := Lib.hid (ref16_no q)
          generalize (q.toNat : Int) = n at *
          by_cases hb : 65536 ≤ n * 2
          · have HB := Lib.hid (HY.out hb)
            go_wp2
            go_round
            case rel => exact ⟨j + 1, by omega, by go_num, by rw [HS.out, HB.out]⟩
            case measure => simp [intOf]; omega
          · have HB := Lib.hid (HNo.out hb)
            go_wp2
            go_round
            case rel => exact ⟨j + 1, by omega, by go_num, by rw [HS.out, HB.out]⟩
            case measure => simp [intOf]; omega
        · obtain rfl : j = 8 := by omega
          go_wp2
          go_round
          case rel => exact ⟨k + 1, by omega, by go_num, by rw [HN.out]; rfl⟩
          case measure => simp [intOf]; omega
    · obtain rfl : k = s.size := by omega
      go_wp2
      go_ret
      exact ⟨ret_int (by rw [take_bl]), rfl⟩
end Go.Proofs.Ytiicjbhlcmmijaa
