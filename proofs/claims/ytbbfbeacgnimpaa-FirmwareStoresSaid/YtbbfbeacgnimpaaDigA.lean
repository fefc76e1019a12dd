/-
  The walks of the two redundancy checks and the hash, the program's and the reference's: each returns the plain function of its string.
-/
import Derived.Test.YtbbfbeacgnimpaaProg
import Derived.Test.YtbbfbeacgnimpaaLib
import Derived.WalkSpells
import Derived.WalkLawsBesides
import Derived.Lib.Hide
open Go Go.RowKit Go.Proofs
namespace Go.Proofs.Ytbbfbeacgnimpaa
open Hub



set_option maxHeartbeats 400000 in
theorem crc32_any (s : ByteArray) (w : World) (hs : s.size ≤ 1099511627776) :
    Calls Try.prog 49 #[.string s] w fun e w' => e = .returned (.int .i64 ((crc32 (bl s)).toNat : Int)) ∧ w = w' := by
  go_enter Try.func49, Try.ntmps49
  go_wp2
  go_loop [3, 4] (fun v i => ∃ k : Nat, k ≤ s.size ∧ i = .int .i64 k ∧ v = .int .u32 ((reg32 ((bl s).take k)).toNat : Int)) (fun _ i => s.size - (intOf i).toNat)
  case atStart => exact ⟨0, Nat.zero_le _, rfl, rfl⟩
  case round =>
    obtain ⟨k, hk, rfl, rfl⟩ := hrel
    by_cases hlt : k < s.size
    · have hn : reg32 ((bl s).take (k + 1)) = byte32 (reg32 ((bl s).take k)) s[k] := reg32_take (bl s) k (by rw [size_bl]; exact hlt)
      have HN := Lib.hid hn
      clear hn
      generalize reg32 ((bl s).take k) = r at *
      go_wp2
      rw [prog32_in]
      go_loop [3, 18] (fun v i => ∃ j : Nat, j ≤ 8 ∧ i = .int .i64 j ∧ v = .int .u32 ((iter step32 j (r ^^^ BitVec.ofNat 32 s[k].toNat)).toNat : Int)) (fun _ i => 8 - (intOf i).toNat)
      case atStart => exact ⟨0, by omega, rfl, rfl⟩
      case round =>
        obtain ⟨j, hj, rfl, rfl⟩ := hrel
        by_cases hj8 : j < 8
        · have HS := Lib.hid (show iter step32 (j + 1) (r ^^^ BitVec.ofNat 32 s[k].toNat) = step32 (iter step32 j (r ^^^ BitVec.ofNat 32 s[k].toNat)) from rfl)
          generalize iter step32 j (r ^^^ BitVec.ofNat 32 s[k].toNat) = q at *
          go_wp2
          · have h1 : (bits BinOp.and IntKind.u32 (q.toNat : Int) 1 == 1) = true := by assumption
            go_round
            case rel => exact ⟨j + 1, by omega, by go_num, by rw [HS.out, step32_yes .u32 q (by rw [and32_one] at h1; simpa using h1) (by simp)]⟩
            case measure => simp [intOf]; omega
          · have h1 : (bits BinOp.and IntKind.u32 (q.toNat : Int) 1 == 1) = false := by assumption
            go_round
            case rel => exact ⟨j + 1, by omega, by go_num, by rw [HS.out, step32_no q (by rw [and32_one] at h1; simpa using h1)]⟩
            case measure => simp [intOf]; omega
        · obtain rfl : j = 8 := by omega
          go_wp2
          go_round
          case rel => exact ⟨k + 1, by omega, by go_num, by rw [HN.out]; rfl⟩
          case measure => simp [intOf]; omega
    · obtain rfl : k = s.size := by omega
      go_wp2
      go_ret
      refine ⟨ret_int ?_, rfl⟩
      rw [crc32_toNat, take_bl, not32]

set_option maxHeartbeats 400000 in
theorem refCrc32_any (s : ByteArray) (w : World) (hs : s.size ≤ 1099511627776) :
    Calls Try.prog 65 #[.string s] w fun e w' => e = .returned (.int .i64 ((crc32 (bl s)).toNat : Int)) ∧ w = w' := by
  go_enter Try.func65, Try.ntmps65
  go_wp2
  go_loop [3, 4] (fun v i => ∃ k : Nat, k ≤ s.size ∧ i = .int .i64 k ∧ v = .int .i64 ((reg32 ((bl s).take k)).toNat : Int)) (fun _ i => s.size - (intOf i).toNat)
  case atStart => exact ⟨0, Nat.zero_le _, rfl, rfl⟩
  case round =>
    obtain ⟨k, hk, rfl, rfl⟩ := hrel
    by_cases hlt : k < s.size
    · have hn : reg32 ((bl s).take (k + 1)) = byte32 (reg32 ((bl s).take k)) s[k] := reg32_take (bl s) k (by rw [size_bl]; exact hlt)
      have HN := Lib.hid hn
      clear hn
      generalize reg32 ((bl s).take k) = r at *
      go_wp2
      rw [ref32_in]
      go_loop [3, 5] (fun v i => ∃ j : Nat, j ≤ 8 ∧ i = .int .i64 j ∧ v = .int .i64 ((iter step32 j (r ^^^ BitVec.ofNat 32 s[k].toNat)).toNat : Int)) (fun _ i => 8 - (intOf i).toNat)
      case atStart => exact ⟨0, by omega, rfl, rfl⟩
      case round =>
        obtain ⟨j, hj, rfl, rfl⟩ := hrel
        by_cases hj8 : j < 8
        · have HS := Lib.hid (show iter step32 (j + 1) (r ^^^ BitVec.ofNat 32 s[k].toNat) = step32 (iter step32 j (r ^^^ BitVec.ofNat 32 s[k].toNat)) from rfl)
          generalize iter step32 j (r ^^^ BitVec.ofNat 32 s[k].toNat) = q at *
          have hq : (q.toNat : Int) ≤ 4294967295 := by have := q.isLt; omega
          go_wp2
          · have h1 : ((q.toNat : Int) % 2 == 1) = true := by assumption
            go_round
            case rel => exact ⟨j + 1, by omega, by go_num, by rw [HS.out, step32_yes .i64 q (by simpa using h1) (by simp)]⟩
            case measure => simp [intOf]; omega
          · have h1 : ((q.toNat : Int) % 2 == 1) = false := by assumption
            go_round
            case rel => exact ⟨j + 1, by omega, by go_num, by rw [HS.out, step32_no q (by simpa using h1)]⟩
            case measure => simp [intOf]; omega
        · obtain rfl : j = 8 := by omega
          go_wp2
          go_round
          case rel => exact ⟨k + 1, by omega, by go_num, by rw [HN.out]; rfl⟩
          case measure => simp [intOf]; omega
    · obtain rfl : k = s.size := by omega
      go_wp2
      go_ret
      refine ⟨ret_int ?_, rfl⟩
      rw [crc32_toNat, take_bl]

end Go.Proofs.Ytbbfbeacgnimpaa
