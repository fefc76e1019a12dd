/-
  The walks of the two redundancy checks and the hash, the program's and the reference's: each returns the plain function of its string.
-/
import Derived.Test.YtegngjdeifbdiaaProg
import Derived.Test.YtegngjdeifbdiaaLib
import Derived.WalkSpells
import Derived.WalkLawsBesides
import Derived.Lib.Hide
open Go Go.RowKit Go.Proofs
namespace Go.Proofs.Ytegngjdeifbdiaa
open Hub



set_option maxHeartbeats 400000 in
theorem fnv_any (s : ByteArray) (w : World) (hs : s.size ≤ 1099511627776) :
    Calls Try.prog 48 #[.string s] w fun e w' => e = .returned (.int .u64 ((fnv (bl s)).toNat : Int)) ∧ w = w' := by
  go_enter Try.func48, Try.ntmps48
  go_wp2
  go_loop [3, 4] (fun v i => ∃ k : Nat, k ≤ s.size ∧ i = .int .i64 k ∧ v = .int .u64 ((fnv ((bl s).take k)).toNat : Int)) (fun _ i => s.size - (intOf i).toNat)
  case atStart => exact ⟨0, Nat.zero_le _, rfl, rfl⟩
  case round =>
    obtain ⟨k, hk, rfl, rfl⟩ := hrel
    by_cases hlt : k < s.size
    · have hn : fnv ((bl s).take (k + 1)) = fnvStep (fnv ((bl s).take k)) s[k] := fnv_take (bl s) k (by rw [size_bl]; exact hlt)
      have HN := Lib.hid hn
      clear hn
      generalize fnv ((bl s).take k) = r at *
      go_wp2
      go_round
      case rel => exact ⟨k + 1, by omega, by go_num, by rw [HN.out, fnv_round]⟩
      case measure => simp [intOf]; omega
    · obtain rfl : k = s.size := by omega
      go_wp2
      go_ret
      exact ⟨ret_int (by rw [take_bl]), rfl⟩

set_option maxHeartbeats 400000 in
theorem refFnv_any (s : ByteArray) (w : World) (hs : s.size ≤ 1099511627776) :
    Calls Try.prog 49 #[.string s] w fun e w' => e = .returned (.int .u64 ((fnv (bl s)).toNat : Int)) ∧ w = w' := by
  go_enter Try.func49, Try.ntmps49
  go_wp2
  go_loop [3, 4] (fun v i => ∃ k : Nat, k ≤ s.size ∧ i = .int .i64 k ∧ v = .int .u64 ((fnv ((bl s).take k)).toNat : Int)) (fun _ i => s.size - (intOf i).toNat)
  case atStart => exact ⟨0, Nat.zero_le _, rfl, rfl⟩
  case round =>
    obtain ⟨k, hk, rfl, rfl⟩ := hrel
    by_cases hlt : k < s.size
    · have hn : fnv ((bl s).take (k + 1)) = fnvStep (fnv ((bl s).take k)) s[k] := fnv_take (bl s) k (by rw [size_bl]; exact hlt)
      have HN := Lib.hid hn
      clear hn
      generalize fnv ((bl s).take k) = r at *
      go_wp2
      go_round
      case rel => exact ⟨k + 1, by omega, by go_num, by rw [HN.out, fnv_round]⟩
      case measure => simp [intOf]; omega
    · obtain rfl : k = s.size := by omega
      go_wp2
      go_ret
      exact ⟨ret_int (by rw [take_bl]), rfl⟩
end Go.Proofs.Ytegngjdeifbdiaa
