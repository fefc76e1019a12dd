/-
  The walks of the functions on the bytes of keys and checksums, the program's and the reference's: each returns the plain list of bytes, and nothing that was there before has changed.
-/
import Derived.Test.YtnglepapodncbaaDigA
open Go Go.RowKit Go.Proofs
namespace Go.Proofs.Ytnglepapodncbaa
open Hub

theorem sum4_vals (n : Int) (h0 : 0 ≤ n) (h1 : n ≤ 4294967295) : vals (sum4 n.toNat) = [.int .u8 (n / 16777216), .int .u8 (n / 65536 % 256), .int .u8 (n / 256 % 256), .int .u8 (n % 256)] := by
  simp only [vals, sum4, List.map_cons, List.map_nil, byteAt_int n _ h0]
  rw [show n / ((256 ^ 3 : Nat) : Int) % 256 = n / 16777216 from by omega, show n / ((256 ^ 2 : Nat) : Int) % 256 = n / 65536 % 256 from by omega, show n / ((256 ^ 1 : Nat) : Int) % 256 = n / 256 % 256 from by omega, show n / ((256 ^ 0 : Nat) : Int) % 256 = n % 256 from by omega]
theorem sum4_str (n : Int) (h0 : 0 ≤ n) (h1 : n ≤ 4294967295) : strOfNums [n / 16777216, n / 65536 % 256, n / 256 % 256, n % 256] = mk (sum4 n.toNat) := by
  rw [strOfNums_mk]
  simp only [List.map_cons, List.map_nil]
  rw [show n / 16777216 = n / ((256 ^ 3 : Nat) : Int) % 256 from by omega, show n / 65536 % 256 = n / ((256 ^ 2 : Nat) : Int) % 256 from by omega, show n / 256 % 256 = n / ((256 ^ 1 : Nat) : Int) % 256 from by omega, show n % 256 = n / ((256 ^ 0 : Nat) : Int) % 256 from by omega]
  simp only [byte_int n _ h0]; rfl
theorem key8_vals (n : Int) (h0 : 0 ≤ n) (h1 : n ≤ 18446744073709551615) : vals (key8 n.toNat) = [.int .u8 (n / 72057594037927936), .int .u8 (n / 281474976710656 % 256), .int .u8 (n / 1099511627776 % 256), .int .u8 (n / 4294967296 % 256), .int .u8 (n / 16777216 % 256), .int .u8 (n / 65536 % 256), .int .u8 (n / 256 % 256), .int .u8 (n % 256)] := by
  simp only [vals, key8, List.map_cons, List.map_nil, byteAt_int n _ h0]
  rw [show n / ((256 ^ 7 : Nat) : Int) % 256 = n / 72057594037927936 from by omega, show n / ((256 ^ 6 : Nat) : Int) % 256 = n / 281474976710656 % 256 from by omega, show n / ((256 ^ 5 : Nat) : Int) % 256 = n / 1099511627776 % 256 from by omega, show n / ((256 ^ 4 : Nat) : Int) % 256 = n / 4294967296 % 256 from by omega,
    show n / ((256 ^ 3 : Nat) : Int) % 256 = n / 16777216 % 256 from by omega, show n / ((256 ^ 2 : Nat) : Int) % 256 = n / 65536 % 256 from by omega, show n / ((256 ^ 1 : Nat) : Int) % 256 = n / 256 % 256 from by omega, show n / ((256 ^ 0 : Nat) : Int) % 256 = n % 256 from by omega]

theorem one_byte (n : Int) (k : Nat) (h0 : 0 ≤ n) : bl (strOfNums [n / (256 ^ k : Nat) % 256]) = [byteAt n.toNat k] := by
  rw [strOfNums_mk, bl_mk]; simp only [List.map_cons, List.map_nil, byte_int n _ h0]
theorem key8_str (n : Int) (h0 : 0 ≤ n) (h1 : n ≤ 18446744073709551615) : strOfNums [n / 72057594037927936] ++ strOfNums [n / 281474976710656 % 256] ++ strOfNums [n / 1099511627776 % 256] ++ strOfNums [n / 4294967296 % 256] ++ strOfNums [n / 16777216 % 256] ++ strOfNums [n / 65536 % 256] ++ strOfNums [n / 256 % 256] ++ strOfNums [n % 256] = mk (key8 n.toNat) := by
  rw [show n / 72057594037927936 = n / ((256 ^ 7 : Nat) : Int) % 256 from by omega, show n / 281474976710656 % 256 = n / ((256 ^ 6 : Nat) : Int) % 256 from by omega, show n / 1099511627776 % 256 = n / ((256 ^ 5 : Nat) : Int) % 256 from by omega, show n / 4294967296 % 256 = n / ((256 ^ 4 : Nat) : Int) % 256 from by omega,
    show n / 16777216 % 256 = n / ((256 ^ 3 : Nat) : Int) % 256 from by omega, show n / 65536 % 256 = n / ((256 ^ 2 : Nat) : Int) % 256 from by omega, show n / 256 % 256 = n / ((256 ^ 1 : Nat) : Int) % 256 from by omega, show n % 256 = n / ((256 ^ 0 : Nat) : Int) % 256 from by omega]
  apply bl_inj
  simp only [bl_append, one_byte n _ h0, bl_mk]
  rfl

set_option maxHeartbeats 1000000 in
theorem refSumBytes_any (n : Int) (w : World) (h0 : 0 ≤ n) (h1 : n ≤ 4294967295) :
    Calls Try.prog 40 #[.int .i64 n] w fun e w' => e = .returned (.string (mk (sum4 n.toNat))) ∧ Below w.heap.size w w' := by
  have hk := conv_lit4 (P := Try.prog) 54 9 5 5 Try.underlying54 Try.underlying5 Try.underlying9
  go_enter Try.func40, Try.ntmps40
  go_wp2
  go_ret
  exact ⟨ret_str (sum4_str n h0 h1), (Below.refl _ _).alloc (Nat.le_refl _) _⟩

end Go.Proofs.Ytnglepapodncbaa
