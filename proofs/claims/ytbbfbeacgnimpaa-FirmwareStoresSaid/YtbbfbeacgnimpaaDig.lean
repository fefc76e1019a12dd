/-
  The plain mathematics of layer 3: both redundancy checks on bit vectors, the hash, the keyed checksum, sealing and opening, on lists of bytes; no program in sight.
-/
import Derived.WalkKit
namespace Go.Proofs.Ytbbfbeacgnimpaa
namespace Hub
open Go.RowKit (wrap64 wrap32)

/-- The bytes of a string, and the string of a list of bytes. -/
def bl (s : ByteArray) : List UInt8 := s.data.toList
def mk (l : List UInt8) : ByteArray := ⟨l.toArray⟩
theorem bl_mk (l : List UInt8) : bl (mk l) = l := rfl
theorem mk_bl (s : ByteArray) : mk (bl s) = s := by cases s; rfl
theorem size_bl (s : ByteArray) : (bl s).length = s.size := by unfold bl; rw [Array.length_toList]; rfl
theorem size_mk (l : List UInt8) : (mk l).size = l.length := by unfold mk; rfl
theorem bl_append (a b : ByteArray) : bl (a ++ b) = bl a ++ bl b := by
  unfold bl; rw [ByteArray.data_append, Array.toList_append]
theorem append_eq (a b : ByteArray) : a ++ b = mk (bl a ++ bl b) := by rw [← bl_append, mk_bl]
theorem bl_inj {a b : ByteArray} (h : bl a = bl b) : a = b := by rw [← mk_bl a, ← mk_bl b, h]
theorem getElem_bl (s : ByteArray) (i : Nat) (h : i < s.size) : s[i] = (bl s)[i]'(by rw [size_bl]; exact h) := rfl

/-- f, n times. -/
def iter {α : Type} (f : α → α) : Nat → α → α
  | 0, a => a
  | n + 1, a => f (iter f n a)

def step16 (r : BitVec 16) : BitVec 16 := if 32768 ≤ r.toNat then (r <<< 1) ^^^ BitVec.ofNat 16 4129 else r <<< 1
def byte16 (r : BitVec 16) (c : UInt8) : BitVec 16 := iter step16 8 (r ^^^ (BitVec.ofNat 16 c.toNat <<< 8))
def crc16 (l : List UInt8) : BitVec 16 := l.foldl byte16 (BitVec.ofNat 16 65535)
def step32 (r : BitVec 32) : BitVec 32 := if r.toNat % 2 = 1 then (r >>> 1) ^^^ BitVec.ofNat 32 3988292384 else r >>> 1
def byte32 (r : BitVec 32) (c : UInt8) : BitVec 32 := iter step32 8 (r ^^^ BitVec.ofNat 32 c.toNat)
def reg32 (l : List UInt8) : BitVec 32 := l.foldl byte32 (BitVec.ofNat 32 4294967295)
def crc32 (l : List UInt8) : BitVec 32 := ~~~ (reg32 l)
def fnvStep (h : BitVec 64) (c : UInt8) : BitVec 64 := (h ^^^ BitVec.ofNat 64 c.toNat) * BitVec.ofNat 64 1099511628211
def fnv (l : List UInt8) : BitVec 64 := l.foldl fnvStep (BitVec.ofNat 64 14695981039346656037)
/-- The byte of n at the place 256^k. -/
def byteAt (n k : Nat) : UInt8 := UInt8.ofNat (n / 256 ^ k)
def key8 (n : Nat) : List UInt8 := [byteAt n 7, byteAt n 6, byteAt n 5, byteAt n 4, byteAt n 3, byteAt n 2, byteAt n 1, byteAt n 0]
def sum4 (n : Nat) : List UInt8 := [byteAt n 3, byteAt n 2, byteAt n 1, byteAt n 0]
def mac (key : Nat) (l : List UInt8) : Nat := (fnv (key8 key ++ l ++ key8 key)).toNat / 4294967296
def sealD (key : Nat) (l : List UInt8) : List UInt8 := l ++ sum4 (mac key l)
/-- What Open returns: the text and the error's number. -/
def openD (key : Nat) (l : List UInt8) : List UInt8 × Int :=
  if l.length < 4 then ([], 5) else
  if l.drop (l.length - 4) = sum4 (mac key (l.take (l.length - 4))) then (l.take (l.length - 4), 0) else ([], 6)

theorem foldl_take {α : Type} (f : α → UInt8 → α) (a : α) (l : List UInt8) (k : Nat) (h : k < l.length) : (l.take (k + 1)).foldl f a = f ((l.take k).foldl f a) l[k] := by
  rw [List.take_succ_eq_append_getElem h, List.foldl_append, List.foldl_cons, List.foldl_nil]
theorem crc16_take (l : List UInt8) (k : Nat) (h : k < l.length) : crc16 (l.take (k + 1)) = byte16 (crc16 (l.take k)) l[k] := foldl_take _ _ l k h
theorem reg32_take (l : List UInt8) (k : Nat) (h : k < l.length) : reg32 (l.take (k + 1)) = byte32 (reg32 (l.take k)) l[k] := foldl_take _ _ l k h
theorem fnv_take (l : List UInt8) (k : Nat) (h : k < l.length) : fnv (l.take (k + 1)) = fnvStep (fnv (l.take k)) l[k] := foldl_take _ _ l k h

/-! ### The walk's spellings -/
theorem bits_xor_nat (k : IntKind) (a b : Nat) (ha : a < 2 ^ k.bits) (hb : b < 2 ^ k.bits) : bits .xor k (a : Int) (b : Int) = k.wrap ((a ^^^ b : Nat) : Int) := by
  simp only [bits, BitVec.ofInt_natCast, BitVec.toNat_xor, BitVec.toNat_ofNat, Nat.mod_eq_of_lt ha, Nat.mod_eq_of_lt hb]

theorem i64_xor_nat (a b : Nat) (ha : a < 9223372036854775808) (hb : b < 9223372036854775808) : bits .xor .i64 (a : Int) (b : Int) = ((a ^^^ b : Nat) : Int) := by
  rw [bits_xor_nat .i64 a b (by simp [IntKind.bits]; omega) (by simp [IntKind.bits]; omega)]
  refine IntWalk.i64_in _ ⟨by omega, ?_⟩
  have : a ^^^ b < 2 ^ 63 := Nat.xor_lt_two_pow (by omega) (by omega)
  omega

theorem shl16_nat (a n : Nat) : IntKind.u16.wrap ((a : Int) * (2 ^ n : Nat)) = ((BitVec.ofNat 16 a <<< n).toNat : Int) := by
  rw [IntKind.wrap_u16, BitVec.toNat_shiftLeft, BitVec.toNat_ofNat, Nat.shiftLeft_eq]
  simp

theorem w16_in (c : UInt8) : IntKind.u16.wrap (c.toNat : Int) = (c.toNat : Int) := IntWalk.u16_in _ ⟨by omega, by have := c.toNat_lt; omega⟩
theorem w32_in (c : UInt8) : IntKind.u32.wrap (c.toNat : Int) = (c.toNat : Int) := IntWalk.u32_in _ ⟨by omega, by have := c.toNat_lt; omega⟩
theorem w64_in (c : UInt8) : IntKind.u64.wrap (c.toNat : Int) = (c.toNat : Int) := IntWalk.u64_in _ ⟨by omega, by have := c.toNat_lt; omega⟩

theorem prog16_in (r : BitVec 16) (c : UInt8) : bits .xor .u16 (r.toNat : Int) (IntKind.u16.wrap (IntKind.u16.wrap (c.toNat : Int) * 256)) = ((r ^^^ (BitVec.ofNat 16 c.toNat <<< 8)).toNat : Int) := by
  rw [w16_in, show ((c.toNat : Int) * 256) = ((c.toNat : Int) * (2 ^ 8 : Nat)) from rfl, shl16_nat, u16_xor_nat _ _ r.isLt (BitVec.isLt _), BitVec.toNat_xor]
theorem prog16_shl (r : BitVec 16) : IntKind.u16.wrap ((r.toNat : Int) * 2) = ((r <<< 1).toNat : Int) := by
  rw [show ((r.toNat : Int) * 2) = ((r.toNat : Int) * (2 ^ 1 : Nat)) from rfl, shl16_nat, BitVec.ofNat_toNat, BitVec.setWidth_eq]
theorem prog16_yes (r : BitVec 16) (h : ((r.toNat : Int) / 32768 == 1) = true) : bits .xor .u16 (IntKind.u16.wrap ((r.toNat : Int) * 2)) 4129 = ((step16 r).toNat : Int) := by
  have h1 : 32768 ≤ r.toNat := by have := r.isLt; simp at h; omega
  rw [prog16_shl, show (4129 : Int) = ((4129 : Nat) : Int) from rfl, u16_xor_nat _ _ (BitVec.isLt _) (by decide), step16, if_pos h1, BitVec.toNat_xor]; rfl
theorem prog16_no (r : BitVec 16) (h : ((r.toNat : Int) / 32768 == 1) = false) : IntKind.u16.wrap ((r.toNat : Int) * 2) = ((step16 r).toNat : Int) := by
  have h1 : ¬ 32768 ≤ r.toNat := by have := r.isLt; simp at h; omega
  rw [prog16_shl, step16, if_neg h1]
theorem w64_byte (c : UInt8) : wrap64 (c.toNat : Int) = (c.toNat : Int) := IntWalk.wrap64_in _ ⟨by omega, by have := c.toNat_lt; omega⟩
theorem shl8_toNat (c : UInt8) : (BitVec.ofNat 16 c.toNat <<< 8).toNat = c.toNat * 256 := by
  have := c.toNat_lt
  rw [BitVec.toNat_shiftLeft, BitVec.toNat_ofNat, Nat.shiftLeft_eq]; omega
theorem ref16_in (r : BitVec 16) (c : UInt8) : bits .xor .i64 (r.toNat : Int) (wrap64 (wrap64 (c.toNat : Int) * 256)) = ((r ^^^ (BitVec.ofNat 16 c.toNat <<< 8)).toNat : Int) := by
  have := c.toNat_lt
  have := r.isLt
  rw [w64_byte, IntWalk.wrap64_in _ ⟨by omega, by omega⟩, show ((c.toNat : Int) * 256) = ((c.toNat * 256 : Nat) : Int) from by simp, i64_xor_nat _ _ (by omega) (by omega), BitVec.toNat_xor, shl8_toNat]
theorem ref16_yes (q : BitVec 16) (h : 65536 ≤ (q.toNat : Int) * 2) : bits .xor .i64 ((q.toNat : Int) * 2 - 65536) 4129 = ((step16 q).toNat : Int) := by
  have hq := q.isLt
  have e : (q <<< 1).toNat = q.toNat * 2 - 65536 := by rw [BitVec.toNat_shiftLeft, Nat.shiftLeft_eq]; omega
  rw [show ((q.toNat : Int) * 2 - 65536) = ((q.toNat * 2 - 65536 : Nat) : Int) from by omega, show (4129 : Int) = ((4129 : Nat) : Int) from rfl, i64_xor_nat _ _ (by omega) (by decide), step16, if_pos (by omega), BitVec.toNat_xor, e]; rfl
theorem ref16_no (q : BitVec 16) (h : ¬ 65536 ≤ (q.toNat : Int) * 2) : (q.toNat : Int) * 2 = ((step16 q).toNat : Int) := by
  have hq := q.isLt
  have e : (q <<< 1).toNat = q.toNat * 2 := by rw [BitVec.toNat_shiftLeft, Nat.shiftLeft_eq]; omega
  rw [step16, if_neg (by omega), e]; omega

theorem of32_toNat (c : UInt8) : (BitVec.ofNat 32 c.toNat).toNat = c.toNat := by
  have := c.toNat_lt
  rw [BitVec.toNat_ofNat]; omega
theorem of64_toNat (c : UInt8) : (BitVec.ofNat 64 c.toNat).toNat = c.toNat := by
  have := c.toNat_lt
  rw [BitVec.toNat_ofNat]; omega
theorem prog32_in (r : BitVec 32) (c : UInt8) : bits .xor .u32 (r.toNat : Int) ((c.toNat : Int) % 4294967296) = ((r ^^^ BitVec.ofNat 32 c.toNat).toNat : Int) := by
  have := c.toNat_lt
  rw [Int.emod_eq_of_lt (by omega) (by omega), u32_xor_nat _ _ r.isLt (by omega), BitVec.toNat_xor, of32_toNat]
theorem ref32_in (r : BitVec 32) (c : UInt8) : bits .xor .i64 (r.toNat : Int) (wrap64 (c.toNat : Int)) = ((r ^^^ BitVec.ofNat 32 c.toNat).toNat : Int) := by
  have := c.toNat_lt
  have := r.isLt
  rw [w64_byte, i64_xor_nat _ _ (by omega) (by omega), BitVec.toNat_xor, of32_toNat]
theorem shr1_toNat (q : BitVec 32) : (q >>> 1).toNat = q.toNat / 2 := by rw [BitVec.toNat_ushiftRight]; rfl
theorem step32_yes (k : IntKind) (q : BitVec 32) (h : (q.toNat : Int) % 2 = 1) (hk : k = .u32 ∨ k = .i64) : bits .xor k ((q.toNat : Int) / 2) 3988292384 = ((step32 q).toNat : Int) := by
  have hq := q.isLt
  have e : ((q.toNat : Int) / 2) = ((q.toNat / 2 : Nat) : Int) := by omega
  have f : (3988292384 : Int) = ((3988292384 : Nat) : Int) := rfl
  rw [e, f, step32, if_pos (by omega), BitVec.toNat_xor, shr1_toNat]
  rcases hk with rfl | rfl
  · rw [u32_xor_nat _ _ (by omega) (by decide)]; rfl
  · rw [i64_xor_nat _ _ (by omega) (by decide)]; rfl
theorem step32_no (q : BitVec 32) (h : ¬ (q.toNat : Int) % 2 = 1) : (q.toNat : Int) / 2 = ((step32 q).toNat : Int) := by
  rw [step32, if_neg (by omega), shr1_toNat]; rfl
theorem crc32_toNat (l : List UInt8) : ((crc32 l).toNat : Int) = 4294967295 - ((reg32 l).toNat : Int) := by
  have := (reg32 l).isLt
  rw [crc32, BitVec.toNat_not]; omega
theorem fnv_round (r : BitVec 64) (c : UInt8) : IntKind.u64.wrap (bits .xor .u64 (r.toNat : Int) (IntKind.u64.wrap (c.toNat : Int)) * 1099511628211) = ((fnvStep r c).toNat : Int) := by
  have := c.toNat_lt
  rw [w64_in, u64_xor_nat _ _ r.isLt (by omega), fnvStep, BitVec.toNat_mul, BitVec.toNat_xor, of64_toNat, BitVec.toNat_ofNat]
  simp only [IntKind.wrap, IntKind.bits, IntKind.signed, Bool.false_and]
  rfl
theorem and32_one (q : BitVec 32) : bits .and .u32 (q.toNat : Int) 1 = (q.toNat : Int) % 2 := by
  rw [show (1 : Int) = ((1 : Nat) : Int) from rfl, u32_and_nat _ _ q.isLt (by decide), nat_mask1]; omega
theorem not32 (r : BitVec 32) : wrap64 (bits .xor .u32 IntKind.u32.max (r.toNat : Int)) = 4294967295 - (r.toNat : Int) := by
  have hr := r.isLt
  have e : IntKind.u32.max = ((4294967295 : Nat) : Int) := rfl
  have f : (4294967295 ^^^ r.toNat) = 4294967295 - r.toNat := by
    have g : (~~~ r) = (BitVec.allOnes 32 ^^^ r) := (BitVec.allOnes_xor).symm
    have k := congrArg BitVec.toNat g
    rw [BitVec.toNat_xor, BitVec.toNat_allOnes, BitVec.toNat_not] at k
    exact k.symm
  rw [e, u32_xor_nat _ _ (by decide) hr, f, IntWalk.wrap64_in _ ⟨by omega, by omega⟩]; omega
end Hub
end Go.Proofs.Ytbbfbeacgnimpaa
