/-
  Fragments: what the proofs share: words, bytes, lists of the call's own, builders, joins, regions.
-/
import Derived.WalkKit
import Derived.Laws.BytesArg
import Derived.LoopN
import Derived.Lib.Hide
import Derived.WalkSpells
import Derived.WalkLawsBesides
import Derived.Test.YtmjamjadfnbkdaaProg
import Derived.Lib.AppendStr
import Derived.Shelf.Strings.Builder1
import Derived.Deep.LoopGhost
import Derived.Deep.Quiet
import Derived.BigQuiet
import Derived.Below
import Derived.Deep.QuietTactic
import Derived.Shelf.Strings.Builder2
import Derived.Lib.SmallJoins
import Derived.ProofKit
import Derived.SliceStrings
section
namespace Go.Proofs.Ytmjamjadfnbkdaa
namespace Hub
open Go.RowKit (wrap64 wrap32)

/-- The bytes of a string, and the string of a list of bytes. -/
def bl (s : ByteArray) : List UInt8 := s.data.toList
def mk (l : List UInt8) : ByteArray := ⟨l.toArray⟩
theorem bl_mk (l : List UInt8) : bl (mk l) = l := rfl
theorem mk_bl (s : ByteArray) : mk (bl s) = s := by cases s; rfl
theorem size_bl (s : ByteArray) : (bl s).length = s.size := by unfold bl; rw [Array.length_toList]; rfl
theorem size_mk (l : List UInt8) : (mk l).size = l.length := by unfold mk; rfl
theorem bl_append (a b : ByteArray) : bl (a ++ b) = bl a ++ bl b := by
  unfold bl; rw [ByteArray.data_append, Array.toList_append]
theorem append_eq (a b : ByteArray) : a ++ b = mk (bl a ++ bl b) := by rw [← bl_append, mk_bl]
theorem bl_inj {a b : ByteArray} (h : bl a = bl b) : a = b := by rw [← mk_bl a, ← mk_bl b, h]
theorem getElem_bl (s : ByteArray) (i : Nat) (h : i < s.size) : s[i] = (bl s)[i]'(by rw [size_bl]; exact h) := rfl

/-- f, n times. -/
def iter {α : Type} (f : α → α) : Nat → α → α
  | 0, a => a
  | n + 1, a => f (iter f n a)

def step16 (r : BitVec 16) : BitVec 16 := if 32768 ≤ r.toNat then (r <<< 1) ^^^ BitVec.ofNat 16 4129 else r <<< 1
def byte16 (r : BitVec 16) (c : UInt8) : BitVec 16 := iter step16 8 (r ^^^ (BitVec.ofNat 16 c.toNat <<< 8))
def crc16 (l : List UInt8) : BitVec 16 := l.foldl byte16 (BitVec.ofNat 16 65535)
def step32 (r : BitVec 32) : BitVec 32 := if r.toNat % 2 = 1 then (r >>> 1) ^^^ BitVec.ofNat 32 3988292384 else r >>> 1
def byte32 (r : BitVec 32) (c : UInt8) : BitVec 32 := iter step32 8 (r ^^^ BitVec.ofNat 32 c.toNat)
def reg32 (l : List UInt8) : BitVec 32 := l.foldl byte32 (BitVec.ofNat 32 4294967295)
def crc32 (l : List UInt8) : BitVec 32 := ~~~ (reg32 l)
def fnvStep (h : BitVec 64) (c : UInt8) : BitVec 64 := (h ^^^ BitVec.ofNat 64 c.toNat) * BitVec.ofNat 64 1099511628211
def fnv (l : List UInt8) : BitVec 64 := l.foldl fnvStep (BitVec.ofNat 64 14695981039346656037)
/-- The byte of n at the place 256^k. -/
def byteAt (n k : Nat) : UInt8 := UInt8.ofNat (n / 256 ^ k)
def key8 (n : Nat) : List UInt8 := [byteAt n 7, byteAt n 6, byteAt n 5, byteAt n 4, byteAt n 3, byteAt n 2, byteAt n 1, byteAt n 0]
def sum4 (n : Nat) : List UInt8 := [byteAt n 3, byteAt n 2, byteAt n 1, byteAt n 0]
def mac (key : Nat) (l : List UInt8) : Nat := (fnv (key8 key ++ l ++ key8 key)).toNat / 4294967296
def sealD (key : Nat) (l : List UInt8) : List UInt8 := l ++ sum4 (mac key l)
/-- What Open returns: the text and the error's number. -/
def openD (key : Nat) (l : List UInt8) : List UInt8 × Int :=
  if l.length < 4 then ([], 5) else
  if l.drop (l.length - 4) = sum4 (mac key (l.take (l.length - 4))) then (l.take (l.length - 4), 0) else ([], 6)

theorem foldl_take {α : Type} (f : α → UInt8 → α) (a : α) (l : List UInt8) (k : Nat) (h : k < l.length) : (l.take (k + 1)).foldl f a = f ((l.take k).foldl f a) l[k] := by
  rw [List.take_succ_eq_append_getElem h, List.foldl_append, List.foldl_cons, List.foldl_nil]
theorem crc16_take (l : List UInt8) (k : Nat) (h : k < l.length) : crc16 (l.take (k + 1)) = byte16 (crc16 (l.take k)) l[k] := foldl_take _ _ l k h
theorem reg32_take (l : List UInt8) (k : Nat) (h : k < l.length) : reg32 (l.take (k + 1)) = byte32 (reg32 (l.take k)) l[k] := foldl_take _ _ l k h
theorem fnv_take (l : List UInt8) (k : Nat) (h : k < l.length) : fnv (l.take (k + 1)) = fnvStep (fnv (l.take k)) l[k] := foldl_take _ _ l k h

/-! ### The walk's spellings -/
theorem bits_xor_nat (k : IntKind) (a b : Nat) (ha : a < 2 ^ k.bits) (hb : b < 2 ^ k.bits) : bits .xor k (a : Int) (b : Int) = k.wrap ((a ^^^ b : Nat) : Int) := by
  simp only [bits, BitVec.ofInt_natCast, BitVec.toNat_xor, BitVec.toNat_ofNat, Nat.mod_eq_of_lt ha, Nat.mod_eq_of_lt hb]

theorem i64_xor_nat (a b : Nat) (ha : a < 9223372036854775808) (hb : b < 9223372036854775808) : bits .xor .i64 (a : Int) (b : Int) = ((a ^^^ b : Nat) : Int) := by
  rw [bits_xor_nat .i64 a b (by simp [IntKind.bits]; omega) (by simp [IntKind.bits]; omega)]
  refine IntWalk.i64_in _ ⟨by omega, ?_⟩
  have : a ^^^ b < 2 ^ 63 := Nat.xor_lt_two_pow (by omega) (by omega)
  omega

theorem shl16_nat (a n : Nat) : IntKind.u16.wrap ((a : Int) * (2 ^ n : Nat)) = ((BitVec.ofNat 16 a <<< n).toNat : Int) := by
  rw [IntKind.wrap_u16, BitVec.toNat_shiftLeft, BitVec.toNat_ofNat, Nat.shiftLeft_eq]
  simp

theorem w16_in (c : UInt8) : IntKind.u16.wrap (c.toNat : Int) = (c.toNat : Int) := IntWalk.u16_in _ ⟨by omega, by have := c.toNat_lt; omega⟩
theorem w32_in (c : UInt8) : IntKind.u32.wrap (c.toNat : Int) = (c.toNat : Int) := IntWalk.u32_in _ ⟨by omega, by have := c.toNat_lt; omega⟩
theorem w64_in (c : UInt8) : IntKind.u64.wrap (c.toNat : Int) = (c.toNat : Int) := IntWalk.u64_in _ ⟨by omega, by have := c.toNat_lt; omega⟩

theorem prog16_in (r : BitVec 16) (c : UInt8) : bits .xor .u16 (r.toNat : Int) (IntKind.u16.wrap (IntKind.u16.wrap (c.toNat : Int) * 256)) = ((r ^^^ (BitVec.ofNat 16 c.toNat <<< 8)).toNat : Int) := by
  rw [w16_in, show ((c.toNat : Int) * 256) = ((c.toNat : Int) * (2 ^ 8 : Nat)) from rfl, shl16_nat, u16_xor_nat _ _ r.isLt (BitVec.isLt _), BitVec.toNat_xor]
theorem prog16_shl (r : BitVec 16) : IntKind.u16.wrap ((r.toNat : Int) * 2) = ((r <<< 1).toNat : Int) := by
  rw [show ((r.toNat : Int) * 2) = ((r.toNat : Int) * (2 ^ 1 : Nat)) from rfl, shl16_nat, BitVec.ofNat_toNat, BitVec.setWidth_eq]
theorem prog16_yes (r : BitVec 16) (h : ((r.toNat : Int) / 32768 == 1) = true) : bits .xor .u16 (IntKind.u16.wrap ((r.toNat : Int) * 2)) 4129 = ((step16 r).toNat : Int) := by
  have h1 : 32768 ≤ r.toNat := by have := r.isLt; simp at h; omega
  rw [prog16_shl, show (4129 : Int) = ((4129 : Nat) : Int) from rfl, u16_xor_nat _ _ (BitVec.isLt _) (by decide), step16, if_pos h1, BitVec.toNat_xor]; rfl
theorem prog16_no (r : BitVec 16) (h : ((r.toNat : Int) / 32768 == 1) = false) : IntKind.u16.wrap ((r.toNat : Int) * 2) = ((step16 r).toNat : Int) := by
  have h1 : ¬ 32768 ≤ r.toNat := by have := r.isLt; simp at h; omega
  rw [prog16_shl, step16, if_neg h1]
theorem w64_byte (c : UInt8) : wrap64 (c.toNat : Int) = (c.toNat : Int) := IntWalk.wrap64_in _ ⟨by omega, by have := c.toNat_lt; omega⟩
theorem shl8_toNat (c : UInt8) : (BitVec.ofNat 16 c.toNat <<< 8).toNat = c.toNat * 256 := by
  have := c.toNat_lt
  rw [BitVec.toNat_shiftLeft, BitVec.toNat_ofNat, Nat.shiftLeft_eq]; omega
theorem ref16_in (r : BitVec 16) (c : UInt8) : bits .xor .i64 (r.toNat : Int) (wrap64 (wrap64 (c.toNat : Int) * 256)) = ((r ^^^ (BitVec.ofNat 16 c.toNat <<< 8)).toNat : Int) := by
  have := c.toNat_lt
  have := r.isLt
  rw [w64_byte, IntWalk.wrap64_in _ ⟨by omega, by omega⟩, show ((c.toNat : Int) * 256) = ((c.toNat * 256 : Nat) : Int) from by simp, i64_xor_nat _ _ (by omega) (by omega), BitVec.toNat_xor, shl8_toNat]
theorem ref16_yes (q : BitVec 16) (h : 65536 ≤ (q.toNat : Int) * 2) : bits .xor .i64 ((q.toNat : Int) * 2 - 65536) 4129 = ((step16 q).toNat : Int) := by
  have hq := q.isLt
  have e : (q <<< 1).toNat = q.toNat * 2 - 65536 := by rw [BitVec.toNat_shiftLeft, Nat.shiftLeft_eq]; omega
  rw [show ((q.toNat : Int) * 2 - 65536) = ((q.toNat * 2 - 65536 : Nat) : Int) from by omega, show (4129 : Int) = ((4129 : Nat) : Int) from rfl, i64_xor_nat _ _ (by omega) (by decide), step16, if_pos (by omega), BitVec.toNat_xor, e]; rfl
theorem ref16_no (q : BitVec 16) (h : ¬ 65536 ≤ (q.toNat : Int) * 2) : (q.toNat : Int) * 2 = ((step16 q).toNat : Int) := by
  have hq := q.isLt
  have e : (q <<< 1).toNat = q.toNat * 2 := by rw [BitVec.toNat_shiftLeft, Nat.shiftLeft_eq]; omega
  rw [step16, if_neg (by omega), e]; omega

theorem of32_toNat (c : UInt8) : (BitVec.ofNat 32 c.toNat).toNat = c.toNat := by
  have := c.toNat_lt
  rw [BitVec.toNat_ofNat]; omega
theorem of64_toNat (c : UInt8) : (BitVec.ofNat 64 c.toNat).toNat = c.toNat := by
  have := c.toNat_lt
  rw [BitVec.toNat_ofNat]; omega
theorem prog32_in (r : BitVec 32) (c : UInt8) : bits .xor .u32 (r.toNat : Int) ((c.toNat : Int) % 4294967296) = ((r ^^^ BitVec.ofNat 32 c.toNat).toNat : Int) := by
  have := c.toNat_lt
  rw [Int.emod_eq_of_lt (by omega) (by omega), u32_xor_nat _ _ r.isLt (by omega), BitVec.toNat_xor, of32_toNat]
theorem ref32_in (r : BitVec 32) (c : UInt8) : bits .xor .i64 (r.toNat : Int) (wrap64 (c.toNat : Int)) = ((r ^^^ BitVec.ofNat 32 c.toNat).toNat : Int) := by
  have := c.toNat_lt
  have := r.isLt
  rw [w64_byte, i64_xor_nat _ _ (by omega) (by omega), BitVec.toNat_xor, of32_toNat]
theorem shr1_toNat (q : BitVec 32) : (q >>> 1).toNat = q.toNat / 2 := by rw [BitVec.toNat_ushiftRight]; rfl
theorem step32_yes (k : IntKind) (q : BitVec 32) (h : (q.toNat : Int) % 2 = 1) (hk : k = .u32 ∨ k = .i64) : bits .xor k ((q.toNat : Int) / 2) 3988292384 = ((step32 q).toNat : Int) := by
  have hq := q.isLt
  have e : ((q.toNat : Int) / 2) = ((q.toNat / 2 : Nat) : Int) := by omega
  have f : (3988292384 : Int) = ((3988292384 : Nat) : Int) := rfl
  rw [e, f, step32, if_pos (by omega), BitVec.toNat_xor, shr1_toNat]
  rcases hk with rfl | rfl
  · rw [u32_xor_nat _ _ (by omega) (by decide)]; rfl
  · rw [i64_xor_nat _ _ (by omega) (by decide)]; rfl
theorem step32_no (q : BitVec 32) (h : ¬ (q.toNat : Int) % 2 = 1) : (q.toNat : Int) / 2 = ((step32 q).toNat : Int) := by
  rw [step32, if_neg (by omega), shr1_toNat]; rfl
theorem crc32_toNat (l : List UInt8) : ((crc32 l).toNat : Int) = 4294967295 - ((reg32 l).toNat : Int) := by
  have := (reg32 l).isLt
  rw [crc32, BitVec.toNat_not]; omega
theorem fnv_round (r : BitVec 64) (c : UInt8) : IntKind.u64.wrap (bits .xor .u64 (r.toNat : Int) (IntKind.u64.wrap (c.toNat : Int)) * 1099511628211) = ((fnvStep r c).toNat : Int) := by
  have := c.toNat_lt
  rw [w64_in, u64_xor_nat _ _ r.isLt (by omega), fnvStep, BitVec.toNat_mul, BitVec.toNat_xor, of64_toNat, BitVec.toNat_ofNat]
  simp only [IntKind.wrap, IntKind.bits, IntKind.signed, Bool.false_and]
  rfl
theorem and32_one (q : BitVec 32) : bits .and .u32 (q.toNat : Int) 1 = (q.toNat : Int) % 2 := by
  rw [show (1 : Int) = ((1 : Nat) : Int) from rfl, u32_and_nat _ _ q.isLt (by decide), nat_mask1]; omega
theorem not32 (r : BitVec 32) : wrap64 (bits .xor .u32 IntKind.u32.max (r.toNat : Int)) = 4294967295 - (r.toNat : Int) := by
  have hr := r.isLt
  have e : IntKind.u32.max = ((4294967295 : Nat) : Int) := rfl
  have f : (4294967295 ^^^ r.toNat) = 4294967295 - r.toNat := by
    have g : (~~~ r) = (BitVec.allOnes 32 ^^^ r) := (BitVec.allOnes_xor).symm
    have k := congrArg BitVec.toNat g
    rw [BitVec.toNat_xor, BitVec.toNat_allOnes, BitVec.toNat_not] at k
    exact k.symm
  rw [e, u32_xor_nat _ _ (by decide) hr, f, IntWalk.wrap64_in _ ⟨by omega, by omega⟩]; omega
end Hub
end Go.Proofs.Ytmjamjadfnbkdaa
end

section
open Go Go.RowKit
namespace Go.Proofs.Ytmjamjadfnbkdaa
namespace Hub

theorem ret_int {k : IntKind} {a b : Int} (h : a = b) : Ending.returned (.int k a) = .returned (.int k b) := by rw [h]
theorem ret_str {a b : ByteArray} (h : a = b) : Ending.returned (.string a) = .returned (.string b) := by rw [h]
theorem ret_val {a b : Value} (h : a = b) : Ending.returned a = .returned b := by rw [h]
theorem take_bl (s : ByteArray) : (bl s).take s.size = bl s := List.take_of_length_le (by rw [size_bl]; omega)

theorem bt {w w1 w2 : World} (h : Below w.heap.size w w1) (k : Below w1.heap.size w1 w2) : Below w.heap.size w w2 := h.trans (k.mono h.size)
theorem toList_mk (l : List UInt8) : (mk l).toList = l := by rw [ByteArray.toList_eq]; rfl
theorem toList_bl (a : ByteArray) : a.toList = bl a := ByteArray.toList_eq a
theorem beq_yes {a b : ByteArray} (h : (a.toList == b.toList) = true) : a = b := bl_inj (by rw [← toList_bl, ← toList_bl]; exact eq_of_beq h)
theorem beq_no {a b : ByteArray} (h : (a.toList == b.toList) = false) : a ≠ b := fun e => by subst e; simp at h
theorem bne_yes {a b : ByteArray} (h : (!(a.toList == b.toList)) = true) : a ≠ b := beq_no (by simpa using h)
theorem bne_no {a b : ByteArray} (h : (!(a.toList == b.toList)) = false) : a = b := beq_yes (by simpa using h)
theorem beq_of_eq {a b : ByteArray} (h : a = b) : (a.toList == b.toList) = true := by rw [h]; exact beq_self_eq_true _
theorem beq_of_ne {a b : ByteArray} (h : a ≠ b) : (a.toList == b.toList) = false := by
  cases e : (a.toList == b.toList) with
  | true => exact absurd (beq_yes e) h
  | false => rfl
theorem bl_extract (s : ByteArray) (a b : Nat) : bl (s.extract a b) = ((bl s).drop a).take (b - a) := by
  conv => lhs; rw [← mk_bl s]
  unfold mk; rw [ByteArray.extract_mk]; rfl
theorem bl_take (s : ByteArray) (b : Nat) : bl (s.extract 0 b) = (bl s).take b := by rw [bl_extract]; simp
theorem bl_drop (s : ByteArray) (a : Nat) : bl (s.extract a s.size) = (bl s).drop a := by
  rw [bl_extract]; exact List.take_of_length_le (by rw [List.length_drop, size_bl]; omega)
theorem eq_mk {a : ByteArray} {l : List UInt8} (h : bl a = l) : a = mk l := by rw [← h, mk_bl]

/-- The values of a list of bytes. -/
def vals (l : List UInt8) : List Value := l.map fun b => Value.int .u8 (b.toNat : Int)

theorem bounds_u8 {n : Int} (h : (Lit.int .u8 n).wf = true) : 0 ≤ n ∧ n ≤ 255 := by simp [Lit.wf, IntKind.min, IntKind.max, IntKind.signed, IntKind.bits] at h; omega
theorem bounds_u16 {n : Int} (h : (Lit.int .u16 n).wf = true) : 0 ≤ n ∧ n ≤ 65535 := by simp [Lit.wf, IntKind.min, IntKind.max, IntKind.signed, IntKind.bits] at h; omega
theorem bounds_u32 {n : Int} (h : (Lit.int .u32 n).wf = true) : 0 ≤ n ∧ n ≤ 4294967295 := by simp [Lit.wf, IntKind.min, IntKind.max, IntKind.signed, IntKind.bits] at h; omega
theorem bounds_u64 {n : Int} (h : (Lit.int .u64 n).wf = true) : 0 ≤ n ∧ n ≤ 18446744073709551615 := by simp [Lit.wf, IntKind.min, IntKind.max, IntKind.signed, IntKind.bits] at h; omega
theorem bounds_i64 {n : Int} (h : (Lit.int .i64 n).wf = true) : -9223372036854775808 ≤ n ∧ n ≤ 9223372036854775807 := by simp [Lit.wf, IntKind.min, IntKind.max, IntKind.signed, IntKind.bits] at h; omega

section
variable {P : Program}
theorem conv_cells (src dst e : TypeId) (hs : P.underlying src = some (.slice e)) (he : P.underlying e = some (.int .u8)) (hd : P.underlying dst = some .string)
    (w : World) (b off cap : Nat) (xs : List Int) (hc : ∀ i, i < xs.length → w.cell? ⟨b, off + i, none⟩ = some (.int .u8 (xs.getD i 0))) :
    (convert src dst (.slice (some ⟨b, off, none⟩) xs.length cap)).run P w = .ok (.string (strOfNums xs)) w :=
  run_convert_bytes_arg w src e hs he b off xs.length cap xs rfl hc dst hd

theorem conv_lit1 (src dst e et : TypeId) (hs : P.underlying src = some (.slice e)) (he : P.underlying e = some (.int .u8)) (hd : P.underlying dst = some .string)
    (w : World) (n cap : Nat) (hn : n = w.heap.size) (a : Int) :
    (convert src dst (.slice (some ⟨n, 0, none⟩) 1 cap)).run P (w.alloc (.cells #[.int .u8 a] et)) = .ok (.string (strOfNums [a])) (w.alloc (.cells #[.int .u8 a] et)) := by
  subst hn
  refine conv_cells src dst e hs he hd _ _ 0 cap [a] fun q hq => ?_
  match q, hq with
  | 0, _ => simp

theorem conv_lit1d (src dst e et : TypeId) (hs : P.underlying src = some (.slice e)) (he : P.underlying e = some (.int .u8)) (hd : P.underlying dst = some .string)
    (w : World) (n cap : Nat) (hn : n = w.heap.size) (a : Int) :
    (convert src dst (.slice (some ⟨n, 0, none⟩) 1 cap)).run P ((w.alloc (.cells #[.int .u8 a] et)).drew) = .ok (.string (strOfNums [a])) ((w.alloc (.cells #[.int .u8 a] et)).drew) := by
  subst hn
  refine conv_cells src dst e hs he hd _ _ 0 cap [a] fun q hq => ?_
  match q, hq with
  | 0, _ => simp [World.cell?_drew]

theorem conv_lit2 (src dst e et : TypeId) (hs : P.underlying src = some (.slice e)) (he : P.underlying e = some (.int .u8)) (hd : P.underlying dst = some .string)
    (w : World) (n cap : Nat) (hn : n = w.heap.size) (a b : Int) :
    (convert src dst (.slice (some ⟨n, 0, none⟩) 2 cap)).run P (w.alloc (.cells #[.int .u8 a, .int .u8 b] et)) = .ok (.string (strOfNums [a, b])) (w.alloc (.cells #[.int .u8 a, .int .u8 b] et)) := by
  subst hn
  refine conv_cells src dst e hs he hd _ _ 0 cap [a, b] fun q hq => ?_
  match q, hq with
  | 0, _ => simp
  | 1, _ => simp

theorem conv_lit2d (src dst e et : TypeId) (hs : P.underlying src = some (.slice e)) (he : P.underlying e = some (.int .u8)) (hd : P.underlying dst = some .string)
    (w : World) (n cap : Nat) (hn : n = w.heap.size) (a b : Int) :
    (convert src dst (.slice (some ⟨n, 0, none⟩) 2 cap)).run P ((w.alloc (.cells #[.int .u8 a, .int .u8 b] et)).drew) = .ok (.string (strOfNums [a, b])) ((w.alloc (.cells #[.int .u8 a, .int .u8 b] et)).drew) := by
  subst hn
  refine conv_cells src dst e hs he hd _ _ 0 cap [a, b] fun q hq => ?_
  match q, hq with
  | 0, _ => simp [World.cell?_drew]
  | 1, _ => simp [World.cell?_drew]

theorem conv_lit3 (src dst e et : TypeId) (hs : P.underlying src = some (.slice e)) (he : P.underlying e = some (.int .u8)) (hd : P.underlying dst = some .string)
    (w : World) (n cap : Nat) (hn : n = w.heap.size) (a b c : Int) :
    (convert src dst (.slice (some ⟨n, 0, none⟩) 3 cap)).run P (w.alloc (.cells #[.int .u8 a, .int .u8 b, .int .u8 c] et)) = .ok (.string (strOfNums [a, b, c])) (w.alloc (.cells #[.int .u8 a, .int .u8 b, .int .u8 c] et)) := by
  subst hn
  refine conv_cells src dst e hs he hd _ _ 0 cap [a, b, c] fun q hq => ?_
  match q, hq with
  | 0, _ => simp
  | 1, _ => simp
  | 2, _ => simp

theorem conv_lit3d (src dst e et : TypeId) (hs : P.underlying src = some (.slice e)) (he : P.underlying e = some (.int .u8)) (hd : P.underlying dst = some .string)
    (w : World) (n cap : Nat) (hn : n = w.heap.size) (a b c : Int) :
    (convert src dst (.slice (some ⟨n, 0, none⟩) 3 cap)).run P ((w.alloc (.cells #[.int .u8 a, .int .u8 b, .int .u8 c] et)).drew) = .ok (.string (strOfNums [a, b, c])) ((w.alloc (.cells #[.int .u8 a, .int .u8 b, .int .u8 c] et)).drew) := by
  subst hn
  refine conv_cells src dst e hs he hd _ _ 0 cap [a, b, c] fun q hq => ?_
  match q, hq with
  | 0, _ => simp [World.cell?_drew]
  | 1, _ => simp [World.cell?_drew]
  | 2, _ => simp [World.cell?_drew]

theorem conv_lit4 (src dst e et : TypeId) (hs : P.underlying src = some (.slice e)) (he : P.underlying e = some (.int .u8)) (hd : P.underlying dst = some .string)
    (w : World) (n cap : Nat) (hn : n = w.heap.size) (a b c d : Int) :
    (convert src dst (.slice (some ⟨n, 0, none⟩) 4 cap)).run P (w.alloc (.cells #[.int .u8 a, .int .u8 b, .int .u8 c, .int .u8 d] et)) = .ok (.string (strOfNums [a, b, c, d])) (w.alloc (.cells #[.int .u8 a, .int .u8 b, .int .u8 c, .int .u8 d] et)) := by
  subst hn
  refine conv_cells src dst e hs he hd _ _ 0 cap [a, b, c, d] fun q hq => ?_
  match q, hq with
  | 0, _ => simp
  | 1, _ => simp
  | 2, _ => simp
  | 3, _ => simp

theorem conv_lit4d (src dst e et : TypeId) (hs : P.underlying src = some (.slice e)) (he : P.underlying e = some (.int .u8)) (hd : P.underlying dst = some .string)
    (w : World) (n cap : Nat) (hn : n = w.heap.size) (a b c d : Int) :
    (convert src dst (.slice (some ⟨n, 0, none⟩) 4 cap)).run P ((w.alloc (.cells #[.int .u8 a, .int .u8 b, .int .u8 c, .int .u8 d] et)).drew) = .ok (.string (strOfNums [a, b, c, d])) ((w.alloc (.cells #[.int .u8 a, .int .u8 b, .int .u8 c, .int .u8 d] et)).drew) := by
  subst hn
  refine conv_cells src dst e hs he hd _ _ 0 cap [a, b, c, d] fun q hq => ?_
  match q, hq with
  | 0, _ => simp [World.cell?_drew]
  | 1, _ => simp [World.cell?_drew]
  | 2, _ => simp [World.cell?_drew]
  | 3, _ => simp [World.cell?_drew]

theorem conv_lit5 (src dst e et : TypeId) (hs : P.underlying src = some (.slice e)) (he : P.underlying e = some (.int .u8)) (hd : P.underlying dst = some .string)
    (w : World) (n cap : Nat) (hn : n = w.heap.size) (a b c d f : Int) :
    (convert src dst (.slice (some ⟨n, 0, none⟩) 5 cap)).run P (w.alloc (.cells #[.int .u8 a, .int .u8 b, .int .u8 c, .int .u8 d, .int .u8 f] et)) = .ok (.string (strOfNums [a, b, c, d, f])) (w.alloc (.cells #[.int .u8 a, .int .u8 b, .int .u8 c, .int .u8 d, .int .u8 f] et)) := by
  subst hn
  refine conv_cells src dst e hs he hd _ _ 0 cap [a, b, c, d, f] fun q hq => ?_
  match q, hq with
  | 0, _ => simp
  | 1, _ => simp
  | 2, _ => simp
  | 3, _ => simp
  | 4, _ => simp

theorem conv_lit5d (src dst e et : TypeId) (hs : P.underlying src = some (.slice e)) (he : P.underlying e = some (.int .u8)) (hd : P.underlying dst = some .string)
    (w : World) (n cap : Nat) (hn : n = w.heap.size) (a b c d f : Int) :
    (convert src dst (.slice (some ⟨n, 0, none⟩) 5 cap)).run P ((w.alloc (.cells #[.int .u8 a, .int .u8 b, .int .u8 c, .int .u8 d, .int .u8 f] et)).drew) = .ok (.string (strOfNums [a, b, c, d, f])) ((w.alloc (.cells #[.int .u8 a, .int .u8 b, .int .u8 c, .int .u8 d, .int .u8 f] et)).drew) := by
  subst hn
  refine conv_cells src dst e hs he hd _ _ 0 cap [a, b, c, d, f] fun q hq => ?_
  match q, hq with
  | 0, _ => simp [World.cell?_drew]
  | 1, _ => simp [World.cell?_drew]
  | 2, _ => simp [World.cell?_drew]
  | 3, _ => simp [World.cell?_drew]
  | 4, _ => simp [World.cell?_drew]

theorem conv_lit8 (src dst e et : TypeId) (hs : P.underlying src = some (.slice e)) (he : P.underlying e = some (.int .u8)) (hd : P.underlying dst = some .string)
    (w : World) (n cap : Nat) (hn : n = w.heap.size) (a b c d f g h i : Int) :
    (convert src dst (.slice (some ⟨n, 0, none⟩) 8 cap)).run P (w.alloc (.cells #[.int .u8 a, .int .u8 b, .int .u8 c, .int .u8 d, .int .u8 f, .int .u8 g, .int .u8 h, .int .u8 i] et)) = .ok (.string (strOfNums [a, b, c, d, f, g, h, i])) (w.alloc (.cells #[.int .u8 a, .int .u8 b, .int .u8 c, .int .u8 d, .int .u8 f, .int .u8 g, .int .u8 h, .int .u8 i] et)) := by
  subst hn
  refine conv_cells src dst e hs he hd _ _ 0 cap [a, b, c, d, f, g, h, i] fun q hq => ?_
  match q, hq with
  | 0, _ => simp
  | 1, _ => simp
  | 2, _ => simp
  | 3, _ => simp
  | 4, _ => simp
  | 5, _ => simp
  | 6, _ => simp
  | 7, _ => simp

theorem conv_lit8d (src dst e et : TypeId) (hs : P.underlying src = some (.slice e)) (he : P.underlying e = some (.int .u8)) (hd : P.underlying dst = some .string)
    (w : World) (n cap : Nat) (hn : n = w.heap.size) (a b c d f g h i : Int) :
    (convert src dst (.slice (some ⟨n, 0, none⟩) 8 cap)).run P ((w.alloc (.cells #[.int .u8 a, .int .u8 b, .int .u8 c, .int .u8 d, .int .u8 f, .int .u8 g, .int .u8 h, .int .u8 i] et)).drew) = .ok (.string (strOfNums [a, b, c, d, f, g, h, i])) ((w.alloc (.cells #[.int .u8 a, .int .u8 b, .int .u8 c, .int .u8 d, .int .u8 f, .int .u8 g, .int .u8 h, .int .u8 i] et)).drew) := by
  subst hn
  refine conv_cells src dst e hs he hd _ _ 0 cap [a, b, c, d, f, g, h, i] fun q hq => ?_
  match q, hq with
  | 0, _ => simp [World.cell?_drew]
  | 1, _ => simp [World.cell?_drew]
  | 2, _ => simp [World.cell?_drew]
  | 3, _ => simp [World.cell?_drew]
  | 4, _ => simp [World.cell?_drew]
  | 5, _ => simp [World.cell?_drew]
  | 6, _ => simp [World.cell?_drew]
  | 7, _ => simp [World.cell?_drew]

end

theorem byte_int (n : Int) (k : Nat) (h0 : 0 ≤ n) : UInt8.ofNat (n / (256 ^ k : Nat) % 256).toNat = byteAt n.toNat k := by
  obtain ⟨m, rfl⟩ := Int.eq_ofNat_of_zero_le h0
  have e : ((m : Int) / (256 ^ k : Nat) % 256).toNat = m / 256 ^ k % 256 := by
    rw [← Int.natCast_ediv]; omega
  rw [e, byteAt, Int.toNat_natCast]
  apply UInt8.toNat_inj.1
  simp
theorem byteAt_toNat (m k : Nat) : (byteAt m k).toNat = m / 256 ^ k % 256 := by unfold byteAt; simp
theorem byteAt_int (n : Int) (k : Nat) (h0 : 0 ≤ n) : ((byteAt n.toNat k).toNat : Int) = n / (256 ^ k : Nat) % 256 := by
  obtain ⟨m, rfl⟩ := Int.eq_ofNat_of_zero_le h0
  rw [byteAt_toNat, Int.toNat_natCast, ← Int.natCast_ediv]; omega
theorem strOfNums_mk (xs : List Int) : strOfNums xs = mk (xs.map fun n => UInt8.ofNat n.toNat) := rfl

/-- Block B holds the bytes l in its first cells, and these may be written. -/
def HoldsB (w : World) (B : Nat) (l : List UInt8) : Prop := B < w.heap.size ∧ ∀ j (hj : j < l.length), w.cell? ⟨B, j, none⟩ = some (.int .u8 (l[j].toNat : Int)) ∧ w.frozen? ⟨B, j, none⟩ = false
theorem HoldsB.below {w w' : World} {B : Nat} {l : List UInt8} (h : HoldsB w B l) {N : Nat} (hb : Below N w w') (hN : B < N) : HoldsB w' B l :=
  ⟨Nat.lt_of_lt_of_le h.1 hb.size, fun j hj => ⟨by rw [hb.cell (p := ⟨B, j, none⟩) hN]; exact (h.2 j hj).1, by rw [hb.frozen (p := ⟨B, j, none⟩) hN]; exact (h.2 j hj).2⟩⟩
theorem HoldsB.drew {w : World} {B : Nat} {l : List UInt8} (h : HoldsB w B l) : HoldsB w.drew B l := h
theorem HoldsB.set {w : World} {B : Nat} {l : List UInt8} (h : HoldsB w B l) (i : Nat) (_hi : i < l.length) (c : UInt8) : HoldsB (w.setCell ⟨B, i, none⟩ (.int .u8 (c.toNat : Int))) B (l.set i c) := by
  refine ⟨by simpa [World.setCell] using h.1, fun j hj => ?_⟩
  have hj' : j < l.length := by simpa using hj
  obtain ⟨h1, h2⟩ := h.2 j hj'
  refine ⟨?_, by rw [World.frozen?_setCell]; exact h2⟩
  by_cases e : i = j
  · subst e
    rw [World.cell?_setCell_same _ _ _ h1]
    simp
  · rw [World.cell?_setCell_other _ _ _ _ (by simp)]
    rw [h1]
    simp [e]

section
variable {P : Program}
theorem add_plain (B j : Nat) : (⟨B, 0, none⟩ : Addr).add j = ⟨B, j, none⟩ := by unfold Addr.add; split <;> simp_all
/-- The step '[]byte(s)'. -/
theorem wpList_bytes {w : World} {ops : Array Oper} {rest : List Oper} {o : Oper} {a : Act} {Q : Exit → Act → World → Prop} (hgd : o.guard = none) (x : Operand) (src dst e : TypeId)
    (ho : o.op = .convert src dst x) (hs : P.underlying src = some .string) (hd : P.underlying dst = some (.slice e)) (he : P.underlying e = some (.int .u8)) (s : ByteArray) (hx : a.eval x = .string s)
    (h : ∀ w1 cap, Below w.heap.size w w1 → w1.heap.size = w.heap.size + 1 → s.size ≤ cap → HoldsB w1 w.heap.size (bl s) → wpList P ops Q rest (a.put o.dst (.slice (some ⟨w.heap.size, 0, none⟩) s.size cap)) w1) : wpList P ops Q (o :: rest) a w := by
  refine wpList_plain hgd fun K hK => ?_
  have hr := run_bytes_of_string (P := P) w src dst e s hs hd he
  have hge := grownCap_ge w s.size 0 e
  unfold Oper.wp execOp
  simp only [ho, Sem.run_bind, Sem.run_pure, hx, hr, Result.andThen_ok]
  refine hK _ _ (h _ _ (((Below.refl _ _).drew).alloc (Nat.le_refl _) _) (by simp) hge ⟨by simp, fun j hj => ⟨?_, ?_⟩⟩)
  · have hj' : j < s.data.size := by rw [size_bl] at hj; exact hj
    have := World.cell?_alloc_mark w.drew (bytesRow s (grownCap w s.size 0 e)) e ((bytesRow s (grownCap w s.size 0 e)).size, (bytesRow s (grownCap w s.size 0 e)).size + 1) j
    rw [show w.drew.heap.size = w.heap.size from rfl] at this
    rw [this, bytesRow_at s _ j hj']; rfl
  · have hj' : j < s.data.size := by rw [size_bl] at hj; exact hj
    have := World.frozen?_alloc_mark w.drew (bytesRow s (grownCap w s.size 0 e)) e (bytesRow s (grownCap w s.size 0 e)).size ((bytesRow s (grownCap w s.size 0 e)).size + 1) j
    rw [show w.drew.heap.size = w.heap.size from rfl] at this
    rw [this]
    have : (bytesRow s (grownCap w s.size 0 e)).size ≥ s.data.size := by simp [bytesRow]
    simp; omega

/-- The step 'string(b)' where b's cells are the bytes l. -/
theorem wpList_tostr {w : World} {ops : Array Oper} {rest : List Oper} {o : Oper} {a : Act} {Q : Exit → Act → World → Prop} (hgd : o.guard = none) (x : Operand) (src dst e : TypeId)
    (ho : o.op = .convert src dst x) (hs : P.underlying src = some (.slice e)) (he : P.underlying e = some (.int .u8)) (hd : P.underlying dst = some .string) (B cap len : Nat) (l : List UInt8)
    (hx : a.eval x = .slice (some ⟨B, 0, none⟩) len cap) (hl : l.length = len) (hc : HoldsB w B l)
    (h : wpList P ops Q rest (a.put o.dst (.string (mk l))) w) : wpList P ops Q (o :: rest) a w := by
  subst hl
  refine wpList_plain hgd fun K hK => ?_
  have hr := run_convert_bytes_back (P := P) w src dst e ⟨B, 0, none⟩ cap l hs he hd (fun j hj => by rw [add_plain]; exact (hc.2 j hj).1)
  unfold Oper.wp execOp
  simp only [ho, Sem.run_bind, Sem.run_pure, hx, hr, Result.andThen_ok]
  exact hK _ _ h
/-- The step 'make([]byte, n)'. -/
theorem wpList_makeB {w : World} {ops : Array Oper} {rest : List Oper} {o : Oper} {a : Act} {Q : Exit → Act → World → Prop}
    (hg : o.guard = none) (l c : Operand) (t : TypeId) (hop : o.op = Op.makeSlice t l c) (e : TypeId) (h1 : P.underlying t = some (.slice e))
    (hi : (P.info? e).map (fun i => (i.zero, i.size, i.bytes)) = some (some (.int .u8 0), 1, 1))
    (n : Nat) (hl : a.eval l = .int .i64 (n : Int)) (hc : a.eval c = .int .i64 (n : Int)) (b2 : n ≤ 281474976710656)
    (h : ∀ w1, Below w.heap.size w w1 → HoldsB w1 w.heap.size (List.replicate n 0) → wpList P ops Q rest (a.put o.dst (.slice (some ⟨w.heap.size, 0, none⟩) n n)) w1) :
    wpList P ops Q (o :: rest) a w := by
  obtain ⟨i, h2, hz0, hz1, hz2⟩ := info_parts hi
  refine wpList_make_full w hg l c t hop w.heap.size e i (.int .u8 0) 1 h1 h2 hz0 hz1 .i64 .i64 _ _ n hl hc rfl rfl (by rw [hz2]; omega) (by unfold maxLen; omega) (Nat.le_refl _) fun w1 hown hgr => ?_
  have hcells : (Value.int .u8 0).cells = #[.int .u8 0] := rfl
  rw [hcells, Nat.mul_one, toList_madeCells_one] at hown
  refine h w1 ((Below.refl _ _).grown hgr (Nat.le_refl _) (by intro k hk; cases hk)) ⟨(hown.lt _ rfl).2, fun j hj => ?_⟩
  have hj' : j < n := by simpa using hj
  refine ⟨?_, hown.frozenAt j⟩
  rw [hown.cellAt j (by omega)]
  simp [hj']

theorem run_min_int4 (w : World) (ts : Array TypeId) (t : TypeId) (k k' k'' k3 : IntKind) (x y z u : Int) (n : Int) (hn : n = min (min (min x y) z) u) : (Builtin.min_ ts t #[.int k x, .int k' y, .int k'' z, .int k3 u]).run P w = .ok (.int k n) w := by
  have e : ∀ p q : Int, (if q < p then q else p) = min p q := by intro p q; rw [Int.min_def]; split <;> split <;> omega
  subst hn
  simp [Builtin.min_, Builtin.min2, e]
end
end Hub
end Go.Proofs.Ytmjamjadfnbkdaa
end

section
namespace Go.Proofs.Ytmjamjadfnbkdaa
namespace Hub

/-- The zigzag form of a number, and back. -/
def zig (n : Int) : Nat := if 0 ≤ n then (2 * n).toNat else (-2 * n - 1).toNat
def unzig (z : Nat) : Int := if z % 2 = 1 then -1 - (z / 2 : Nat) else (z / 2 : Nat)
theorem unzig_zig (n : Int) : unzig (zig n) = n := by
  unfold unzig zig; split <;> split <;> omega
theorem zig_unzig (z : Nat) : zig (unzig z) = z := by
  unfold unzig zig; split <;> split <;> omega
theorem zig_lt (n : Int) (h0 : -9223372036854775808 ≤ n) (h1 : n ≤ 9223372036854775807) : zig n < 18446744073709551616 := by
  unfold zig; split <;> omega
theorem unzig_bounds (z : Nat) (h : z < 18446744073709551616) : -9223372036854775808 ≤ unzig z ∧ unzig z ≤ 9223372036854775807 := by
  unfold unzig; split <;> omega

/-- A number in groups of seven bits, the least significant one first. -/
def grp (z : Nat) : List UInt8 := if h : z < 128 then [UInt8.ofNat z] else UInt8.ofNat (z % 128 + 128) :: grp (z / 128)
termination_by z
decreasing_by omega
theorem grp_small (z : Nat) (h : z < 128) : grp z = [UInt8.ofNat z] := by rw [grp, dif_pos h]
theorem grp_big (z : Nat) (h : ¬ z < 128) : grp z = UInt8.ofNat (z % 128 + 128) :: grp (z / 128) := by rw [grp, dif_neg h]
theorem grp_length (k : Nat) : ∀ z, z < 128 ^ (k + 1) → (grp z).length ≤ k + 1 := by
  induction k with
  | zero => intro z h; rw [grp_small z (by omega)]; simp
  | succ k ih =>
    intro z h
    by_cases hz : z < 128
    · rw [grp_small z hz]; simp
    · rw [grp_big z hz, List.length_cons]
      have := ih (z / 128) (by rw [Nat.pow_succ] at h; omega)
      omega
theorem grp_pos (z : Nat) : 0 < (grp z).length := by
  by_cases hz : z < 128
  · rw [grp_small z hz]; simp
  · rw [grp_big z hz]; simp

def enc (n : Int) : List UInt8 := grp (zig n)
theorem enc_length (n : Int) (h0 : -9223372036854775808 ≤ n) (h1 : n ≤ 9223372036854775807) : (enc n).length ≤ 10 :=
  grp_length 9 _ (by have := zig_lt n h0 h1; omega)
theorem enc_pos (n : Int) : 0 < (enc n).length := grp_pos _
def encT (s : List UInt8) : List UInt8 := enc s.length ++ s
def encB (b : Bool) : List UInt8 := if b then [1] else [0]
def encL (l : List Int) : List UInt8 := enc l.length ++ l.flatMap enc

/-- The number at the beginning of a string, read from group i on, with the value z so far: the error's number, the value, what is left. -/
def vi : Nat → Nat → List UInt8 → Int × Nat × List UInt8
  | _, _, [] => (5, 0, [])
  | i, z, c :: l =>
    if (0 < i ∧ c.toNat = 0) ∨ (i = 9 ∧ 1 < c.toNat) then (4, 0, l) else
    if c.toNat < 128 then (0, z + c.toNat * 128 ^ i, l) else vi (i + 1) (z + (c.toNat - 128) * 128 ^ i) l

structure Rs where
  rest : List UInt8
  err : Int
/-- What the reading methods return and leave. -/
def rInt (r : Rs) : Int × Rs :=
  if r.err ≠ 0 then (0, r) else
  if (vi 0 0 r.rest).1 ≠ 0 then (0, { r with err := (vi 0 0 r.rest).1 }) else (unzig (vi 0 0 r.rest).2.1, { rest := (vi 0 0 r.rest).2.2, err := 0 })
def rCount (most : Int) (r : Rs) : Int × Rs :=
  if (rInt r).2.err ≠ 0 then (0, (rInt r).2) else
  if (rInt r).1 < 0 then (0, { (rInt r).2 with err := 4 }) else
  if max most 0 < (rInt r).1 then (0, { (rInt r).2 with err := 3 }) else rInt r
def rText (most : Int) (r : Rs) : List UInt8 × Rs :=
  if (rCount most r).2.err ≠ 0 then ([], (rCount most r).2) else
  if ((rCount most r).2.rest.length : Int) < (rCount most r).1 then ([], { (rCount most r).2 with err := 5 }) else
  ((rCount most r).2.rest.take (rCount most r).1.toNat, { rest := (rCount most r).2.rest.drop (rCount most r).1.toNat, err := 0 })
def rBool (r : Rs) : Bool × Rs :=
  if r.err ≠ 0 then (false, r) else
  match r.rest with
  | [] => (false, { r with err := 5 })
  | c :: l => if 1 < c.toNat then (false, { r with err := 4 }) else (decide (c.toNat = 1), { rest := l, err := 0 })
def rMany : Nat → Rs → List Int × Rs
  | 0, r => ([], r)
  | n + 1, r => ((rInt r).1 :: (rMany n (rInt r).2).1, (rMany n (rInt r).2).2)
def rInts (most : Int) (r : Rs) : List Int × Rs :=
  if (rMany (rCount most r).1.toNat (rCount most r).2).2.err ≠ 0 then ([], (rMany (rCount most r).1.toNat (rCount most r).2).2) else rMany (rCount most r).1.toNat (rCount most r).2
def rLeft (r : Rs) : Int := if r.err ≠ 0 then 0 else r.rest.length
def rEnd (r : Rs) : Int := if r.err ≠ 0 then r.err else if 0 < r.rest.length then 23 else 0
def rFail (e : Int) (r : Rs) : Rs := if r.err = 0 then { r with err := e } else r

/-! ### What is left never grows, and the errors -/
theorem vi_nil (i z : Nat) : vi i z [] = (5, 0, []) := by unfold vi; rfl
theorem vi_cons (i z : Nat) (c : UInt8) (l : List UInt8) : vi i z (c :: l) = if (0 < i ∧ c.toNat = 0) ∨ (i = 9 ∧ 1 < c.toNat) then (4, 0, l) else
    if c.toNat < 128 then (0, z + c.toNat * 128 ^ i, l) else vi (i + 1) (z + (c.toNat - 128) * 128 ^ i) l := by
  rw [vi]
theorem vi_rest (l : List UInt8) : ∀ i z, ∃ k, (vi i z l).2.2 = l.drop k ∧ k ≤ l.length ∧ ((vi i z l).1 = 0 → 0 < k) := by
  induction l with
  | nil => intro i z; rw [vi_nil]; exact ⟨0, rfl, Nat.le_refl _, fun h => by simp at h⟩
  | cons c l ih =>
    intro i z
    rw [vi_cons]
    split
    · exact ⟨1, rfl, by simp, fun h => by simp at h⟩
    · split
      · exact ⟨1, rfl, by simp, fun _ => by omega⟩
      · obtain ⟨k, h1, h2, h3⟩ := ih (i + 1) (z + (c.toNat - 128) * 128 ^ i)
        exact ⟨k + 1, by rw [h1]; rfl, by simp; omega, fun _ => by omega⟩
theorem vi_err (l : List UInt8) : ∀ i z, (vi i z l).1 = 0 ∨ (vi i z l).1 = 4 ∨ (vi i z l).1 = 5 := by
  induction l with
  | nil => intro i z; rw [vi_nil]; exact .inr (.inr rfl)
  | cons c l ih =>
    intro i z
    rw [vi_cons]
    split
    · exact .inr (.inl rfl)
    · split
      · exact .inl rfl
      · exact ih _ _
theorem vi_lt (l : List UInt8) : ∀ i z, i ≤ 9 → z < 128 ^ i → (vi i z l).2.1 < 18446744073709551616 := by
  induction l with
  | nil => intro i z _ _; rw [vi_nil]; decide
  | cons c l ih =>
    intro i z hi hz
    rw [vi_cons]
    have hc := c.toNat_lt
    split
    · show 0 < _; decide
    · rename_i hn
      split
      · rename_i h7
        show z + c.toNat * 128 ^ i < _
        by_cases h9 : i = 9
        · subst h9
          have : c.toNat ≤ 1 := by omega
          have : c.toNat * 128 ^ 9 ≤ 1 * 128 ^ 9 := Nat.mul_le_mul_right _ this
          omega
        · have h1 : c.toNat * 128 ^ i ≤ 127 * 128 ^ i := Nat.mul_le_mul_right _ (by omega)
          have h2 : 128 ^ (i + 1) ≤ 128 ^ 9 := Nat.pow_le_pow_right (by decide) (by omega)
          rw [Nat.pow_succ] at h2
          omega
      · have h9 : i ≠ 9 := by omega
        refine ih (i + 1) _ (by omega) ?_
        have h1 : (c.toNat - 128) * 128 ^ i ≤ 127 * 128 ^ i := Nat.mul_le_mul_right _ (by omega)
        rw [Nat.pow_succ]
        omega
/-- A number that was written is read back, whatever stands behind it. -/
theorem vi_grp (m : List UInt8) (k : Nat) : ∀ (i z y : Nat), i + k = 9 → y < 2 * 128 ^ k → (0 < i → 0 < y) → vi i z (grp y ++ m) = (0, z + y * 128 ^ i, m) := by
  induction k with
  | zero =>
    intro i z y hi hy h0
    have hi9 : i = 9 := by omega
    subst hi9
    have h0' := h0 (by decide)
    obtain rfl : y = 1 := by omega
    have e1 : (UInt8.ofNat 1).toNat = 1 := rfl
    rw [grp_small 1 (by decide), List.singleton_append, vi_cons, e1, if_neg (by omega), if_pos (by omega)]
  | succ k ih =>
    intro i z y hi hy h0
    by_cases hs : y < 128
    · rw [grp_small y hs, List.singleton_append, vi_cons]
      have e : (UInt8.ofNat y).toNat = y := by simp; omega
      rw [e, if_neg (by omega), if_pos hs]
    · rw [grp_big y hs, List.cons_append, vi_cons]
      have e : (UInt8.ofNat (y % 128 + 128)).toNat = y % 128 + 128 := by simp; omega
      rw [e, if_neg (by omega), if_neg (by omega), ih (i + 1) _ (y / 128) (by omega) (by rw [Nat.pow_succ] at hy; omega) (by omega)]
      have : z + (y % 128 + 128 - 128) * 128 ^ i + y / 128 * 128 ^ (i + 1) = z + y * 128 ^ i := by
        rw [Nat.pow_succ]
        generalize 128 ^ i = p
        have h1 : y = y % 128 + y / 128 * 128 := by omega
        have h2 : y * p = y % 128 * p + y / 128 * (p * 128) := by
          conv => lhs; rw [h1]
          rw [Nat.add_mul, Nat.mul_assoc (y / 128) 128 p, Nat.mul_comm 128 p]
        rw [Nat.add_sub_cancel, h2, Nat.add_assoc]
      rw [this]
theorem vi_enc (n : Int) (m : List UInt8) (h0 : -9223372036854775808 ≤ n) (h1 : n ≤ 9223372036854775807) : vi 0 0 (enc n ++ m) = (0, zig n, m) := by
  rw [enc, vi_grp m 9 0 0 (zig n) rfl (by have := zig_lt n h0 h1; omega) (by omega)]; simp
/-- What was read is written as the same bytes. -/
theorem vi_canon (l : List UInt8) : ∀ i z, i ≤ 9 → z < 128 ^ i → (vi i z l).1 = 0 → ∃ y, (vi i z l).2.1 = z + y * 128 ^ i ∧ (0 < i → 0 < y) ∧ l = grp y ++ (vi i z l).2.2 := by
  induction l with
  | nil => intro i z _ _ h; rw [vi_nil] at h; simp at h
  | cons c l ih =>
    intro i z hi hz
    rw [vi_cons]
    have hc := c.toNat_lt
    split
    · intro h; simp at h
    · rename_i hn
      split
      · rename_i h7
        intro _
        exact ⟨c.toNat, rfl, fun h => by omega, by rw [grp_small _ h7]; simp⟩
      · intro h
        have h9 : i ≠ 9 := by omega
        have hz' : z + (c.toNat - 128) * 128 ^ i < 128 ^ (i + 1) := by
          have h1 : (c.toNat - 128) * 128 ^ i ≤ 127 * 128 ^ i := Nat.mul_le_mul_right _ (by omega)
          rw [Nat.pow_succ]; omega
        obtain ⟨y, h1, h2, h3⟩ := ih (i + 1) _ (by omega) hz' h
        refine ⟨(c.toNat - 128) + 128 * y, ?_, fun _ => by have := h2 (by omega); omega, ?_⟩
        · rw [h1, Nat.pow_succ, Nat.add_mul, Nat.mul_comm (128 ^ i) 128, ← Nat.mul_assoc, Nat.mul_comm 128 y]; omega
        · have := h2 (by omega)
          rw [grp_big _ (by omega)]
          have e1 : ((c.toNat - 128) + 128 * y) % 128 + 128 = c.toNat := by omega
          have e2 : ((c.toNat - 128) + 128 * y) / 128 = y := by omega
          rw [e1, e2, List.cons_append, ← h3]; simp
theorem vi_canon0 (l : List UInt8) (h : (vi 0 0 l).1 = 0) : l = enc (unzig (vi 0 0 l).2.1) ++ (vi 0 0 l).2.2 := by
  obtain ⟨y, h1, _, h3⟩ := vi_canon l 0 0 (by decide) (by decide) h
  have : (vi 0 0 l).2.1 = y := by rw [h1]; simp
  rw [enc, zig_unzig, this]; exact h3
theorem rInt_bad (r : Rs) (h : r.err ≠ 0) : rInt r = (0, r) := by rw [rInt, if_pos h]
theorem rCount_nonneg (m : Int) (r : Rs) : 0 ≤ (rCount m r).1 := by
  rw [rCount]
  split
  · exact Int.le_refl _
  · split
    · exact Int.le_refl _
    · split
      · exact Int.le_refl _
      · omega
theorem rMany_succ (n : Nat) : ∀ r, rMany (n + 1) r = ((rMany n r).1 ++ [(rInt (rMany n r).2).1], (rInt (rMany n r).2).2) := by
  induction n with
  | zero => intro r; rfl
  | succ n ih =>
    intro r
    have e : rMany (n + 1 + 1) r = ((rInt r).1 :: (rMany (n + 1) (rInt r).2).1, (rMany (n + 1) (rInt r).2).2) := rfl
    have e2 : rMany (n + 1) r = ((rInt r).1 :: (rMany n (rInt r).2).1, (rMany n (rInt r).2).2) := rfl
    rw [e, ih, e2]; rfl
theorem rMany_length (n : Nat) : ∀ r, (rMany n r).1.length = n := by
  induction n with
  | zero => intro r; rfl
  | succ n ih => intro r; show ((rInt r).1 :: (rMany n (rInt r).2).1).length = _; rw [List.length_cons, ih]
theorem rInt_rest (r : Rs) : ∃ k, (rInt r).2.rest = r.rest.drop k ∧ k ≤ r.rest.length ∧ ((rInt r).2.err = 0 → 0 < k) := by
  rw [rInt]
  split
  · rename_i h; exact ⟨0, rfl, Nat.zero_le _, fun h' => absurd h' h⟩
  · rename_i h
    obtain ⟨k, h1, h2, h3⟩ := vi_rest r.rest 0 0
    split
    · rename_i h4; exact ⟨0, rfl, Nat.zero_le _, fun h' => absurd h' h4⟩
    · rename_i h4; exact ⟨k, h1, h2, fun _ => h3 (by omega)⟩
theorem rInt_le (r : Rs) : (rInt r).2.rest.length ≤ r.rest.length := by
  obtain ⟨k, h1, _, _⟩ := rInt_rest r; rw [h1, List.length_drop]; omega
theorem rInt_lt (r : Rs) (h : (rInt r).2.err = 0) : (rInt r).2.rest.length < r.rest.length := by
  obtain ⟨k, h1, h2, h3⟩ := rInt_rest r
  have := h3 h
  rw [h1, List.length_drop]; omega
theorem rInt_bounds (r : Rs) : -9223372036854775808 ≤ (rInt r).1 ∧ (rInt r).1 ≤ 9223372036854775807 := by
  rw [rInt]
  split
  · exact ⟨by simp, by simp⟩
  · split
    · exact ⟨by simp, by simp⟩
    · exact unzig_bounds _ (vi_lt r.rest 0 0 (by decide) (by decide))
theorem rInt_err (r : Rs) (h : r.err ≠ 0) : (rInt r).2.err ≠ 0 := by rw [rInt_bad r h]; exact h
theorem rMany_bad (n : Nat) : ∀ r, r.err ≠ 0 → (rMany n r).2 = r := by
  induction n with
  | zero => intro r _; rfl
  | succ n ih => intro r h; show (rMany n (rInt r).2).2 = r; rw [rInt_bad r h]; exact ih r h
theorem rMany_split (a b : Nat) : ∀ r, (rMany (a + b) r).2 = (rMany b (rMany a r).2).2 := by
  induction a with
  | zero => intro r; rw [Nat.zero_add]; rfl
  | succ a ih =>
    intro r
    rw [Nat.add_right_comm]
    show (rMany (a + b) (rInt r).2).2 = (rMany b (rMany a (rInt r).2).2).2
    exact ih _
theorem rCount_le (m : Int) (r : Rs) : (rCount m r).1 ≤ max m 0 := by
  rw [rCount]
  split
  · show (0 : Int) ≤ _; omega
  · split
    · show (0 : Int) ≤ _; omega
    · split
      · show (0 : Int) ≤ _; omega
      · omega
theorem rCount_max (m : Int) (r : Rs) : (rCount m r).1 ≤ 9223372036854775807 := by
  have h := rInt_bounds r
  rw [rCount]
  split
  · show (0 : Int) ≤ _; omega
  · split
    · show (0 : Int) ≤ _; omega
    · split
      · show (0 : Int) ≤ _; omega
      · omega
/-- What is left when one reads numbers till there is an error. -/
def rTill : Nat → Rs → Rs
  | 0, r => r
  | n + 1, r => if r.err ≠ 0 then r else rTill n (rInt r).2
theorem rTill_many (n : Nat) : ∀ r, (rMany n r).2 = rTill n r := by
  induction n with
  | zero => intro r; rfl
  | succ n ih =>
    intro r
    show (rMany n (rInt r).2).2 = _
    rw [rTill]
    split
    · rename_i h; rw [rInt_bad r h]; exact rMany_bad n r h
    · exact ih _
theorem rTill_err (n : Nat) : ∀ r, r.rest.length < n → (rTill n r).err ≠ 0 := by
  induction n with
  | zero => intro r h; omega
  | succ n ih =>
    intro r h
    rw [rTill]
    split
    · assumption
    · rename_i hr
      by_cases he : (rInt r).2.err = 0
      · exact ih _ (by have := rInt_lt r he; omega)
      · cases n with
        | zero => exact he
        | succ n => rw [rTill, if_pos he]; exact he
end Hub
end Go.Proofs.Ytmjamjadfnbkdaa
end

section
open Go Go.RowKit Go.Proofs
namespace Go.Proofs.Ytmjamjadfnbkdaa
namespace Hub

/-- v is a slice of the call's own, from block 'base' on (or nil), that holds the bytes l. -/
def OwnB (w : World) (base : Nat) (v : Value) (l : List UInt8) : Prop := w.ownsRow base 5 1 v l.length (vals l)
theorem vals_length (l : List UInt8) : (vals l).length = l.length := by simp [vals]
theorem vals_append (a b : List UInt8) : vals (a ++ b) = vals a ++ vals b := by simp [vals]
theorem strCells_vals (s : ByteArray) : Lib.strCells s = vals (bl s) := rfl
theorem OwnB.nil (w : World) (base : Nat) : OwnB w base (.slice none 0 0) [] := World.ownsRow_nil w base _ _
theorem OwnB.alloc {w : World} {base : Nat} {v : Value} {l : List UInt8} (h : OwnB w base v l) (o : Obj) : OwnB (w.alloc o) base v l := World.ownsRow.alloc h o
theorem OwnB.drew {w : World} {base : Nat} {v : Value} {l : List UInt8} (h : OwnB w base v l) : OwnB w.drew base v l := h
theorem OwnB.below {w w' : World} {base N : Nat} {v : Value} {l : List UInt8} (h : OwnB w base v l) (hb : Below N w w') (hN : w.heap.size ≤ N) : OwnB w' base v l := by
  refine World.ownsRow.kept (row := none) h ⟨hb.os, hb.tape, hb.output, hb.size, fun k hk _ => hb.block k (by omega)⟩ ?_
  cases hv : v.ownBlock with
  | none => exact .inl rfl
  | some k => exact .inr (by simp)
theorem OwnB.lit (w : World) (base : Nat) (cs : Array Value) (l : List UInt8) (hc : cs.toList = vals l) (hb : base ≤ w.heap.size) (hl : l.length ≤ 1099511627776) :
    OwnB (w.alloc (.cells cs 5)) base (.slice (some ⟨w.heap.size, 0, none⟩) l.length l.length) l := by
  have := World.ownsRow_lit (e := 5) (size := 1) w cs l.length hb (by unfold maxLen; omega) (by rw [← Array.length_toList, hc, vals_length]; omega)
  rw [hc] at this; exact this
theorem vals_one (l : List UInt8) : ∀ u ∈ vals l, u.oneCell' = true := by
  intro u hu; simp only [vals, List.mem_map] at hu; obtain ⟨b, _, rfl⟩ := hu; rfl
theorem grown_below {base : Nat} {w w' : World} {v : Value} {n : Nat} {xs : List Value} {e : TypeId} (hown : w.ownsRow base e 1 v n xs) (hg : w.grownBy w' v.ownBlock) (hb : base ≤ w.heap.size) : Below base w w' :=
  (Below.refl _ _).grown hg hb fun k hk => (hown.lt k hk).1

section
variable {w : World} {ops : Array Oper} {rest : List Oper} {o : Oper} {a : Act} {Q : Exit → Act → World → Prop}
theorem u8_info : (Try.prog.info? 5).map (fun i => (i.zero, i.size, i.bytes)) = some (some (.int .u8 0), 1, 1) := by kernel_rfl

theorem step_appS (hgd : o.guard = none) (sl x : Operand) (ho : o.op = .call { callee := .builtin .append, args := #[sl, x], argTypes := #[46, 9] })
    (base : Nat) (v : Value) (l : List UInt8) (hs : a.eval sl = v) (hown : OwnB w base v l) (s : ByteArray) (hx : a.eval x = .string s) (hlen : l.length + s.size ≤ 1099511627776) (hbase : base ≤ w.heap.size)
    (h : ∀ v' w', OwnB w' base v' (l ++ bl s) → Below base w w' → wpList Try.prog ops Q rest (a.put o.dst v') w') : wpList Try.prog ops Q (o :: rest) a w := by
  obtain ⟨i, h2, hz0, hz1, hz2⟩ := info_parts u8_info
  refine Lib.wpList_append_own_string w hgd sl x 46 9 ho base 5 i Try.underlying46 Try.underlying9 h2 hz0 hz1 hz2 v l.length (vals l) hs hown s hx (by unfold maxLen; omega) (by omega) hbase ?_
  intro v' w' hown' hg _
  refine h v' w' ?_ (grown_below hown hg hbase)
  unfold OwnB
  rw [vals_append, List.length_append, size_bl, ← strCells_vals]; exact hown'

theorem step_appB (hgd : o.guard = none) (sl x : Operand) (ho : o.op = .call { callee := .builtin .append, args := #[sl, x], argTypes := #[46, 46] })
    (base : Nat) (v : Value) (l m : List UInt8) (c B : Nat) (hs : a.eval sl = v) (hown : OwnB w base v l) (hx : a.eval x = .slice (some ⟨B, 0, none⟩) m.length c)
    (hm : ∀ j (hj : j < m.length), w.cell? ⟨B, j, none⟩ = some (.int .u8 (m[j].toNat : Int))) (hlen : l.length + m.length ≤ 1099511627776) (hbase : base ≤ w.heap.size)
    (h : ∀ v' w', OwnB w' base v' (l ++ m) → Below base w w' → wpList Try.prog ops Q rest (a.put o.dst v') w') : wpList Try.prog ops Q (o :: rest) a w := by
  obtain ⟨i, h2, hz0, hz1, hz2⟩ := info_parts u8_info
  refine wpList_append_own w hgd sl x 46 ho base 5 i (.int .u8 0) 1 1 Try.underlying46 h2 hz0 hz1 hz2 rfl (by omega) v l.length (vals l) hs hown ⟨B, 0, none⟩ m.length c (vals m) hx (by rw [vals_length]; omega) ?_ (vals_one m) (by unfold maxLen; omega) (by omega) hbase ?_
  · intro j u hu
    have hj : j < m.length := by
      have := (List.getElem?_eq_some_iff.1 hu).1
      rwa [vals_length] at this
    rw [add_plain, hm j hj]
    simp only [vals, List.getElem?_map, List.getElem?_eq_getElem hj, Option.map_some] at hu
    exact hu
  · intro v' w' hown' hg _
    refine h v' w' ?_ (grown_below hown hg hbase)
    unfold OwnB
    rw [vals_append, List.length_append]; exact hown'

theorem own_conv {base : Nat} {v : Value} {l : List UInt8} (hown : OwnB w base v l) : (convert 46 9 v).run Try.prog w = .ok (.string (mk l)) w := by
  rcases hown.2 with ⟨rfl, h0⟩ | ⟨g, cap, cur, rfl, _, hg, _, _, _, htake⟩
  · have : l = [] := List.length_eq_zero_iff.1 h0
    subst this
    exact run_convert_bytes_nil (P := Try.prog) w 46 5 Try.underlying46 Try.underlying5 0 0 9 Try.underlying9
  · refine run_convert_bytes_back (P := Try.prog) w 46 9 5 ⟨g, 0, none⟩ cap l Try.underlying46 Try.underlying5 Try.underlying9 fun j hj => ?_
    rw [add_plain]
    have := World.ownsRow.cellAt hown j (by omega)
    rw [this]
    simp [vals, List.getElem?_eq_getElem hj]

theorem step_strO (hgd : o.guard = none) (x : Operand) (ho : o.op = .convert 46 9 x) (base : Nat) (v : Value) (l : List UInt8)
    (hx : a.eval x = v) (hown : OwnB w base v l) (h : wpList Try.prog ops Q rest (a.put o.dst (.string (mk l))) w) : wpList Try.prog ops Q (o :: rest) a w := by
  refine wpList_plain hgd fun K hK => ?_
  have hr := own_conv hown
  unfold Oper.wp execOp
  simp only [ho, Sem.run_bind, Sem.run_pure, hx, hr, Result.andThen_ok]
  exact hK _ _ h
end
end Hub
end Go.Proofs.Ytmjamjadfnbkdaa
end

section
open Go Go.RowKit Go.Proofs
namespace Go.Proofs.Ytmjamjadfnbkdaa
namespace Hub
theorem or128_nat : ∀ x : Fin 256, (x.val ||| 128) = x.val % 128 + 128 := by decide +kernel
theorem bits_or_nat (k : IntKind) (a b : Nat) (ha : a < 2 ^ k.bits) (hb : b < 2 ^ k.bits) : bits .or k (a : Int) (b : Int) = k.wrap ((a ||| b : Nat) : Int) := by
  simp only [bits, BitVec.ofInt_natCast, BitVec.toNat_or, BitVec.toNat_ofNat, Nat.mod_eq_of_lt ha, Nat.mod_eq_of_lt hb]
theorem u8_top (z : Int) (h : 0 ≤ z) : bits .or .u8 (z % 256) 128 = ((UInt8.ofNat (z.toNat % 128 + 128)).toNat : Int) := by
  obtain ⟨m, rfl⟩ := Int.eq_ofNat_of_zero_le h
  have e : ((m : Int) % 256) = ((m % 256 : Nat) : Int) := by omega
  have f := or128_nat ⟨m % 256, by omega⟩
  have g : (UInt8.ofNat (m % 128 + 128)).toNat = m % 128 + 128 := by simp; omega
  simp only at f
  rw [e, show (128 : Int) = ((128 : Nat) : Int) from rfl]
  rw [bits_or_nat .u8 _ _ (by simp [IntKind.bits]; omega) (by simp [IntKind.bits]), f, Int.toNat_natCast, g]
  simp only [IntKind.wrap, IntKind.bits, IntKind.signed, Bool.false_and]
  simp; omega
theorem u8_low (z : Int) (h : 0 ≤ z) (h1 : z < 128) : z = ((UInt8.ofNat z.toNat).toNat : Int) := by
  have g : (UInt8.ofNat z.toNat).toNat = z.toNat := by simp; omega
  rw [g]; omega
theorem zig_prog (n : Int) (h0 : -9223372036854775808 ≤ n) (h1 : n ≤ 9223372036854775807) : bits BinOp.xor IntKind.u64 (IntKind.u64.wrap (IntKind.u64.wrap n * 2)) (IntKind.u64.wrap (n / 9223372036854775808)) = (zig n : Int) := by
  by_cases hn : 0 ≤ n
  · have e1 : IntKind.u64.wrap n = n := IntWalk.u64_in _ ⟨by omega, by omega⟩
    have e2 : IntKind.u64.wrap (n * 2) = n * 2 := IntWalk.u64_in _ ⟨by omega, by omega⟩
    have e3 : n / 9223372036854775808 = 0 := by omega
    have e4 : IntKind.u64.wrap 0 = ((0 : Nat) : Int) := rfl
    have e5 : n * 2 = ((zig n : Nat) : Int) := by unfold zig; rw [if_pos hn]; omega
    rw [e1, e2, e3, e4, e5, u64_xor_nat _ _ (by have := zig_lt n h0 h1; omega) (by decide), Nat.xor_zero]
  · have e3 : n / 9223372036854775808 = -1 := by omega
    have e4 : IntKind.u64.wrap (-1) = ((18446744073709551615 : Nat) : Int) := rfl
    have e1 : IntKind.u64.wrap n = n + 18446744073709551616 := by simp only [IntKind.wrap, IntKind.bits, IntKind.signed, Bool.false_and]; simp; omega
    have e2 : IntKind.u64.wrap ((n + 18446744073709551616) * 2) = ((18446744073709551615 - zig n : Nat) : Int) := by
      unfold zig; rw [if_neg hn]; simp only [IntKind.wrap, IntKind.bits, IntKind.signed, Bool.false_and]; simp; omega
    rw [e3, e4, e1, e2, u64_xor_nat _ _ (by omega) (by decide)]
    have hz := zig_lt n h0 h1
    generalize zig n = z at *
    have g := (BitVec.xor_allOnes (x := BitVec.ofNat 64 (18446744073709551615 - z)))
    have k := congrArg BitVec.toNat g
    rw [BitVec.toNat_xor, BitVec.toNat_allOnes, BitVec.toNat_not, BitVec.toNat_ofNat, Nat.mod_eq_of_lt (by omega)] at k
    rw [show (18446744073709551615 : Nat) = 2 ^ 64 - 1 from rfl] at *
    rw [k]; omega
theorem zig_ref0 (n : Int) (hn : 0 ≤ n) : n * 2 = (zig n : Int) := by unfold zig; rw [if_pos hn]; omega
theorem zig_ref1 (n : Int) (hn : ¬ 0 ≤ n) (h0 : -9223372036854775808 ≤ n) : bits BinOp.xor IntKind.u64 IntKind.u64.max (IntKind.u64.wrap (IntKind.u64.wrap n * 2)) = (zig n : Int) := by
  have e4 : IntKind.u64.max = ((18446744073709551615 : Nat) : Int) := rfl
  have e1 : IntKind.u64.wrap n = n + 18446744073709551616 := by simp only [IntKind.wrap, IntKind.bits, IntKind.signed, Bool.false_and]; simp; omega
  have e2 : IntKind.u64.wrap ((n + 18446744073709551616) * 2) = ((18446744073709551615 - zig n : Nat) : Int) := by
    unfold zig; rw [if_neg hn]; simp only [IntKind.wrap, IntKind.bits, IntKind.signed, Bool.false_and]; simp; omega
  rw [e4, e1, e2, u64_xor_nat _ _ (by decide) (by omega)]
  have hz := zig_lt n h0 (by omega)
  generalize zig n = z at *
  have g := (BitVec.xor_allOnes (x := BitVec.ofNat 64 (18446744073709551615 - z)))
  have k := congrArg BitVec.toNat g
  rw [BitVec.toNat_xor, BitVec.toNat_allOnes, BitVec.toNat_not, BitVec.toNat_ofNat, Nat.mod_eq_of_lt (by omega), Nat.xor_comm] at k
  rw [show (18446744073709551615 : Nat) = 2 ^ 64 - 1 from rfl] at *
  rw [k]; omega
theorem u8_top2 (z : Int) (h : 0 ≤ z) : z % 128 + 128 = ((UInt8.ofNat (z.toNat % 128 + 128)).toNat : Int) := by
  have g : (UInt8.ofNat (z.toNat % 128 + 128)).toNat = z.toNat % 128 + 128 := by simp; omega
  rw [g]; omega
theorem wi_quo (k : Nat) (z : Int) (hz0 : 0 ≤ z) (hz : z.toNat < 128 ^ (9 - k) * 2) : IntKind.u64.wrap (z.tdiv 128) = z / 128 := by
  have h : 128 ^ (9 - k) ≤ 128 ^ 9 := Nat.pow_le_pow_right (by decide) (by omega)
  rw [Int.tdiv_eq_ediv_of_nonneg hz0]
  exact IntWalk.u64_in _ ⟨by omega, by omega⟩
theorem wi_step (n : Int) (l : List UInt8) (z : Int) (c : UInt8) (_hz0 : 0 ≤ z) (h : 128 ≤ z) (hz : z.toNat < 128 ^ (9 - l.length) * 2) (hl : l.length ≤ 9) (hc : c = UInt8.ofNat (z.toNat % 128 + 128)) (hg : l ++ grp z.toNat = enc n) :
    (z / 128).toNat < 128 ^ (9 - (l ++ [c]).length) * 2 ∧ (l ++ [c]).length ≤ 9 ∧ (l ++ [c]) ++ grp (z / 128).toNat = enc n := by
  have e : (z / 128).toNat = z.toNat / 128 := by omega
  have hl9 : l.length ≠ 9 := by
    intro h9; rw [h9] at hz; simp at hz; omega
  refine ⟨?_, by simp; omega, ?_⟩
  · rw [e, List.length_append, List.length_singleton]
    obtain ⟨k, hk⟩ : ∃ k, 9 - l.length = k + 1 := ⟨8 - l.length, by omega⟩
    rw [hk, Nat.pow_succ] at hz
    rw [show 9 - (l.length + 1) = k from by omega]
    omega
  · rw [e, ← hg, grp_big z.toNat (by omega), ← hc]; simp
theorem wi_last (n : Int) (l : List UInt8) (z : Int) (c : UInt8) (_hz0 : 0 ≤ z) (h : z < 128) (hc : c = UInt8.ofNat z.toNat) (hg : l ++ grp z.toNat = enc n) : mk (l ++ [c]) = mk (enc n) := by
  rw [← hg, grp_small z.toNat (by omega), ← hc]
end Hub
open Hub

end Go.Proofs.Ytmjamjadfnbkdaa
end

section
open Go Go.RowKit Go.Proofs Go.Shelf
namespace Go.Proofs.Ytmjamjadfnbkdaa
namespace Hub
def ren169 : Go.Shelf.Ren := ⟨fun | 169 => 40 | n => n, fun | 70 => 56 | 9 => 9 | 0 => 0 | 72 => 58 | 37 => 46 | 127 => 65 | 3 => 3 | 5 => 5 | n => n, fun | n => n⟩
theorem lays169 : Go.Proofs.Lays.n169 Try.prog ren169 := {
  mixed := by kernel_rfl
  f169 := Try.func40.trans (congrArg some (by kernel_rfl))
  t0 := Try.underlying0
  a0 := Try.isAgg0
  z0 := Try.sizeOf0
  v0 := Try.zeroValue0
  t3 := Try.underlying3
  a3 := Try.isAgg3
  z3 := Try.sizeOf3
  v3 := Try.zeroValue3
  t9 := Try.underlying9
  a9 := Try.isAgg9
  z9 := Try.sizeOf9
  v9 := Try.zeroValue9
  t37 := Try.underlying46
  a37 := Try.isAgg46
  z37 := Try.sizeOf46
  v37 := Try.zeroValue46
  t70 := Try.underlying56
  a70 := Try.isAgg56
  z70 := Try.sizeOf56
  v70 := Try.zeroValue56
  t72 := Try.underlying58
  a72 := Try.isAgg58
  z72 := Try.sizeOf58
  v72 := Try.zeroValue58
  t127 := Try.underlying65
  a127 := Try.isAgg65
  z127 := Try.sizeOf65
  v127 := Try.zeroValue65 }
theorem extra169 : Builder.Extra Try.prog ren169 := {
  sizeBuilder := by kernel_rfl
  liesBuilder := by kernel_rfl
  t5 := Try.underlying5
  a5 := Try.isAgg5
  z5 := Try.sizeOf5
  v5 := Try.zeroValue5
  infoByte := by kernel_rfl
  cellsByte := by kernel_rfl
  sizeByte := by kernel_rfl
  neB5 := by decide }

/-- A builder of the call's own, in block b, that holds the bytes l; whatever it owns lies from block b on. -/
def IsBld (b : Nat) (l : List UInt8) (w : World) : Prop := Lib.IsBuilder 58 5 b b (vals l) w
theorem IsBld.fresh (w : World) : IsBld w.heap.size [] (w.alloc (.cells #[.pointer none, .slice none 0 0] 58)) := Lib.fresh_isBuilder _ _ w
theorem bldAt_below {b N : Nat} {p : Value} {bs : List Value} {w w' : World} (h : Lib.BuilderAt 58 5 b b p bs w) (hb : Below N w w') (hN : w.heap.size ≤ N) : Lib.BuilderAt 58 5 b b p bs w' := by
  have hlt := h.lt
  obtain ⟨hB, v, hbk, hown, hne⟩ := h
  refine ⟨hB, v, by rw [hb.block b (by omega)]; exact hbk, ?_, hne⟩
  refine World.ownsRow.kept (row := none) hown ⟨hb.os, hb.tape, hb.output, hb.size, fun k hk _ => hb.block k (by omega)⟩ ?_
  cases hv : v.ownBlock with
  | none => exact .inl rfl
  | some k => exact .inr (by simp)
theorem IsBld.below {b N : Nat} {l : List UInt8} {w w' : World} (h : IsBld b l w) (hb : Below N w w') (hN : w.heap.size ≤ N) : IsBld b l w' :=
  h.elim (fun x => .inl (bldAt_below x hb hN)) (fun x => .inr (bldAt_below x hb hN))
theorem IsBld.lt {b : Nat} {l : List UInt8} {w : World} (h : IsBld b l w) : b < w.heap.size := h.elim (·.lt) (·.lt)

theorem bldString (b : Nat) (l : List UInt8) (w : World) (h : IsBld b l w) :
    Calls Try.prog 40 #[.pointer (some ⟨b, 0, none⟩)] w fun e w' => e = .returned (.string (mk l)) ∧ Below b w w' :=
  Any.Builder_String_any lays169 extra169 b b l w h (Nat.le_of_lt h.lt)

set_option maxHeartbeats 1000000 in
set_option maxRecDepth 100000 in
theorem bldCheck (b : Nat) (l : List UInt8) (w : World) (h : IsBld b l w) :
    Calls Try.prog 43 #[.pointer (some ⟨b, 0, none⟩)] w fun e w' => e = .returned (.tuple #[]) ∧ Lib.BuilderAt 58 5 b b (.pointer (some ⟨b, 0, none⟩)) (vals l) w' ∧ Below b w w' ∧ w'.heap.size = w.heap.size := by
  obtain ⟨j, hj, hjs⟩ := Option.map_eq_some_iff.1 extra169.sizeBuilder
  rcases h with h | h
  · have h0 := h.cell0
    have hsh := h.shape
    have hfz := h.frozen0
    go_enter Try.func43, Try.ntmps43
    go_wp2
    rw [Lib.run_to_unsafe w ⟨b, 0, none⟩ Try.underlying56 Try.underlying66 hj (by rw [hjs]; decide) hsh (Nat.zero_lt_succ 1)]
    simp only [Result.andThen]
    rw [Oper.upon_value]
    go_wp2
    rw [run_callFunc_extern Try.func45 (by kernel_rfl) (by kernel_rfl) (by kernel_rfl) (e := Extern.AbiNoEscape.same) (by kernel_rfl)]
    rw [Lib.run_noEscape]
    simp only [Result.andThen]
    rw [Oper.upon_value]
    go_wp2
    rw [Lib.run_from_unsafe w ⟨b, 0, none⟩ Try.underlying66 Try.underlying56 hj hsh extra169.liesBuilder]
    simp only [Result.andThen]
    rw [Oper.upon_value]
    go_wp2
    go_end0
    exact ⟨rfl, h.used _, (Below.refl b w).setCell (p := ⟨b, 0, none⟩) (Nat.le_refl _) _, by simp [World.setCell]⟩
  · have h0 := h.cell0
    go_enter Try.func43, Try.ntmps43
    go_wp2
    rw [Lib.run_neq_ptr_same w _ Try.underlying56 hj]
    go_wp2
    go_end0
    exact ⟨rfl, h, Below.refl b _, rfl⟩

set_option maxHeartbeats 1000000 in
set_option maxRecDepth 100000 in
theorem bldWrite (b : Nat) (l : List UInt8) (s : ByteArray) (w : World) (h : IsBld b l w) (hlen : l.length + s.size ≤ 140737488355328) :
    Calls Try.prog 39 #[.pointer (some ⟨b, 0, none⟩), .string s] w fun e w' => e = .returned (.tuple #[.int .i64 s.size, .nilIface]) ∧ IsBld b (l ++ bl s) w' ∧ Below b w w' := by
  obtain ⟨i0, hi, hz0, hz1, hz2⟩ := info_parts u8_info
  have hlb := h.lt
  go_enter Try.func39, Try.ntmps39
  go_wp2_with (go_at_call 43; refine (bldCheck b l _ h).mono ?_)
  rintro e w1 ⟨rfl, h1, hb1, hs1⟩
  obtain ⟨hB, v, hbk, hown, hne⟩ := h1
  have c0 : w1.cell? ⟨b, 0, none⟩ = some (.pointer (some ⟨b, 0, none⟩)) := by rw [Lib.cell_of_heap hbk]; rfl
  have c1 : w1.cell? ⟨b, 1, none⟩ = some v := by rw [Lib.cell_of_heap hbk]; rfl
  go_wp2_with (at_builtin; refine Lib.wpList_append_own_string _ rfl _ _ 46 9 rfl b 5 i0 Try.underlying46 Try.underlying9 hi hz0 hz1 hz2 _ _ _ rfl hown s rfl ?c3 ?c4 ?c5 ?_)
  case c3 => rw [vals_length]; unfold maxLen; omega
  case c4 => rw [vals_length]; omega
  case c5 => omega
  intro v' w2 hown' hgrow _
  have hb2 : w2.heap[b]? = some (.cells #[.pointer (some ⟨b, 0, none⟩), v] 58 (0, 0)) := by
    rw [hgrow.block b (by omega) (fun e => hne e.symm)]
    exact hbk
  have d0 : w2.cell? ⟨b, 0, none⟩ = some (.pointer (some ⟨b, 0, none⟩)) := by rw [Lib.cell_of_heap hb2]; rfl
  have d1 : w2.cell? ⟨b, 1, none⟩ = some v := by rw [Lib.cell_of_heap hb2]; rfl
  have f1 : w2.frozen? ⟨b, 1, none⟩ = false := Lib.frozen_of_heap hb2 1
  obtain ⟨ao, n', cap, rfl⟩ : ∃ ao n' cap, v' = .slice ao n' cap := by
    rcases hown'.2 with ⟨hv, _⟩ | ⟨g, cap, cur, hv, _⟩
    · exact ⟨_, _, _, hv⟩
    · exact ⟨_, _, _, hv⟩
  go_wp2
  go_ret2
  refine ⟨rfl, .inr ?_, ?_⟩
  · refine Lib.BuilderAt.put (T := 58) (e := 5) hB hb2 (bs' := vals (l ++ bl s)) ?_ extra169.neB5
    have : vals (l ++ bl s) = vals l ++ Lib.strCells s := by rw [vals_append, strCells_vals]
    rw [this]
    simpa [Lib.strCells_length] using hown'
  · exact (hb1.grown hgrow (by omega) (fun k hk => (hown.lt k hk).1)).setCell (p := ⟨b, 1, none⟩) hB _
end Hub
end Go.Proofs.Ytmjamjadfnbkdaa
end

section
open Go Go.RowKit Go.Proofs
namespace Go.Proofs.Ytmjamjadfnbkdaa
namespace Hub
/-- The slice v holds the numbers l, in a block from lo on, below N. -/
def IntsAt (lo N : Nat) (w : World) (v : Value) (l : List Int) : Prop :=
  ∃ a cap, v = .slice a l.length cap ∧ (l ≠ [] → ∃ b off, a = some ⟨b, off, none⟩ ∧ lo ≤ b ∧ b < N ∧ ∀ i (h : i < l.length), w.cell? ⟨b, off + i, none⟩ = some (.int .i64 l[i]))
theorem IntsAt.below {lo N M : Nat} {w w' : World} {v : Value} {l : List Int} (h : IntsAt lo N w v l) (hb : Below M w w') (hN : N ≤ M) : IntsAt lo N w' v l := by
  obtain ⟨a, cap, hv, hc⟩ := h
  refine ⟨a, cap, hv, fun hne => ?_⟩
  obtain ⟨b, off, ha, hlo, hbN, hcell⟩ := hc hne
  exact ⟨b, off, ha, hlo, hbN, fun i hi => by rw [hb.cell (p := ⟨b, off + i, none⟩) (by show b < M; omega)]; exact hcell i hi⟩
def IntB (l : List Int) : Prop := ∀ x ∈ l, -9223372036854775808 ≤ x ∧ x ≤ 9223372036854775807
theorem IntB.get {l : List Int} (h : IntB l) {i : Nat} (hi : i < l.length) : -9223372036854775808 ≤ l[i] ∧ l[i] ≤ 9223372036854775807 := h _ (List.getElem_mem hi)
theorem encs_length (l : List Int) (h : IntB l) : (l.flatMap enc).length ≤ 10 * l.length := by
  induction l with
  | nil => simp
  | cons a l ih =>
    rw [List.flatMap_cons, List.length_append, List.length_cons]
    have h1 := enc_length a (h a (by simp)).1 (h a (by simp)).2
    have h2 := ih (fun x hx => h x (by simp [hx]))
    omega
theorem encs_take (l : List Int) (k : Nat) (h : k < l.length) : (l.take (k + 1)).flatMap enc = (l.take k).flatMap enc ++ enc l[k] := by
  rw [List.take_succ_eq_append_getElem h, List.flatMap_append]; simp
theorem encs_take_length (l : List Int) (k : Nat) (hb : IntB l) : ((l.take k).flatMap enc).length ≤ 10 * l.length := by
  have h1 := encs_length (l.take k) (fun x hx => hb x (List.mem_of_mem_take hx))
  have h2 : (l.take k).length ≤ l.length := by simp; omega
  omega
end Hub
open Hub

end Go.Proofs.Ytmjamjadfnbkdaa
end

section
open Go Go.RowKit Go.Proofs
namespace Go.Proofs.Ytmjamjadfnbkdaa
namespace Hub
/-- How many bytes were read. -/
def viUsed (l : List UInt8) : Int := if (vi 0 0 l).1 = 0 then (l.length : Int) - ((vi 0 0 l).2.2.length : Int) else 0

theorem and127_nat : ∀ x : Fin 256, (x.val &&& 127) = x.val % 128 := by decide +kernel
theorem bits_and_nat (k : IntKind) (a b : Nat) (ha : a < 2 ^ k.bits) (hb : b < 2 ^ k.bits) : bits .and k (a : Int) (b : Int) = k.wrap ((a &&& b : Nat) : Int) := by
  simp only [bits, BitVec.ofInt_natCast, BitVec.toNat_and, BitVec.toNat_ofNat, Nat.mod_eq_of_lt ha, Nat.mod_eq_of_lt hb]
theorem u8_and127 (c : UInt8) : bits .and .u8 (c.toNat : Int) 127 = ((c.toNat % 128 : Nat) : Int) := by
  have hc := c.toNat_lt
  have f := and127_nat ⟨c.toNat, by omega⟩
  simp only at f
  rw [show (127 : Int) = ((127 : Nat) : Int) from rfl, bits_and_nat .u8 _ _ (by simp [IntKind.bits]; omega) (by simp [IntKind.bits]), f]
  exact IntWalk.u8_in _ ⟨by omega, by omega⟩
theorem pow128 (k : Nat) : 2 ^ (7 * k) = 128 ^ k := by rw [Nat.pow_mul]
theorem or_add (z a k : Nat) (hz : z < 128 ^ k) : z ||| a * 128 ^ k = z + a * 128 ^ k := by
  rw [← pow128] at *
  rw [Nat.or_comm, Nat.mul_comm, ← Nat.two_pow_add_eq_or_of_lt hz, Nat.add_comm]
theorem vi_val_lt (z : Nat) (c : UInt8) (k : Nat) (hz : z < 128 ^ k) (hk : k ≤ 9) (hc : k = 9 → c.toNat ≤ 1) : z + c.toNat % 128 * 128 ^ k < 18446744073709551616 := by
  by_cases h9 : k = 9
  · subst h9
    have h1 := hc rfl
    have : c.toNat % 128 * 128 ^ 9 ≤ 1 * 128 ^ 9 := Nat.mul_le_mul_right _ (by omega)
    omega
  · have h1 : c.toNat % 128 * 128 ^ k ≤ 127 * 128 ^ k := Nat.mul_le_mul_right _ (by omega)
    have h2 : 128 ^ (k + 1) ≤ 128 ^ 9 := Nat.pow_le_pow_right (by decide) (by omega)
    rw [Nat.pow_succ] at h2
    omega
theorem vi_or (z : Int) (c : UInt8) (k : Nat) (hz0 : 0 ≤ z) (hz : z.toNat < 128 ^ k) (hk : k ≤ 9) (hc : k = 9 → c.toNat ≤ 1) :
    bits .or .u64 z (IntKind.u64.wrap (IntKind.u64.wrap (bits .and .u8 (c.toNat : Int) 127) * 2 ^ (7 * k))) = ((z.toNat + c.toNat % 128 * 128 ^ k : Nat) : Int) := by
  have hv := vi_val_lt z.toNat c k hz hk hc
  rw [u8_and127, IntWalk.u64_in ((c.toNat % 128 : Nat) : Int) ⟨by omega, by omega⟩]
  have e : ((c.toNat % 128 : Nat) : Int) * 2 ^ (7 * k) = ((c.toNat % 128 * 128 ^ k : Nat) : Int) := by
    rw [← pow128]; push_cast; rfl
  rw [e, IntWalk.u64_in _ ⟨by omega, by omega⟩, show z = ((z.toNat : Nat) : Int) from by omega, Int.toNat_natCast, bits_or_nat .u64 _ _ (by simp only [IntKind.bits]; omega) (by simp only [IntKind.bits]; omega), or_add _ _ _ hz]
  exact IntWalk.u64_in _ ⟨by omega, by omega⟩
theorem vi_or0 (z : Int) (c : UInt8) (hz0 : 0 ≤ z) (hz : z.toNat < 128 ^ 0) :
    bits .or .u64 z (IntKind.u64.wrap (IntKind.u64.wrap (bits .and .u8 (c.toNat : Int) 127))) = ((z.toNat + c.toNat % 128 * 128 ^ 0 : Nat) : Int) := by
  have h := vi_or z c 0 hz0 hz (Nat.zero_le _) (fun h => by omega)
  rw [show (2 : Int) ^ (7 * 0) = 1 from rfl, Int.mul_one] at h
  exact h
theorem vi_or9 (z : Int) (c : UInt8) (hz0 : 0 ≤ z) (hz : z.toNat < 128 ^ 9) (hc : c.toNat ≤ 1) :
    bits .or .u64 z (IntKind.u64.wrap (IntKind.u64.wrap (bits .and .u8 (c.toNat : Int) 127) * 9223372036854775808)) = ((z.toNat + c.toNat % 128 * 128 ^ 9 : Nat) : Int) :=
  vi_or z c 9 hz0 hz (Nat.le_refl _) (fun _ => hc)
section
variable (s : ByteArray) (z : Int) (k : Nat) (hk : k < s.size) (hv : vi 0 0 (bl s) = vi k z.toNat ((bl s).drop k))
include hv
theorem vi_head : vi 0 0 (bl s) = vi k z.toNat (s[k] :: (bl s).drop (k + 1)) := by
  rw [hv, getElem_bl s k hk, List.drop_eq_getElem_cons]
theorem vi_bad (h : (0 < k ∧ s[k].toNat = 0) ∨ (k = 9 ∧ 1 < s[k].toNat)) : ((vi 0 0 (bl s)).2.1 : Int) = 0 ∧ viUsed (bl s) = 0 ∧ (vi 0 0 (bl s)).1 = 4 := by
  rw [viUsed, vi_head s z k hk hv, vi_cons, if_pos h]; simp
theorem vi_end (h : ¬ ((0 < k ∧ s[k].toNat = 0) ∨ (k = 9 ∧ 1 < s[k].toNat))) (h7 : s[k].toNat < 128) : ((vi 0 0 (bl s)).2.1 : Int) = ((z.toNat + s[k].toNat % 128 * 128 ^ k : Nat) : Int) ∧ viUsed (bl s) = k + 1 ∧ (vi 0 0 (bl s)).1 = 0 := by
  have e : s[k].toNat % 128 = s[k].toNat := by omega
  have hz := size_bl s
  rw [viUsed, vi_head s z k hk hv, vi_cons, if_neg h, if_pos h7, if_pos rfl, e]
  refine ⟨rfl, ?_, rfl⟩
  simp only [List.length_drop]; omega
theorem vi_go (h : ¬ ((0 < k ∧ s[k].toNat = 0) ∨ (k = 9 ∧ 1 < s[k].toNat))) (h7 : 128 ≤ s[k].toNat) (hz : z.toNat < 128 ^ k) : z.toNat + s[k].toNat % 128 * 128 ^ k < 128 ^ (k + 1) ∧ vi 0 0 (bl s) = vi (k + 1) (z.toNat + s[k].toNat % 128 * 128 ^ k) ((bl s).drop (k + 1)) := by
  have hc := s[k].toNat_lt
  have e : s[k].toNat % 128 = s[k].toNat - 128 := by omega
  refine ⟨?_, ?_⟩
  · have h1 : s[k].toNat % 128 * 128 ^ k ≤ 127 * 128 ^ k := Nat.mul_le_mul_right _ (by omega)
    rw [Nat.pow_succ]; omega
  · rw [vi_head s z k hk hv, vi_cons, if_neg h, if_neg (by omega), e]
end
theorem vi_short (s : ByteArray) (z k : Nat) (hk : k = s.size) (hv : vi 0 0 (bl s) = vi k z ((bl s).drop k)) : ((vi 0 0 (bl s)).2.1 : Int) = 0 ∧ viUsed (bl s) = 0 ∧ (vi 0 0 (bl s)).1 = 5 := by
  have : (bl s).drop k = [] := List.drop_eq_nil_of_le (by rw [size_bl]; omega)
  rw [viUsed, hv, this, vi_nil]; simp
end Hub
open Hub

end Go.Proofs.Ytmjamjadfnbkdaa
end

section
open Go Go.RowKit Go.Proofs
namespace Go.Proofs.Ytmjamjadfnbkdaa
namespace Hub
theorem i64_compl (a : Nat) (h : a < 9223372036854775808) : bits .xor .i64 (a : Int) (-1) = -1 - (a : Int) := by
  have g : (BitVec.ofInt 64 ((a : Nat) : Int)) ^^^ BitVec.ofInt 64 (-1) = ~~~ (BitVec.ofNat 64 a) := by
    rw [BitVec.ofInt_natCast, show BitVec.ofInt 64 (-1) = BitVec.allOnes 64 from rfl, BitVec.xor_allOnes]
  show IntKind.i64.wrap (((BitVec.ofInt 64 ((a : Nat) : Int)) ^^^ BitVec.ofInt 64 (-1)).toNat : Int) = _
  rw [g, BitVec.toNat_not, BitVec.toNat_ofNat, Nat.mod_eq_of_lt (by omega), show ((2 ^ 64 - 1 - a : Nat) : Int) = 18446744073709551615 - (a : Int) from by omega]
  simp only [IntKind.wrap, IntKind.bits, IntKind.signed, Bool.true_and]
  simp; omega
theorem i64_same (a : Nat) (h : a < 9223372036854775808) : bits .xor .i64 (a : Int) 0 = (a : Int) := by
  rw [show (0 : Int) = ((0 : Nat) : Int) from rfl, i64_xor_nat _ _ h (by decide), Nat.xor_zero]
theorem unzig_prog (z : Int) (m : Nat) (h : z = m) (hm : m < 18446744073709551616) : bits BinOp.xor IntKind.i64 (wrap64 (z / 2)) (wrap64 (-wrap64 (bits BinOp.and IntKind.u64 z 1))) = unzig m := by
  subst h
  rw [show (1 : Int) = ((1 : Nat) : Int) from rfl, u64_and_nat _ _ hm (by decide), nat_mask1, show ((m : Int) / 2) = ((m / 2 : Nat) : Int) from by omega, IntWalk.wrap64_in ((m / 2 : Nat) : Int) ⟨by omega, by omega⟩, IntWalk.wrap64_in ((m % 2 : Nat) : Int) ⟨by omega, by omega⟩, IntWalk.wrap64_in _ ⟨by omega, by omega⟩]
  unfold unzig
  split
  · rename_i h1
    rw [h1, show -((1 : Nat) : Int) = -1 from rfl, i64_compl _ (by omega)]
  · have h1 : m % 2 = 0 := by omega
    rw [h1, show -((0 : Nat) : Int) = 0 from rfl, i64_same _ (by omega)]
/-- From w to w' nothing has turned of what was there but block B. -/
def Tch (B : Nat) (w w' : World) : Prop := w.grownBy w' (some B)
theorem Tch.refl (B : Nat) (w : World) : Tch B w w := ⟨rfl, rfl, rfl, Nat.le_refl _, fun _ _ _ => rfl⟩
theorem Tch.trans {B : Nat} {a b c : World} (h : Tch B a b) (k : Tch B b c) : Tch B a c :=
  ⟨k.os.trans h.os, k.tape.trans h.tape, k.output.trans h.output, Nat.le_trans h.size k.size, fun i hi hn => (k.block i (Nat.lt_of_lt_of_le hi h.size) hn).trans (h.block i hi hn)⟩
theorem Tch.setCell {B : Nat} {a w : World} (h : Tch B a w) (o : Nat) (v : Value) : Tch B a (w.setCell ⟨B, o, none⟩ v) :=
  h.trans ⟨rfl, rfl, rfl, by simp [World.setCell], fun k _ hn => Below.heap_setCell _ _ _ _ (by intro e; exact hn (by rw [e]))⟩
theorem Tch.drew {B : Nat} {a w : World} (h : Tch B a w) : Tch B a w.drew := ⟨h.os, h.tape, h.output, h.size, h.block⟩
theorem Tch.of_below {B : Nat} {w w' : World} (h : Below w.heap.size w w') : Tch B w w' := ⟨h.os, h.tape, h.output, h.size, fun k hk _ => h.block k hk⟩
theorem Tch.alloc {B : Nat} {a w : World} (h : Tch B a w) (o : Obj) : Tch B a (w.alloc o) := h.trans (Tch.of_below ((Below.refl _ _).alloc (Nat.le_refl _) _))
theorem Tch.below {B N : Nat} {w w' : World} (h : Tch B w w') (hN : N ≤ B) (hw : N ≤ w.heap.size) : Below N w w' :=
  ⟨h.os, h.tape, h.output, h.size, fun k hk => h.block k (by omega) (by intro e; cases e; omega)⟩

end Hub
open Hub

end Go.Proofs.Ytmjamjadfnbkdaa
end

section
open Go Go.RowKit Go.Proofs
namespace Go.Proofs.Ytmjamjadfnbkdaa
open Hub

theorem bool_end (c : UInt8) : ((c.toNat : Int) == 1) = decide (c.toNat = 1) := by
  by_cases h : c.toNat = 1 <;> simp [h]; omega

end Go.Proofs.Ytmjamjadfnbkdaa
end

section
open Go Go.RowKit Go.Proofs
namespace Go.Proofs.Ytmjamjadfnbkdaa
namespace Hub
theorem int_info : (Try.prog.info? 3).map (fun i => (i.zero, i.size, i.bytes)) = some (some (.int .i64 0), 1, 8) := by kernel_rfl
/-- v is a slice of the call's own, from block 'base' on (or nil), that holds the numbers l. -/
def OwnI (w : World) (base : Nat) (v : Value) (l : List Int) : Prop := w.ownsRow base 3 1 v l.length (l.map fun x => Value.int .i64 x)
theorem OwnI.nil (w : World) (base : Nat) : OwnI w base (.slice none 0 0) [] := World.ownsRow_nil w base _ _
theorem OwnI.alloc {w : World} {base : Nat} {v : Value} {l : List Int} (h : OwnI w base v l) (o : Obj) : OwnI (w.alloc o) base v l := World.ownsRow.alloc h o
theorem OwnI.tch {w w' : World} {base B : Nat} {v : Value} {l : List Int} (h : OwnI w base v l) (k : Tch B w w') (hB : B < base) : OwnI w' base v l := by
  refine World.ownsRow.kept h k ?_
  cases hv : v.ownBlock with
  | none => exact .inl rfl
  | some g => exact .inr (by have := (World.ownsRow.lt h g hv).1; intro e; cases e; omega)
theorem OwnI.below {w w' : World} {base N : Nat} {v : Value} {l : List Int} (h : OwnI w base v l) (hb : Below N w w') (hN : w.heap.size ≤ N) : OwnI w' base v l := by
  refine World.ownsRow.kept (row := none) h ⟨hb.os, hb.tape, hb.output, hb.size, fun k hk _ => hb.block k (by omega)⟩ ?_
  cases hv : v.ownBlock with
  | none => exact .inl rfl
  | some k => exact .inr (by simp)
theorem OwnI.base {w : World} {b c : Nat} {v : Value} {l : List Int} (h : OwnI w c v l) (hb : b ≤ c) : OwnI w b v l :=
  ⟨h.1, h.2.imp id fun ⟨g, cap, cur, hv, hg, r⟩ => ⟨g, cap, cur, hv, Nat.le_trans hb hg, r⟩⟩
theorem OwnI.ints {w : World} {base : Nat} {v : Value} {l : List Int} (h : OwnI w base v l) : IntsAt base w.heap.size w v l := by
  rcases h.2 with ⟨hv, h0⟩ | ⟨g, cap, cur, hv, hb, hg, _⟩
  · have : l = [] := List.length_eq_zero_iff.1 h0
    subst this
    exact ⟨none, 0, hv, fun h => absurd rfl h⟩
  · refine ⟨some ⟨g, 0, none⟩, cap, hv, fun _ => ⟨g, 0, rfl, hb, (Array.getElem?_eq_some_iff.1 hg).1, fun i hi => ?_⟩⟩
    subst hv
    have := World.ownsRow.cellAt h i (by omega)
    rw [Nat.zero_add, this]
    simp [List.getElem?_eq_getElem hi]
theorem Tch.grown {B : Nat} {w a c : World} {row : Option Nat} (h : Tch B w a) (k : a.grownBy c row) (hr : ∀ g, row = some g → w.heap.size ≤ g) : Tch B w c :=
  ⟨k.os.trans h.os, k.tape.trans h.tape, k.output.trans h.output, Nat.le_trans h.size k.size, fun i hi hn => (k.block i (Nat.lt_of_lt_of_le hi h.size) (by intro e; have := hr i e.symm; omega)).trans (h.block i hi hn)⟩
end Hub
open Hub

end Go.Proofs.Ytmjamjadfnbkdaa
end

section
open Go Go.RowKit Go.Proofs
namespace Go.Proofs.Ytmjamjadfnbkdaa
namespace Hub
theorem str_info : (Try.prog.info? 9).map (fun i => (i.zero, i.size, i.bytes)) = some (some (.string ByteArray.empty), 1, 16) := by kernel_rfl
/-- The slice v holds the strings l, in a block from lo on, below N. -/
def StrsAt (lo N : Nat) (w : World) (v : Value) (l : List ByteArray) : Prop :=
  ∃ a cap, v = .slice a l.length cap ∧ l.length ≤ cap ∧ (l ≠ [] → ∃ b off, a = some ⟨b, off, none⟩ ∧ lo ≤ b ∧ b < N ∧ ∀ i (h : i < l.length), w.cell? ⟨b, off + i, none⟩ = some (.string l[i]))
theorem StrsAt.nil (lo N : Nat) (w : World) : StrsAt lo N w (.slice none 0 0) [] := ⟨none, 0, rfl, Nat.le_refl _, fun h => absurd rfl h⟩
theorem StrsAt.below {lo N M : Nat} {w w' : World} {v : Value} {l : List ByteArray} (h : StrsAt lo N w v l) (hb : Below M w w') (hN : N ≤ M) : StrsAt lo N w' v l := by
  obtain ⟨a, cap, hv, hcap, hc⟩ := h
  refine ⟨a, cap, hv, hcap, fun hne => ?_⟩
  obtain ⟨b, off, ha, hlo, hbN, hcell⟩ := hc hne
  exact ⟨b, off, ha, hlo, hbN, fun i hi => by rw [hb.cell (p := ⟨b, off + i, none⟩) (by show b < M; omega)]; exact hcell i hi⟩
theorem StrsAt.wide {lo lo' N N' : Nat} {w : World} {v : Value} {l : List ByteArray} (h : StrsAt lo N w v l) (hl : lo' ≤ lo) (hN : N ≤ N') : StrsAt lo' N' w v l := by
  obtain ⟨a, cap, hv, hcap, hc⟩ := h
  refine ⟨a, cap, hv, hcap, fun hne => ?_⟩
  obtain ⟨b, off, ha, hlo, hbN, hcell⟩ := hc hne
  exact ⟨b, off, ha, by omega, by omega, hcell⟩
/-- v is a slice of the call's own, from block 'base' on (or nil), that holds the strings l. -/
def OwnS (w : World) (base : Nat) (v : Value) (l : List ByteArray) : Prop := w.ownsRow base 9 1 v l.length (l.map Value.string)
theorem OwnS.nil (w : World) (base : Nat) : OwnS w base (.slice none 0 0) [] := World.ownsRow_nil w base _ _
theorem OwnS.alloc {w : World} {base : Nat} {v : Value} {l : List ByteArray} (h : OwnS w base v l) (o : Obj) : OwnS (w.alloc o) base v l := World.ownsRow.alloc h o
theorem OwnS.drew {w : World} {base : Nat} {v : Value} {l : List ByteArray} (h : OwnS w base v l) : OwnS w.drew base v l := h
theorem OwnS.drewN {w : World} {base : Nat} {v : Value} {l : List ByteArray} (h : OwnS w base v l) (n : Nat) : OwnS (w.drewN n) base v l := h
theorem OwnS.tch {w w' : World} {base B : Nat} {v : Value} {l : List ByteArray} (h : OwnS w base v l) (k : Tch B w w') (hB : B < base) : OwnS w' base v l := by
  refine World.ownsRow.kept h k ?_
  cases hv : v.ownBlock with
  | none => exact .inl rfl
  | some g => exact .inr (by have := (World.ownsRow.lt h g hv).1; intro e; cases e; omega)
theorem OwnS.below {w w' : World} {base N : Nat} {v : Value} {l : List ByteArray} (h : OwnS w base v l) (hb : Below N w w') (hN : w.heap.size ≤ N) : OwnS w' base v l := by
  refine World.ownsRow.kept (row := none) h ⟨hb.os, hb.tape, hb.output, hb.size, fun k hk _ => hb.block k (by omega)⟩ ?_
  cases hv : v.ownBlock with
  | none => exact .inl rfl
  | some k => exact .inr (by simp)
theorem OwnS.base {w : World} {b c : Nat} {v : Value} {l : List ByteArray} (h : OwnS w c v l) (hb : b ≤ c) : OwnS w b v l :=
  ⟨h.1, h.2.imp id fun ⟨g, cap, cur, hv, hg, r⟩ => ⟨g, cap, cur, hv, Nat.le_trans hb hg, r⟩⟩
theorem OwnS.strs {w : World} {base : Nat} {v : Value} {l : List ByteArray} (h : OwnS w base v l) : StrsAt base w.heap.size w v l := by
  rcases h.2 with ⟨hv, h0⟩ | ⟨g, cap, cur, hv, hb, hg, hcap, _⟩
  · have : l = [] := List.length_eq_zero_iff.1 h0
    subst this
    exact ⟨none, 0, hv, Nat.le_refl _, fun h => absurd rfl h⟩
  · refine ⟨some ⟨g, 0, none⟩, cap, hv, hcap, fun _ => ⟨g, 0, rfl, hb, (Array.getElem?_eq_some_iff.1 hg).1, fun i hi => ?_⟩⟩
    subst hv
    have := World.ownsRow.cellAt h i (by omega)
    rw [Nat.zero_add, this]
    simp [List.getElem?_eq_getElem hi]
theorem OwnS.shape {w : World} {base : Nat} {v : Value} {l : List ByteArray} (h : OwnS w base v l) : ∃ a cap, v = .slice a l.length cap ∧ l.length ≤ cap ∧ (0 < l.length → ∃ g, a = some ⟨g, 0, none⟩) := by
  rcases h.2 with ⟨hv, h0⟩ | ⟨g, cap, cur, hv, _, _, hcap, _⟩
  · exact ⟨none, 0, by rw [hv, h0], by omega, fun h => by omega⟩
  · exact ⟨_, cap, hv, hcap, fun _ => ⟨g, rfl⟩⟩
theorem OwnS.grown_below {base : Nat} {w w' : World} {v : Value} {l : List ByteArray} (hown : OwnS w base v l) (hg : w.grownBy w' v.ownBlock) (hb : base ≤ w.heap.size) : Below base w w' := by
  refine (Below.refl base w).grown hg hb (fun k hk => (World.ownsRow.lt hown k hk).1)
end Hub
end Go.Proofs.Ytmjamjadfnbkdaa
end

section
open Go Go.RowKit Go.Proofs
namespace Go.Proofs.Ytmjamjadfnbkdaa
namespace Hub
theorem bool_info : (Try.prog.info? 4).map (fun i => (i.zero, i.size, i.bytes)) = some (some (.bool false), 1, 1) := by kernel_rfl
/-- The slice v holds the booleans l, in a block from lo on, below N. -/
def BoolsAt (lo N : Nat) (w : World) (v : Value) (l : List Bool) : Prop :=
  ∃ a cap, v = .slice a l.length cap ∧ l.length ≤ cap ∧ (l ≠ [] → ∃ b off, a = some ⟨b, off, none⟩ ∧ lo ≤ b ∧ b < N ∧ ∀ i (h : i < l.length), w.cell? ⟨b, off + i, none⟩ = some (.bool l[i]))
theorem BoolsAt.nil (lo N : Nat) (w : World) : BoolsAt lo N w (.slice none 0 0) [] := ⟨none, 0, rfl, Nat.le_refl _, fun h => absurd rfl h⟩
theorem BoolsAt.below {lo N M : Nat} {w w' : World} {v : Value} {l : List Bool} (h : BoolsAt lo N w v l) (hb : Below M w w') (hN : N ≤ M) : BoolsAt lo N w' v l := by
  obtain ⟨a, cap, hv, hcap, hc⟩ := h
  refine ⟨a, cap, hv, hcap, fun hne => ?_⟩
  obtain ⟨b, off, ha, hlo, hbN, hcell⟩ := hc hne
  exact ⟨b, off, ha, hlo, hbN, fun i hi => by rw [hb.cell (p := ⟨b, off + i, none⟩) (by show b < M; omega)]; exact hcell i hi⟩
theorem BoolsAt.wide {lo lo' N N' : Nat} {w : World} {v : Value} {l : List Bool} (h : BoolsAt lo N w v l) (hl : lo' ≤ lo) (hN : N ≤ N') : BoolsAt lo' N' w v l := by
  obtain ⟨a, cap, hv, hcap, hc⟩ := h
  refine ⟨a, cap, hv, hcap, fun hne => ?_⟩
  obtain ⟨b, off, ha, hlo, hbN, hcell⟩ := hc hne
  exact ⟨b, off, ha, by omega, by omega, hcell⟩
/-- v is a slice of the call's own, from block 'base' on (or nil), that holds the booleans l. -/
def OwnT (w : World) (base : Nat) (v : Value) (l : List Bool) : Prop := w.ownsRow base 4 1 v l.length (l.map Value.bool)
theorem OwnT.nil (w : World) (base : Nat) : OwnT w base (.slice none 0 0) [] := World.ownsRow_nil w base _ _
theorem OwnT.alloc {w : World} {base : Nat} {v : Value} {l : List Bool} (h : OwnT w base v l) (o : Obj) : OwnT (w.alloc o) base v l := World.ownsRow.alloc h o
theorem OwnT.drew {w : World} {base : Nat} {v : Value} {l : List Bool} (h : OwnT w base v l) : OwnT w.drew base v l := h
theorem OwnT.drewN {w : World} {base : Nat} {v : Value} {l : List Bool} (h : OwnT w base v l) (n : Nat) : OwnT (w.drewN n) base v l := h
theorem OwnT.tch {w w' : World} {base B : Nat} {v : Value} {l : List Bool} (h : OwnT w base v l) (k : Tch B w w') (hB : B < base) : OwnT w' base v l := by
  refine World.ownsRow.kept h k ?_
  cases hv : v.ownBlock with
  | none => exact .inl rfl
  | some g => exact .inr (by have := (World.ownsRow.lt h g hv).1; intro e; cases e; omega)
theorem OwnT.below {w w' : World} {base N : Nat} {v : Value} {l : List Bool} (h : OwnT w base v l) (hb : Below N w w') (hN : w.heap.size ≤ N) : OwnT w' base v l := by
  refine World.ownsRow.kept (row := none) h ⟨hb.os, hb.tape, hb.output, hb.size, fun k hk _ => hb.block k (by omega)⟩ ?_
  cases hv : v.ownBlock with
  | none => exact .inl rfl
  | some k => exact .inr (by simp)
theorem OwnT.base {w : World} {b c : Nat} {v : Value} {l : List Bool} (h : OwnT w c v l) (hb : b ≤ c) : OwnT w b v l :=
  ⟨h.1, h.2.imp id fun ⟨g, cap, cur, hv, hg, r⟩ => ⟨g, cap, cur, hv, Nat.le_trans hb hg, r⟩⟩
theorem OwnT.bools {w : World} {base : Nat} {v : Value} {l : List Bool} (h : OwnT w base v l) : BoolsAt base w.heap.size w v l := by
  rcases h.2 with ⟨hv, h0⟩ | ⟨g, cap, cur, hv, hb, hg, hcap, _⟩
  · have : l = [] := List.length_eq_zero_iff.1 h0
    subst this
    exact ⟨none, 0, hv, Nat.le_refl _, fun h => absurd rfl h⟩
  · refine ⟨some ⟨g, 0, none⟩, cap, hv, hcap, fun _ => ⟨g, 0, rfl, hb, (Array.getElem?_eq_some_iff.1 hg).1, fun i hi => ?_⟩⟩
    subst hv
    have := World.ownsRow.cellAt h i (by omega)
    rw [Nat.zero_add, this]
    simp [List.getElem?_eq_getElem hi]
theorem OwnT.shape {w : World} {base : Nat} {v : Value} {l : List Bool} (h : OwnT w base v l) : ∃ a cap, v = .slice a l.length cap ∧ l.length ≤ cap ∧ (0 < l.length → ∃ g, a = some ⟨g, 0, none⟩) := by
  rcases h.2 with ⟨hv, h0⟩ | ⟨g, cap, cur, hv, _, _, hcap, _⟩
  · exact ⟨none, 0, by rw [hv, h0], by omega, fun h => by omega⟩
  · exact ⟨_, cap, hv, hcap, fun _ => ⟨g, rfl⟩⟩
theorem OwnT.grown_below {base : Nat} {w w' : World} {v : Value} {l : List Bool} (hown : OwnT w base v l) (hg : w.grownBy w' v.ownBlock) (hb : base ≤ w.heap.size) : Below base w w' := by
  refine (Below.refl base w).grown hg hb (fun k hk => (World.ownsRow.lt hown k hk).1)
end Hub
end Go.Proofs.Ytmjamjadfnbkdaa
end

section
open Go
namespace Go.Proofs.Ytmjamjadfnbkdaa
section
variable {P : Program} {ops : Array Oper} {C : World → Prop} {a : Act} {o : Oper} {K : Act → Prop}
theorem quiet_val (u : Value) (h : ∀ w, C w → (execOp a.eval o).run P w = .ok (.value u) w) (hk : K (a.put o.dst u)) : o.quiet P a C K :=
  ⟨u, fun w hw => by unfold Oper.quietAt; rw [h w hw]; exact ⟨rfl, rfl⟩, hk⟩
theorem quiet_enter (u : Value) (f : FuncId) (args : Array Value) (h : ∀ w, C w → (execOp a.eval o).run P w = .ok (.enter f args) w) (hc : ∀ w, C w → Calls P f args w fun e w'' => e = .returned u ∧ C w'') (hk : K (a.put o.dst u)) : o.quiet P a C K :=
  ⟨u, fun w hw => by unfold Oper.quietAt; rw [h w hw]; exact ⟨rfl, hc w hw⟩, hk⟩
theorem wp_region_class {id : Nat} {Q : Exit → Act → World → Prop} {a : Act} {w : World} {l : List Oper} (C : World → Prop) (hm : P.follows .mixedOrders = true) (hB : Region.lexB .any l.toArray = true) (hC : C w.drew)
    (h : wpQuiet P l.toArray C (fun a' => ∀ w', C w' → Q .normal a' w') l a) : (Code.region id l.toArray true).wp P Q a w :=
  wp_region_quiet hm hB hC (by simpa using h)
end
end Go.Proofs.Ytmjamjadfnbkdaa
end

section
open Go
namespace Go.Proofs.Ytmjamjadfnbkdaa.Late
section
variable {P : Program} {ops : Array Oper} {md : Region.Mode} {C : World → Prop} {G : Nat → Value → World → Prop} {V : Nat → Value → Prop}
/-- w' is of the class, and what was known of a slot's value in w is still known. -/
def Kept (C : World → Prop) (G : Nat → Value → World → Prop) (w w' : World) : Prop := C w' ∧ ∀ d v, G d v w → G d v w'
def Gets (G : Nat → Value → World → Prop) (dst : Option Tmp) (v : Value) (w : World) : Prop := ∀ d, dst = some d → G d v w
def Upon (P : Program) (C : World → Prop) (G : Nat → Value → World → Prop) (dst : Option Tmp) (w : World) (V : Value → Prop) : Result Next → Prop
  | .ok (.value u) w' => Kept C G w w' ∧ V u ∧ Gets G dst u w'
  | .ok .skip w' => Kept C G w w' ∧ V undef ∧ Gets G dst undef w'
  | .ok (.enter f args) w' => Calls P f args w' fun e w'' => ∃ u, e = .returned u ∧ V u ∧ Kept C G w w'' ∧ Gets G dst u w''
  | _ => False
/-- What an operation may use of the world. -/
def Sees (ops : Array Oper) (C : World → Prop) (G : Nat → Value → World → Prop) (o : Oper) (a : Act) (w : World) : Prop := C w ∧ ∀ d ∈ o.looksAt ops, G d (a.eval (.tmp d)) w
def Quiet (P : Program) (ops : Array Oper) (C : World → Prop) (G : Nat → Value → World → Prop) (o : Oper) (a : Act) (V : Value → Prop) : Prop :=
  (∃ v, V v) ∧ ∀ w, Sees ops C G o a w → Upon P C G o.dst w V ((execOp a.eval o).run P w)
def QY (P : Program) (ops : Array Oper) (C : World → Prop) (G : Nat → Value → World → Prop) (o : Oper) (V : Value → Prop) (a : Act) : Prop := Region.wanted o (yielded ops a.tmps) = true → Quiet P ops C G o a V
def Out (ops : Array Oper) (o : Oper) (V : Value → Prop) (a : Act) (v : Value) : Prop := if Region.wanted o (yielded ops a.tmps) = true then V v else v = undef
/-- The walk in the order of the text. -/
def wpL (P : Program) (ops : Array Oper) (C : World → Prop) (G : Nat → Value → World → Prop) (Q : Act → Prop) : List Oper → List (Value → Prop) → Act → Prop
  | [], _, a => Q a
  | o :: rest, V :: Vs, a => QY P ops C G o V a ∧ ∀ v, Out ops o V a v → wpL P ops C G Q rest Vs (a.put o.dst v)
  | _ :: _, [], _ => False
def qOp (P : Program) (ops : Array Oper) (C : World → Prop) (G : Nat → Value → World → Prop) (V : Nat → Value → Prop) (i : Nat) (K : Act → Prop) (a : Act) : Prop :=
  match ops[i]? with
  | none => K a
  | some o => QY P ops C G o (V i) a ∧ ∀ v, Out ops o (V i) a v → K (a.put o.dst v)
theorem qOp_def {i : Nat} {o : Oper} (hi : ops[i]? = some o) {K : Act → Prop} {a : Act} : qOp P ops C G V i K a ↔ QY P ops C G o (V i) a ∧ ∀ v, Out ops o (V i) a v → K (a.put o.dst v) := by
  unfold qOp; rw [hi]
theorem qOp_mono {i : Nat} {a : Act} {K K' : Act → Prop} (h : ∀ a, K a → K' a) (hh : qOp P ops C G V i K a) : qOp P ops C G V i K' a := by
  unfold qOp at *
  split
  · rename_i ho; rw [ho] at hh; exact h _ hh
  · rename_i o ho; rw [ho] at hh; exact ⟨hh.1, fun v hv => h _ (hh.2 v hv)⟩
def Inv (C : World → Prop) (G : Nat → Value → World → Prop) (a : Act) (w : World) : Prop := C w ∧ ∀ d, G d (a.eval (.tmp d)) w
theorem eval_put (a : Act) (dst : Option Tmp) (u : Value) (d : Nat) : (a.put dst u).eval (.tmp d) = a.eval (.tmp d) ∨ (dst = some d ∧ (a.put dst u).eval (.tmp d) = u) := by
  cases dst with
  | none => exact .inl rfl
  | some e =>
    by_cases he : e = d
    · subst he
      by_cases hs : e < a.tmps.size
      · exact .inr ⟨rfl, by simp [Act.eval, Act.put, hs]⟩
      · exact .inl (by simp [Act.eval, Act.put, hs])
    · exact .inl (by simp [Act.eval, Act.put, Array.getElem?_setIfInBounds_ne he])
theorem inv_put {a : Act} {w w' : World} {dst : Option Tmp} {u : Value} (h : Inv C G a w) (k : Kept C G w w') (o : Gets G dst u w') : Inv C G (a.put dst u) w' := by
  refine ⟨k.1, fun d => ?_⟩
  rcases eval_put a dst u d with e | ⟨e1, e2⟩
  · rw [e]; exact k.2 _ _ (h.2 d)
  · rw [e2]; exact o d e1
theorem wp_of {o : Oper} {a : Act} {V : Value → Prop} {K : Act → Prop} {K' : Act → World → Prop} {Q' : Exit → Act → World → Prop} {w : World} (hw : Inv C G a w) (h : ∀ a w', Inv C G a w' → K a → K' a w')
    (hq : Quiet P ops C G o a V) (hk : ∀ v, V v → K (a.put o.dst v)) : o.wp P a w K' Q' := by
  have h3 := hq.2 w ⟨hw.1, fun d _ => hw.2 d⟩
  unfold Oper.wp
  generalize (execOp a.eval o).run P w = r at *
  cases r with
  | ok n w' =>
    cases n <;> simp only [Upon] at h3 <;> simp only [Oper.upon]
    case value u => exact h _ _ (inv_put hw h3.1 h3.2.2) (hk _ h3.2.1)
    case skip => exact h _ _ (inv_put hw h3.1 h3.2.2) (hk _ h3.2.1)
    case enter f args => exact h3.mono fun e w'' ⟨u, he, hv, k, g⟩ => by subst he; exact h _ _ (inv_put hw k g) (hk _ hv)
  | halt x w' => simp only [Upon] at h3
theorem wpOp_of {i : Nat} {a : Act} {K : Act → Prop} {K' : Act → World → Prop} {Q' : Exit → Act → World → Prop} {w : World} (hG : ∀ d w, C w → G d undef w) (hw : Inv C G a w) (h : ∀ a w', Inv C G a w' → K a → K' a w')
    (hh : qOp P ops C G V i K a) : wpOp P ops Q' i K' a w := by
  unfold qOp at hh
  unfold wpOp
  split
  · rename_i ho; rw [ho] at hh; exact h _ _ hw hh
  · rename_i o ho
    rw [ho] at hh
    split
    · rename_i hg
      refine .inl (wp_of hw h (hh.1 hg) fun v hv => hh.2 v ?_)
      unfold Out; rw [if_pos hg]; exact hv
    · rename_i hg
      refine h _ _ (inv_put hw ⟨hw.1, fun _ _ x => x⟩ fun d _ => hG d w hw.1) (hh.2 undef ?_)
      unfold Out; rw [if_neg hg]
def wpAnyQ (P : Program) (md : Region.Mode) (ops : Array Oper) (C : World → Prop) (G : Nat → Value → World → Prop) (V : Nat → Value → Prop) (Q : Act → Prop) : Nat → Array Bool → Act → Prop
  | 0, listed, a => Region.ready md ops listed = [] ∧ Q a
  | fuel + 1, listed, a =>
    (Region.ready md ops listed = [] → Q a) ∧
    ∀ i ∈ Region.ready md ops listed, qOp P ops C G V i (wpAnyQ P md ops C G V Q fuel (listed.setIfInBounds i true)) a
theorem wpAny_of {Q : Act → Prop} {Q' : Exit → Act → World → Prop} (hG : ∀ d w, C w → G d undef w) (hQ : ∀ a w, Inv C G a w → Q a → Q' .normal a w) : ∀ (fuel : Nat) (listed : Array Bool) (a : Act) (w : World), Inv C G a w →
    wpAnyQ P md ops C G V Q fuel listed a → wpAny P md ops Q' fuel listed a w
  | 0, _, _, _, hw, h => ⟨h.1, hQ _ _ hw h.2⟩
  | fuel + 1, _, _, _, hw, h => ⟨fun h0 => hQ _ _ hw (h.1 h0), fun i hi => wpOp_of hG hw (fun a' w' hw' => wpAny_of hG hQ fuel _ a' w' hw') (h.2 i hi)⟩
theorem sees_put {o : Oper} {a : Act} {dst : Option Tmp} {v : Value} {w : World} (h : ∀ d, dst = some d → d ∉ o.looksAt ops) (hs : Sees ops C G o a w) : Sees ops C G o (a.put dst v) w := by
  refine ⟨hs.1, fun d hd => ?_⟩
  rw [Act.eval_put (x := .tmp d) (fun e he hx => by cases hx; exact h _ he hd)]
  exact hs.2 d hd
theorem qy_put {o : Oper} {V : Value → Prop} {a : Act} {dst : Option Tmp} {v : Value} (hs : ∀ cs b, o.op ≠ .select cs b) (h : ∀ d, dst = some d → d ∉ o.looksAt ops) (hq : QY P ops C G o V (a.put dst v)) : QY P ops C G o V a := by
  intro hw
  obtain ⟨h1, h2⟩ := hq (by rw [wanted_put o a dst v h]; exact hw)
  refine ⟨h1, fun w hse => ?_⟩
  have := h2 w (sees_put h hse)
  rwa [execOp_put o hs a dst v h] at this
theorem qy_put' {o : Oper} {V : Value → Prop} {a : Act} {dst : Option Tmp} {v : Value} (hs : ∀ cs b, o.op ≠ .select cs b) (h : ∀ d, dst = some d → d ∉ o.looksAt ops) (hq : QY P ops C G o V a) : QY P ops C G o V (a.put dst v) := by
  intro hw
  obtain ⟨h1, h2⟩ := hq (by rw [wanted_put o a dst v h] at hw; exact hw)
  refine ⟨h1, fun w hse => ?_⟩
  rw [execOp_put o hs a dst v h]
  refine h2 w ⟨hse.1, fun d hd => ?_⟩
  have := hse.2 d hd
  rwa [Act.eval_put (x := .tmp d) (fun e he hx => by cases hx; exact h _ he hd)] at this
theorem out_put {o : Oper} {V : Value → Prop} {a : Act} {dst : Option Tmp} {v u : Value} (h : ∀ d, dst = some d → d ∉ o.looksAt ops) : Out ops o V (a.put dst v) u ↔ Out ops o V a u := by
  unfold Out; rw [wanted_put o a dst v h]
theorem out_some {o : Oper} {V : Value → Prop} {a : Act} (hq : QY P ops C G o V a) : ∃ v, Out ops o V a v := by
  by_cases hw : Region.wanted o (yielded ops a.tmps) = true
  · obtain ⟨v, hv⟩ := (hq hw).1
    exact ⟨v, by unfold Out; rw [if_pos hw]; exact hv⟩
  · exact ⟨undef, by unfold Out; rw [if_neg hw]⟩
theorem qOp_put {i j : Nat} {oi oj : Oper} (hj : ops[j]? = some oj) (hap : oi.apart ops oj = true)
    (hsi : ∀ cs b, oi.op ≠ .select cs b) (hsj : ∀ cs b, oj.op ≠ .select cs b) {K : Act → Prop} {a : Act}
    (hy : QY P ops C G oi (V i) a) (h : ∀ v, Out ops oi (V i) a v → qOp P ops C G V j K (a.put oi.dst v)) :
    qOp P ops C G V j (fun a' => QY P ops C G oi (V i) a' ∧ ∀ v, Out ops oi (V i) a' v → K (a'.put oi.dst v)) a := by
  obtain ⟨h1, h2, h3⟩ := Oper.apart_spec hap
  obtain ⟨v0, hv0⟩ := out_some hy
  rw [qOp_def hj]
  refine ⟨qy_put hsj h1 ((qOp_def hj).1 (h v0 hv0)).1, fun u hu => ⟨qy_put' hsi h3 hy, fun v hv => ?_⟩⟩
  rw [out_put h3] at hv
  have := ((qOp_def hj).1 (h v hv)).2 u ((out_put h1).2 hu)
  rwa [Act.put_comm a v u h2] at this
theorem wpAnyQ_first {Q : Act → Prop} {i : Nat} {oi : Oper} (hi : ops[i]? = some oi) (hsel : ∀ (j : Nat) (o : Oper) cs b, ops[j]? = some o → o.op ≠ .select cs b) :
    ∀ (fuel : Nat) (listed : Array Bool) (a : Act),
      (∀ j oj, ops[j]? = some oj → j ≠ i → listed.getD j true = false → (∀ e ∈ oj.after, Region.binds md e = true → e.on ≠ i) → oi.apart ops oj = true) →
      i ∈ Region.ready md ops listed → QY P ops C G oi (V i) a →
      (∀ v, Out ops oi (V i) a v → wpAnyQ P md ops C G V Q fuel (listed.setIfInBounds i true) (a.put oi.dst v)) → wpAnyQ P md ops C G V Q (fuel + 1) listed a := by
  intro fuel
  induction fuel with
  | zero =>
    intro listed a _ hr hy H
    refine ⟨fun h => (by rw [h] at hr; cases hr), fun j hj => ?_⟩
    by_cases hji : j = i
    · subst hji; exact (qOp_def hi).2 ⟨hy, H⟩
    · have := ready_mono hj hji
      obtain ⟨v0, hv0⟩ := out_some hy
      rw [(H v0 hv0).1] at this
      cases this
  | succ fuel ih =>
    intro listed a hfree hr hy H
    refine ⟨fun h => (by rw [h] at hr; cases hr), fun j hj => ?_⟩
    by_cases hji : j = i
    · subst hji; exact (qOp_def hi).2 ⟨hy, H⟩
    · have h1 := fun v hv => (H v hv).2 j (ready_mono hj hji)
      obtain ⟨hjun, oj, hoj, hall⟩ := mem_ready.1 hj
      have hnot : ∀ e ∈ oj.after, Region.binds md e = true → e.on ≠ i := fun e he hb heq => by
        have h1 := hall e he hb
        have h0 := (mem_ready.1 hr).1
        rw [heq] at h1
        rcases Nat.lt_or_ge i listed.size with h' | h'
        · simp [h'] at h0 h1; rw [h0] at h1; cases h1
        · simp [Array.getElem?_eq_none h'] at h1
      have h2 := qOp_put (i := i) hoj (hfree j oj hoj hji hjun hnot) (fun cs b => hsel i oi cs b hi) (fun cs b => hsel j oj cs b hoj) hy h1
      have hfree' : ∀ k ok, ops[k]? = some ok → k ≠ i → (listed.setIfInBounds j true).getD k true = false →
          (∀ e ∈ ok.after, Region.binds md e = true → e.on ≠ i) → oi.apart ops ok = true := fun k ok hk hki hun hno => by
        refine hfree k ok hk hki ?_ hno
        by_cases hjk : j = k
        · subst hjk; exact hjun
        · rw [getD_set_ne true hjk] at hun; exact hun
      refine qOp_mono (fun a' h3 => ih (listed.setIfInBounds j true) a' hfree' (ready_mono hr (Ne.symm hji)) h3.1 ?_) h2
      rw [Array.setIfInBounds_comm _ _ hji]
      exact h3.2
theorem wpAnyQ_lex {Q : Act → Prop} {All : List (Value → Prop)} (hs : Region.noSelect ops = true) : ∀ (l : List Oper) (Vs : List (Value → Prop)) (k : Nat) (listed : Array Bool) (a : Act), (∀ j, l[j]? = ops[k + j]?) → (∀ j, Vs[j]? = All[k + j]?) →
    Region.lexFrom md ops l.length k listed = true → wpL P ops C G Q l Vs a → wpAnyQ P md ops C G (fun i => (All[i]?).getD fun _ => True) Q l.length listed a
  | [], _, _, _, _, _, _, hB, h => ⟨by simpa [Region.lexFrom] using hB, h⟩
  | o :: l, [], _, _, _, _, _, _, h => h.elim
  | o :: l, V0 :: Vs, k, listed, a, hl, hV, hB, h => by
    have h0 : ops[k]? = some o := by simpa using (hl 0).symm
    have hv0 : (All[k]?).getD (fun _ => True) = V0 := by
      have := hV 0
      rw [Nat.add_zero] at this
      rw [← this]; rfl
    simp only [List.length_cons, Region.lexFrom, Bool.and_eq_true] at hB
    obtain ⟨⟨hr, hf⟩, hB'⟩ := hB
    refine wpAnyQ_first h0 (Region.noSelect_spec hs) l.length listed a (Region.free_spec h0 hf) (by simpa using hr) (by rw [hv0]; exact h.1) fun v hv => ?_
    rw [hv0] at hv
    exact wpAnyQ_lex hs l Vs (k + 1) _ _ (fun j => by have := hl (j + 1); simpa [Nat.add_assoc, Nat.add_comm 1 j] using this) (fun j => by have := hV (j + 1); simpa [Nat.add_assoc, Nat.add_comm 1 j] using this) hB' (h.2 v hv)
/-- A region that draws its order: one walk in the order of the text serves. -/
theorem wp_region_late {id : Nat} {Q : Exit → Act → World → Prop} {a : Act} {w : World} {l : List Oper} (C : World → Prop) (G : Nat → Value → World → Prop) (Vs : List (Value → Prop)) (hm : P.follows .mixedOrders = true) (hB : Region.lexB .any l.toArray = true)
    (hG : ∀ d w, C w → G d undef w) (hC : C w.drew) (hI : ∀ d, G d (a.eval (.tmp d)) w.drew)
    (h : wpL P l.toArray C G (fun a' => ∀ w', C w' → (∀ d, G d (a'.eval (.tmp d)) w') → Q .normal a' w') l Vs a) : (Code.region id l.toArray true).wp P Q a w := by
  simp only [Region.lexB, Bool.and_eq_true] at hB
  refine wp_region_any hm (wpAny_of (V := fun i => (Vs[i]?).getD fun _ => True) (Q := fun a' => ∀ w', C w' → (∀ d, G d (a'.eval (.tmp d)) w') → Q .normal a' w') hG (fun _ w' hw' h => h w' hw'.1 hw'.2) _ _ _ w.drew ⟨hC, hI⟩ ?_)
  have := wpAnyQ_lex (C := C) (G := G) (md := .any) (All := Vs) hB.1 l Vs 0 (Array.replicate l.toArray.size false) a (by simp) (by simp) (by simpa using hB.2) h
  simpa using this
end
end Go.Proofs.Ytmjamjadfnbkdaa.Late
end

section
open Go Go.RowKit Go.Proofs
namespace Go.Proofs.Ytmjamjadfnbkdaa.Late
def track (L : List (Nat × (Value → World → Prop))) (d : Nat) (v : Value) (w : World) : Prop := ∀ F, (d, F) ∈ L → v = undef ∨ F v w
def LC (w0 w : World) : Prop := Below w0.heap.size w0 w
/-- What is tracked outlives what is made later. -/
def Lasts (L : List (Nat × (Value → World → Prop))) : Prop := ∀ d F, (d, F) ∈ L → ∀ v w w', F v w → Below w.heap.size w w' → F v w'
def free (L : List (Nat × (Value → World → Prop))) (dst : Option Tmp) : Bool := match dst with | some d => !(L.map (·.1)).contains d | none => true
section
variable {P : Program} {ops : Array Oper} {w0 : World} {L : List (Nat × (Value → World → Prop))} {o : Oper} {a : Act}
theorem gets_free {w : World} {u : Value} {dst : Option Tmp} (h : free L dst = true) : Gets (track L) dst u w := by
  intro d hd F hF
  subst hd
  simp only [free, Bool.not_eq_true', List.contains_eq_mem, decide_eq_false_iff_not, List.mem_map, not_exists, not_and] at h
  exact absurd rfl (h (d, F) hF)
theorem kept_of (hL : Lasts L) {w w' : World} (hC : LC w0 w) (hb : Below w.heap.size w w') : Kept (LC w0) (track L) w w' :=
  ⟨hC.trans (hb.mono hC.size), fun d v h F hF => (h F hF).imp id fun x => hL d F hF v w w' x hb⟩
theorem late_start {id : Nat} {Q : Exit → Act → World → Prop} {a : Act} {w : World} {l : List Oper} (L : List (Nat × (Value → World → Prop))) (Vs : List (Value → Prop)) (hm : P.follows .mixedOrders = true) (hB : Region.lexB .any l.toArray = true)
    (hI : ∀ d F, (d, F) ∈ L → a.eval (.tmp d) = undef)
    (h : wpL P l.toArray (LC w) (track L) (fun a' => ∀ w', LC w w' → (∀ d, track L d (a'.eval (.tmp d)) w') → Q .normal a' w') l Vs a) : (Code.region id l.toArray true).wp P Q a w :=
  wp_region_late (LC w) (track L) Vs hm hB (fun _ _ _ _ _ => .inl rfl) ⟨rfl, rfl, rfl, Nat.le_refl _, fun _ _ => rfl⟩ (fun d F hF => .inl (hI d F hF)) h
theorem late_want {C : World → Prop} {G : Nat → Value → World → Prop} {Q : Act → Prop} {rest : List Oper} {V : Value → Prop} {Vs : List (Value → Prop)} (hw : Region.wanted o (yielded ops a.tmps) = true)
    (h : ∀ K : Act → Prop, (∀ a, wpL P ops C G Q rest Vs a → K a) → Quiet P ops C G o a V ∧ ∀ v, V v → K (a.put o.dst v)) : wpL P ops C G Q (o :: rest) (V :: Vs) a := by
  obtain ⟨h1, h2⟩ := h _ (fun _ x => x)
  exact ⟨fun _ => h1, fun v hv => h2 v (by unfold Out at hv; rwa [if_pos hw] at hv)⟩
theorem late_skip {C : World → Prop} {G : Nat → Value → World → Prop} {Q : Act → Prop} {rest : List Oper} {V : Value → Prop} {Vs : List (Value → Prop)} (hw : Region.wanted o (yielded ops a.tmps) = false)
    (h : wpL P ops C G Q rest Vs (a.put o.dst undef)) : wpL P ops C G Q (o :: rest) (V :: Vs) a :=
  ⟨fun x => (by rw [hw] at x; cases x), fun v hv => by unfold Out at hv; rw [if_neg (by simp [hw])] at hv; subst hv; exact h⟩
theorem late_const (hL : Lasts L) (u : Value) (hd : free L o.dst = true) (h : ∀ w, Sees ops (LC w0) (track L) o a w → (execOp a.eval o).run P w = .ok (.value u) w) : Quiet P ops (LC w0) (track L) o a (· = u) :=
  ⟨⟨u, rfl⟩, fun w hs => by rw [h w hs]; exact ⟨kept_of hL hs.1 (Below.refl _ _), rfl, gets_free hd⟩⟩
theorem late_call (hL : Lasts L) (u : Value) (f : FuncId) (args : Array Value) (hd : free L o.dst = true) (h : ∀ w, Sees ops (LC w0) (track L) o a w → (execOp a.eval o).run P w = .ok (.enter f args) w)
    (hc : ∀ w, Sees ops (LC w0) (track L) o a w → Calls P f args w fun e w' => e = .returned u ∧ Below w.heap.size w w') : Quiet P ops (LC w0) (track L) o a (· = u) :=
  ⟨⟨u, rfl⟩, fun w hs => by rw [h w hs]; exact (hc w hs).mono fun e w' ⟨he, hb⟩ => ⟨u, he, rfl, kept_of hL hs.1 hb, gets_free hd⟩⟩
theorem late_nil {C : World → Prop} {G : Nat → Value → World → Prop} {Q : Act → Prop} {Vs : List (Value → Prop)} (h : Q a) : wpL P ops C G Q [] Vs a := h
/-- A call whose result is tracked. -/
theorem late_callT (hL : Lasts L) (V : Value → Prop) (F : Value → World → Prop) (f : FuncId) (args : Array Value) (hV : ∃ v, V v) (hF : ∀ d F', o.dst = some d → (d, F') ∈ L → F' = F) (h : ∀ w, Sees ops (LC w0) (track L) o a w → (execOp a.eval o).run P w = .ok (.enter f args) w)
    (hc : ∀ w, Sees ops (LC w0) (track L) o a w → Calls P f args w fun e w' => ∃ u, e = .returned u ∧ V u ∧ F u w' ∧ Below w.heap.size w w') : Quiet P ops (LC w0) (track L) o a V :=
  ⟨hV, fun w hs => by rw [h w hs]; exact (hc w hs).mono fun e w' ⟨u, he, hv, hf, hb⟩ => ⟨u, he, hv, kept_of hL hs.1 hb, fun d hd F' hF' => .inr (by rw [hF d F' hd hF']; exact hf)⟩⟩
/-- An operation that makes memory, whose result is tracked. -/
theorem late_makeT (hL : Lasts L) (V : Value → Prop) (F : Value → World → Prop) (hV : ∃ v, V v) (hF : ∀ d F', o.dst = some d → (d, F') ∈ L → F' = F)
    (h : ∀ w, Sees ops (LC w0) (track L) o a w → ∃ u w', (execOp a.eval o).run P w = .ok (.value u) w' ∧ V u ∧ F u w' ∧ Below w.heap.size w w') : Quiet P ops (LC w0) (track L) o a V :=
  ⟨hV, fun w hs => by obtain ⟨u, w', e, hv, hf, hb⟩ := h w hs; rw [e]; exact ⟨kept_of hL hs.1 hb, hv, fun d hd F' hF' => .inr (by rw [hF d F' hd hF']; exact hf)⟩⟩
/-- What is known of a tracked slot. -/
theorem late_use {w : World} (hs : Sees ops (LC w0) (track L) o a w) (d : Nat) (F : Value → World → Prop) (hd : (o.looksAt ops).contains d = true) (hF : (d, F) ∈ L) (hne : a.eval (.tmp d) ≠ undef) : F (a.eval (.tmp d)) w :=
  ((hs.2 d (by simpa using hd)) F hF).resolve_left hne
end
end Go.Proofs.Ytmjamjadfnbkdaa.Late
end

section
open Go Go.RowKit Go.Proofs
namespace Go.Proofs.Ytmjamjadfnbkdaa
namespace Hub
variable {B : Nat} {S : ByteArray} {p : Nat} {r : Rs} {w : World}
theorem Tch.drewN {a : World} (h : Tch B a w) (n : Nat) : Tch B a (w.drewN n) := ⟨h.os, h.tape, h.output, h.size, h.block⟩
theorem quiet_ret {P : Program} {f : FuncId} {args : Array Value} {n : Nat} {v : Value}
    (h : Calls P f args (w.drewN n) fun e w' => e = .returned v ∧ w.drewN n = w') : Calls P f args (w.drewN n) fun e w'' => e = .returned v ∧ ∃ m, w'' = w.drewN m :=
  h.mono fun _ _ ⟨he, hm⟩ => ⟨he, n, hm.symm⟩
end Hub
open Hub

end Go.Proofs.Ytmjamjadfnbkdaa
end

section
open Go Go.RowKit Go.Proofs
namespace Go.Proofs.Ytmjamjadfnbkdaa
namespace Hub
section
variable (L : List UInt8) (z k : Nat) (c : UInt8) (hc : L.drop k = c :: L.drop (k + 1)) (hv : vi 0 0 L = vi k z (L.drop k))
include hc hv
theorem vl_bad (h : (0 < k ∧ c.toNat = 0) ∨ (k = 9 ∧ 1 < c.toNat)) : (vi 0 0 L).1 = 4 := by
  rw [hv, hc, vi_cons, if_pos h]
theorem vl_end (h : ¬ ((0 < k ∧ c.toNat = 0) ∨ (k = 9 ∧ 1 < c.toNat))) (h7 : c.toNat < 128) : vi 0 0 L = (0, z + c.toNat % 128 * 128 ^ k, L.drop (k + 1)) := by
  have e : c.toNat % 128 = c.toNat := by omega
  rw [hv, hc, vi_cons, if_neg h, if_pos h7, e]
theorem vl_go (h : ¬ ((0 < k ∧ c.toNat = 0) ∨ (k = 9 ∧ 1 < c.toNat))) (h7 : 128 ≤ c.toNat) (hz : z < 128 ^ k) : z + c.toNat % 128 * 128 ^ k < 128 ^ (k + 1) ∧ vi 0 0 L = vi (k + 1) (z + c.toNat % 128 * 128 ^ k) (L.drop (k + 1)) := by
  have hc' := c.toNat_lt
  have e : c.toNat % 128 = c.toNat - 128 := by omega
  refine ⟨?_, ?_⟩
  · have h1 : c.toNat % 128 * 128 ^ k ≤ 127 * 128 ^ k := Nat.mul_le_mul_right _ (by omega)
    rw [Nat.pow_succ]; omega
  · rw [hv, hc, vi_cons, if_neg h, if_neg (by omega), e]
end
theorem vi_ref (z : Int) (c : UInt8) (k : Nat) (hz0 : 0 ≤ z) (hz : z.toNat < 128 ^ k) (hk : k ≤ 9) (hc : k = 9 → c.toNat ≤ 1) :
    bits .or .u64 z (IntKind.u64.wrap ((c.toNat : Int) % 128 * 2 ^ (7 * k))) = ((z.toNat + c.toNat % 128 * 128 ^ k : Nat) : Int) := by
  have h := vi_or z c k hz0 hz hk hc
  rw [u8_and127, IntWalk.u64_in ((c.toNat % 128 : Nat) : Int) ⟨by omega, by omega⟩] at h
  rw [← h]; rfl
theorem vi_ref9 (z : Int) (c : UInt8) (hz0 : 0 ≤ z) (hz : z.toNat < 128 ^ 9) (hc : c.toNat ≤ 1) :
    bits .or .u64 z ((c.toNat : Int) % 128 * 9223372036854775808) = ((z.toNat + c.toNat % 128 * 128 ^ 9 : Nat) : Int) := by
  have h := vi_ref z c 9 hz0 hz (Nat.le_refl _) (fun _ => hc)
  rw [show (2 : Int) ^ (7 * 9) = 9223372036854775808 from rfl, IntWalk.u64_in _ ⟨by omega, by omega⟩] at h
  exact h
theorem vi_ref0 (z : Int) (c : UInt8) (hz0 : 0 ≤ z) (hz : z.toNat < 128 ^ 0) :
    bits .or .u64 z ((c.toNat : Int) % 128) = ((z.toNat + c.toNat % 128 * 128 ^ 0 : Nat) : Int) := by
  have h := vi_ref z c 0 hz0 hz (Nat.zero_le _) (fun h => by omega)
  rw [show (2 : Int) ^ (7 * 0) = 1 from rfl, Int.mul_one, IntWalk.u64_in _ ⟨by omega, by omega⟩] at h
  exact h
theorem unzig_yes (X : Int) (m : Nat) (h : X = m) (hm : m < 18446744073709551616) (hp : (X.tmod 2 == 1) = true) : wrap64 (-1 - wrap64 (X / 2)) = unzig m := by
  subst h
  have h1 : m % 2 = 1 := by rw [Int.tmod_eq_emod_of_nonneg (by omega)] at hp; simp at hp; omega
  rw [IntWalk.wrap64_in ((m : Int) / 2) ⟨by omega, by omega⟩, IntWalk.wrap64_in _ ⟨by omega, by omega⟩, unzig, if_pos h1]; omega
theorem unzig_no (X : Int) (m : Nat) (h : X = m) (hm : m < 18446744073709551616) (hp : (X.tmod 2 == 1) = false) : wrap64 (X / 2) = unzig m := by
  subst h
  have h1 : ¬ m % 2 = 1 := by rw [Int.tmod_eq_emod_of_nonneg (by omega)] at hp; simp at hp; omega
  rw [IntWalk.wrap64_in ((m : Int) / 2) ⟨by omega, by omega⟩, unzig, if_neg h1]; omega
end Hub
open Hub

end Go.Proofs.Ytmjamjadfnbkdaa
end

section
open Go Go.RowKit Go.Proofs
namespace Go.Proofs.Ytmjamjadfnbkdaa
namespace Hub
theorem drewN_add (w : World) (a b : Nat) : (w.drewN a).drewN b = w.drewN (a + b) := by simp [World.drewN, Nat.add_assoc]
end Hub
open Hub

end Go.Proofs.Ytmjamjadfnbkdaa
end

section
open Go Go.RowKit Go.Proofs
namespace Go.Proofs.Ytmjamjadfnbkdaa
namespace Hub
theorem rInt_enc (n : Int) (m : List UInt8) (h0 : -9223372036854775808 ≤ n) (h1 : n ≤ 9223372036854775807) : rInt ⟨enc n ++ m, 0⟩ = (n, ⟨m, 0⟩) := by
  simp only [rInt, vi_enc n m h0 h1, unzig_zig]; rfl
theorem rCount_enc (a : Nat) (m : List UInt8) (most : Int) (h : (a : Int) ≤ most) (h1 : a ≤ 9223372036854775807) : rCount most ⟨enc a ++ m, 0⟩ = ((a : Int), (⟨m, 0⟩ : Rs)) := by
  have e := rInt_enc a m (by omega) (by omega)
  rw [rCount, e, if_neg (by simp), if_neg (by simp only; omega), if_neg (by simp only; omega)]
theorem rText_enc (s m : List UInt8) (most : Int) (h : (s.length : Int) ≤ most) (h1 : s.length ≤ 9223372036854775807) : rText most ⟨encT s ++ m, 0⟩ = (s, ⟨m, 0⟩) := by
  have e := rCount_enc s.length (s ++ m) most h h1
  rw [encT, List.append_assoc, rText, e, if_neg (by simp), if_neg (by simp only [List.length_append]; omega)]
  simp only [Int.toNat_natCast, List.take_left', List.drop_left']
theorem rBool_enc (b : Bool) (m : List UInt8) : rBool ⟨encB b ++ m, 0⟩ = (b, ⟨m, 0⟩) := by
  cases b <;> rfl
theorem rMany_enc (l : List Int) (m : List UInt8) (hb : IntB l) : rMany l.length ⟨l.flatMap enc ++ m, 0⟩ = (l, ⟨m, 0⟩) := by
  induction l with
  | nil => rfl
  | cons a l ih =>
    have e := rInt_enc a (l.flatMap enc ++ m) (hb a (by simp)).1 (hb a (by simp)).2
    have e2 := ih (fun x hx => hb x (by simp [hx]))
    rw [List.length_cons, List.flatMap_cons, List.append_assoc, rMany, e]
    simp only [e2]
theorem rInts_enc (l : List Int) (m : List UInt8) (most : Int) (h : (l.length : Int) ≤ most) (h1 : l.length ≤ 9223372036854775807) (hb : IntB l) : rInts most ⟨encL l ++ m, 0⟩ = (l, ⟨m, 0⟩) := by
  have e := rCount_enc l.length (l.flatMap enc ++ m) most h h1
  have e2 := rMany_enc l m hb
  rw [encL, List.append_assoc, rInts, e, Int.toNat_natCast, e2, if_neg (by simp)]
end Hub
end Go.Proofs.Ytmjamjadfnbkdaa
end

section
open Go Go.RowKit Go.Proofs
namespace Go.Proofs.Ytmjamjadfnbkdaa
namespace Hub
theorem rInt_canon (r : Rs) (h : (rInt r).2.err = 0) : r.err = 0 ∧ r.rest = enc (rInt r).1 ++ (rInt r).2.rest := by
  by_cases he : r.err = 0
  · refine ⟨he, ?_⟩
    rw [rInt, if_neg (by simpa using he)] at h ⊢
    by_cases hv : (vi 0 0 r.rest).1 = 0
    · rw [if_neg (by simpa using hv)]
      exact vi_canon0 _ hv
    · rw [if_pos hv] at h
      exact absurd h hv
  · exact absurd h (rInt_err r he)
theorem rCount_canon (m : Int) (r : Rs) (h : (rCount m r).2.err = 0) : r.err = 0 ∧ r.rest = enc (rCount m r).1 ++ (rCount m r).2.rest := by
  rw [rCount] at h ⊢
  by_cases h1 : (rInt r).2.err = 0
  · rw [if_neg (by simpa using h1)] at h ⊢
    by_cases h2 : (rInt r).1 < 0
    · rw [if_pos h2] at h; simp at h
    · rw [if_neg h2] at h ⊢
      by_cases h3 : max m 0 < (rInt r).1
      · rw [if_pos h3] at h; simp at h
      · rw [if_neg h3]
        exact rInt_canon r h1
  · rw [if_pos h1] at h; exact absurd h h1
theorem rText_canon (m : Int) (r : Rs) (h : (rText m r).2.err = 0) : r.err = 0 ∧ r.rest = encT (rText m r).1 ++ (rText m r).2.rest := by
  have hn := rCount_nonneg m r
  rw [rText] at h ⊢
  by_cases h1 : (rCount m r).2.err = 0
  · obtain ⟨e1, e2⟩ := rCount_canon m r h1
    rw [if_neg (by simpa using h1)] at h ⊢
    by_cases h2 : ((rCount m r).2.rest.length : Int) < (rCount m r).1
    · rw [if_pos h2] at h; simp at h
    · rw [if_neg h2]
      refine ⟨e1, ?_⟩
      have hl : (((rCount m r).2.rest.take (rCount m r).1.toNat).length : Int) = (rCount m r).1 := by rw [List.length_take]; omega
      simp only [encT]
      rw [hl, List.append_assoc, List.take_append_drop]; exact e2
  · rw [if_pos h1] at h; exact absurd h h1
theorem rBool_canon (r : Rs) (h : (rBool r).2.err = 0) : r.err = 0 ∧ r.rest = encB (rBool r).1 ++ (rBool r).2.rest := by
  obtain ⟨rest, err⟩ := r
  rw [rBool] at h ⊢
  by_cases he : err = 0
  · refine ⟨he, ?_⟩
    rw [if_neg (by simpa using he)] at h ⊢
    cases rest with
    | nil => simp at h
    | cons c l =>
      simp only at h ⊢
      by_cases hc : 1 < c.toNat
      · rw [if_pos hc] at h; simp at h
      · rw [if_neg hc]
        simp only [encB]
        by_cases h1 : c.toNat = 1
        · rw [decide_eq_true h1, if_pos rfl]
          have : c = 1 := UInt8.toNat_inj.1 h1
          rw [this]; rfl
        · rw [decide_eq_false h1, if_neg (by simp)]
          have : c = 0 := UInt8.toNat_inj.1 (by rw [show (0 : UInt8).toNat = 0 from rfl]; omega)
          rw [this]; rfl
  · rw [if_pos he] at h; exact absurd h he
theorem rMany_canon (n : Nat) : ∀ r, (rMany n r).2.err = 0 → (0 < n → r.err = 0) ∧ r.rest = (rMany n r).1.flatMap enc ++ (rMany n r).2.rest := by
  induction n with
  | zero => intro r _; exact ⟨fun h => absurd h (by omega), rfl⟩
  | succ n ih =>
    intro r h
    have h' : (rMany n (rInt r).2).2.err = 0 := h
    have hr : (rInt r).2.err = 0 := Classical.byContradiction fun hb => by rw [rMany_bad n _ hb] at h'; exact hb h'
    obtain ⟨e1, e2⟩ := rInt_canon r hr
    obtain ⟨_, e3⟩ := ih (rInt r).2 h'
    refine ⟨fun _ => e1, ?_⟩
    show r.rest = ((rInt r).1 :: (rMany n (rInt r).2).1).flatMap enc ++ (rMany n (rInt r).2).2.rest
    rw [List.flatMap_cons, List.append_assoc, ← e3]; exact e2
theorem rInts_canon (m : Int) (r : Rs) (h : (rInts m r).2.err = 0) : r.err = 0 ∧ r.rest = encL (rInts m r).1 ++ (rInts m r).2.rest := by
  have hn := rCount_nonneg m r
  rw [rInts] at h ⊢
  by_cases h1 : (rMany (rCount m r).1.toNat (rCount m r).2).2.err = 0
  · rw [if_neg (by simpa using h1)]
    have hc : (rCount m r).2.err = 0 := Classical.byContradiction fun hb => by rw [rMany_bad _ _ hb] at h1; exact hb h1
    obtain ⟨e1, e2⟩ := rCount_canon m r hc
    obtain ⟨_, e3⟩ := rMany_canon _ _ h1
    refine ⟨e1, ?_⟩
    have hl : ((rMany (rCount m r).1.toNat (rCount m r).2).1.length : Int) = (rCount m r).1 := by rw [rMany_length]; omega
    rw [encL, hl, List.append_assoc, ← e3]; exact e2
  · rw [if_pos h1] at h; exact absurd h h1
theorem rMany_int (n : Nat) : ∀ r, IntB (rMany n r).1 := by
  induction n with
  | zero => intro r x hx; simp [rMany] at hx
  | succ n ih =>
    intro r x hx
    have hx' : x ∈ (rInt r).1 :: (rMany n (rInt r).2).1 := hx
    rcases List.mem_cons.1 hx' with rfl | h
    · exact rInt_bounds r
    · exact ih _ x h
theorem rInts_short (m : Int) (r : Rs) : IntB (rInts m r).1 ∧ ((rInts m r).1.length : Int) ≤ max m 0 := by
  have hn := rCount_nonneg m r
  have hle := rCount_le m r
  rw [rInts]
  split
  · exact ⟨fun x hx => by simp at hx, by simp; omega⟩
  · exact ⟨rMany_int _ _, by rw [rMany_length]; omega⟩
theorem rText_short (m : Int) (r : Rs) : ((rText m r).1.length : Int) ≤ max m 0 := by
  have hn := rCount_nonneg m r
  have hle := rCount_le m r
  rw [rText]
  split
  · simp; omega
  · split
    · simp; omega
    · rw [List.length_take]; omega
end Hub
end Go.Proofs.Ytmjamjadfnbkdaa
end

section
open Go Go.RowKit Go.Proofs Go.Shelf
namespace Go.Proofs.Ytmjamjadfnbkdaa
namespace Hub
def ren241 : Go.Shelf.Ren := ⟨fun | 241 => 44 | 277 => 46 | n => n, fun | 70 => 56 | 0 => 0 | 72 => 58 | 37 => 46 | 3 => 3 | 5 => 5 | n => n, fun | n => n⟩
theorem lays241 : Go.Proofs.Lays.n241 Try.prog ren241 := {
  mixed := by kernel_rfl
  f241 := Try.func44.trans (congrArg some (by kernel_rfl))
  f277 := Try.func46.trans (congrArg some (by kernel_rfl))
  t0 := Try.underlying0
  a0 := Try.isAgg0
  z0 := Try.sizeOf0
  v0 := Try.zeroValue0
  t3 := Try.underlying3
  a3 := Try.isAgg3
  z3 := Try.sizeOf3
  v3 := Try.zeroValue3
  t37 := Try.underlying46
  a37 := Try.isAgg46
  z37 := Try.sizeOf46
  v37 := Try.zeroValue46
  t70 := Try.underlying56
  a70 := Try.isAgg56
  z70 := Try.sizeOf56
  v70 := Try.zeroValue56
  t72 := Try.underlying58
  a72 := Try.isAgg58
  z72 := Try.sizeOf58
  v72 := Try.zeroValue58 }
theorem extra241 : Builder.Extra Try.prog ren241 := {
  sizeBuilder := by kernel_rfl
  liesBuilder := by kernel_rfl
  t5 := Try.underlying5
  a5 := Try.isAgg5
  z5 := Try.sizeOf5
  v5 := Try.zeroValue5
  infoByte := by kernel_rfl
  cellsByte := by kernel_rfl
  sizeByte := by kernel_rfl
  neB5 := by decide }

def freshObj : Obj := .cells #[.pointer none, .slice none 0 0] 58 (0, 0)
theorem bldFresh {b : Nat} {w : World} (hbk : w.heap[b]? = some freshObj) : Lib.BuilderAt 58 5 b b (.pointer none) [] w :=
  ⟨Nat.le_refl _, .slice none 0 0, hbk, World.ownsRow_nil _ _ _ _, by simp [Value.ownBlock]⟩
set_option maxHeartbeats 1000000 in
set_option maxRecDepth 100000 in
theorem bldCheck0 (b : Nat) (w : World) (hbk : w.heap[b]? = some freshObj) :
    Calls Try.prog 43 #[.pointer (some ⟨b, 0, none⟩)] w fun e w' => e = .returned (.tuple #[]) ∧ w' = w.setCell ⟨b, 0, none⟩ (.pointer (some ⟨b, 0, none⟩)) := by
  obtain ⟨j, hj, hjs⟩ := Option.map_eq_some_iff.1 extra169.sizeBuilder
  have h := bldFresh hbk
  have h0 := h.cell0
  have hsh := h.shape
  have hfz := h.frozen0
  clear h hbk
  go_enter Try.func43, Try.ntmps43
  go_wp2
  rw [Lib.run_to_unsafe w ⟨b, 0, none⟩ Try.underlying56 Try.underlying66 hj (by rw [hjs]; decide) hsh (Nat.zero_lt_succ 1)]
  simp only [Result.andThen]
  rw [Oper.upon_value]
  go_wp2
  rw [run_callFunc_extern Try.func45 (by kernel_rfl) (by kernel_rfl) (by kernel_rfl) (e := Extern.AbiNoEscape.same) (by kernel_rfl)]
  rw [Lib.run_noEscape]
  simp only [Result.andThen]
  rw [Oper.upon_value]
  go_wp2
  rw [Lib.run_from_unsafe w ⟨b, 0, none⟩ Try.underlying66 Try.underlying56 hj hsh extra169.liesBuilder]
  simp only [Result.andThen]
  rw [Oper.upon_value]
  go_wp2
  go_end0
  exact ⟨rfl, rfl⟩

set_option maxHeartbeats 1000000 in
set_option maxRecDepth 100000 in
theorem bldGrow0 (b n : Nat) (w : World) (hbk : w.heap[b]? = some freshObj) (hn : n ≤ 281474976710656) :
    Calls Try.prog 38 #[.pointer (some ⟨b, 0, none⟩), .int .i64 n] w fun e w' => e = .returned (.tuple #[]) ∧ IsBld b [] w' ∧ Below b w w' := by
  have hlb : b < w.heap.size := (Array.getElem?_eq_some_iff.1 hbk).1
  have mixed := lays241.mixed
  have hbk1 : (w.setCell ⟨b, 0, none⟩ (.pointer (some ⟨b, 0, none⟩))).heap[b]? = some (.cells #[.pointer (some ⟨b, 0, none⟩), .slice none 0 0] 58 (0, 0)) := by
    simp [World.setCell, Array.getElem?_modify, hbk, freshObj]
  have c1 : (w.setCell ⟨b, 0, none⟩ (.pointer (some ⟨b, 0, none⟩))).cell? ⟨b, 1, none⟩ = some (.slice none 0 0) := by rw [Lib.cell_of_heap hbk1]; rfl
  have hb1 : Below b w (w.setCell ⟨b, 0, none⟩ (.pointer (some ⟨b, 0, none⟩))) := (Below.refl b w).setCell (p := ⟨b, 0, none⟩) (Nat.le_refl _) _
  have hU : Lib.BuilderAt 58 5 b b (.pointer (some ⟨b, 0, none⟩)) [] (w.setCell ⟨b, 0, none⟩ (.pointer (some ⟨b, 0, none⟩))) := ⟨Nat.le_refl _, .slice none 0 0, hbk1, World.ownsRow_nil _ _ _ _, by simp [Value.ownBlock]⟩
  have hsz : b ≤ (w.setCell ⟨b, 0, none⟩ (.pointer (some ⟨b, 0, none⟩))).drew.heap.size := by
    have : (w.setCell ⟨b, 0, none⟩ (.pointer (some ⟨b, 0, none⟩))).drew.heap.size = w.heap.size := by simp [World.setCell, World.drew, -World.drew_eq]
    omega
  have HG := Lib.hid (Any.Builder_grow_fresh lays241 extra241 b b n (w.setCell ⟨b, 0, none⟩ (.pointer (some ⟨b, 0, none⟩))).drew (Nat.le_refl _) hbk1 hsz hn)
  have c1' : (w.setCell ⟨b, 0, none⟩ (.pointer (some ⟨b, 0, none⟩))).drew.cell? ⟨b, 1, none⟩ = some (.slice none 0 0) := c1
  go_enter Try.func38, Try.ntmps38
  go_wp2_with (go_at_call 43; refine (bldCheck0 b _ hbk).mono ?_; rintro e w1 ⟨rfl, rfl⟩)
  go_region_o
  all_goals go_wp2_with (go_at_call 44; refine HG.out.mono ?_; rintro e w' ⟨rfl, h1, h2⟩)
  all_goals first
    | (go_end0; exact ⟨rfl, .inr h1, hb1.drew.trans h2⟩)
    | (go_end0; exact ⟨rfl, .inr hU.drew, hb1.drew⟩)

/-- The bytes of a list of strings, one after the other. -/
def flat (xs : List ByteArray) : List UInt8 := xs.flatMap bl
theorem flat_take (xs : List ByteArray) (k : Nat) (h : k < xs.length) : flat (xs.take (k + 1)) = flat (xs.take k) ++ bl xs[k] := by
  rw [flat, flat, List.take_succ_eq_append_getElem h, List.flatMap_append]; simp
theorem flat_le (xs : List ByteArray) (k : Nat) : (flat (xs.take k)).length ≤ (flat xs).length := by
  have h : flat xs = flat (xs.take k) ++ flat (xs.drop k) := by rw [flat, flat, flat, ← List.flatMap_append, List.take_append_drop]
  rw [h, List.length_append]; omega
end Hub
open Hub

set_option maxHeartbeats 2000000 in
theorem join_any (xs : List ByteArray) (v : Value) (lo N : Nat) (w : World) (hv : StrsAt lo N w v xs) (hN : N ≤ w.heap.size) (hn : xs.length ≤ 1099511627776) (hl : (flat xs).length ≤ 1099511627776) :
    Calls Try.prog 29 #[v, .string ⟨#[]⟩] w fun e w' => e = .returned (.string (mk (flat xs))) ∧ Below w.heap.size w w' := by
  obtain ⟨a, cap, rfl, hcap, hc⟩ := hv
  by_cases h0 : xs.length = 0
  · obtain rfl := List.length_eq_zero_iff.1 h0
    have e : mk (flat []) = ⟨#[]⟩ := rfl
    rw [e]
    clear hc hl
    go_enter Try.func29, Try.ntmps29
    go_wp2_with fail
    go_ret
    exact ⟨rfl, Below.refl _ _⟩
  · obtain ⟨b, off, rfl, _, hbN, hcell⟩ := hc (by intro h; rw [h] at h0; simp at h0)
    have HC := Lib.hid hcell
    have hbw : b < w.heap.size := by omega
    have c0 : w.cell? ⟨b, off, none⟩ = some (.string xs[0]) := by have := hcell 0 (by omega); rwa [Nat.add_zero] at this
    by_cases h1 : xs.length = 1
    · obtain ⟨x, rfl⟩ := List.length_eq_one_iff.1 h1
      have e : mk (flat [x]) = x := by rw [flat, List.flatMap_cons, List.flatMap_nil, List.append_nil, mk_bl]
      rw [e]
      simp only [List.getElem_cons_zero] at c0
      clear hcell hc hl e h1 h0
      go_enter Try.func29, Try.ntmps29
      go_wp2_with fail
      go_ret
      exact ⟨rfl, Below.refl _ _⟩
    · obtain ⟨L, hL⟩ : ∃ L, xs.length = L := ⟨_, rfl⟩
      rw [hL] at h0 h1 hn hcap ⊢
      have hne0 : ((L : Int) == 0) = false := beq_eq_false_iff_ne.2 (by omega)
      have hne1 : ((L : Int) == 1) = false := beq_eq_false_iff_ne.2 (by omega)
      have HL := Lib.hid hL
      have hlc : (L : Int) ≤ (cap : Int) := by omega
      have hle := fun k => flat_le xs k
      have HLe := Lib.hid hle
      clear hcell hc hL hle
      go_enter Try.func29, Try.ntmps29
      go_wp2_with fail
      go_loop [5, 41] (fun n i => ∃ k : Nat, k ≤ L ∧ i = .int .i64 k ∧ n = .int .i64 (((flat (xs.take k)).length : Nat) : Int)) (fun _ i => L - (intOf i).toNat)
      case atStart => exact ⟨0, Nat.zero_le _, rfl, rfl⟩
      case round =>
        obtain ⟨k, hk, rfl, rfl⟩ := hrel
        by_cases hkn : k < L
        · have hkx : k < xs.length := by rw [HL.out]; exact hkn
          have hck := HC.out k hkx
          have hstep : (flat (xs.take (k + 1))).length = (flat (xs.take k)).length + xs[k].size := by rw [flat_take xs k hkx, List.length_append, size_bl]
          have hbound := HLe.out (k + 1)
          have HS := Lib.hid hstep
          generalize xs[k] = x at *
          have hb1 : ((flat (xs.take k)).length : Int) ≤ 1099511627776 := by omega
          have hb2 : (x.size : Int) ≤ 1099511627776 := by omega
          clear hstep hbound
          generalize (flat (xs.take k)).length = A at *
          go_wp2
          exact ⟨⟨k + 1, by omega, by go_num, by rw [HS.out]; go_num⟩, by simp [intOf]; omega⟩
        · obtain rfl : k = L := by omega
          have hall : xs.take k = xs := List.take_of_length_le (by rw [HL.out]; omega)
          rw [hall]
          clear hall
          generalize hT : (flat xs).length = T at *
          have HT := Lib.hid hT
          clear hT
          go_wp2_with fail
          refine (bldGrow0 w.heap.size T _ (heap_alloc_new w _) (by omega)).mono ?_
          rintro e w1 ⟨rfl, hB1, hb1⟩
          have hb1' : Below w.heap.size w w1 := ((Below.refl w.heap.size w).alloc (Nat.le_refl _) _).trans hb1
          have d0 : w1.cell? ⟨b, off, none⟩ = some (.string xs[0]) := by rw [hb1'.cell (p := ⟨b, off, none⟩) hbw]; exact c0
          have hx0 : flat (xs.take 1) = bl xs[0] := by have := flat_take xs 0 (by rw [HL.out]; omega); simpa [flat] using this
          have hz0 : xs[0].size ≤ 1099511627776 := by have := HLe.out 1; rw [hx0, size_bl] at this; omega
          have HX0 := Lib.hid hx0
          have Hb1 := Lib.hid hb1'
          clear hb1 hb1' hx0 c0
          go_wp2_with fail
          refine (bldWrite w.heap.size [] xs[0] w1 hB1 (by simp; omega)).mono ?_
          rintro e w2 ⟨rfl, hB2, hb2⟩
          rw [List.nil_append, ← HX0.out] at hB2
          have Hb2 := Lib.hid (Hb1.out.trans hb2)
          clear hb2 hB1
          go_wp2_with fail
          go_loopw [65] (fun i wr => ∃ k : Nat, k + 1 ≤ xs.length ∧ i = .int .i64 k ∧ IsBld w.heap.size (flat (xs.take (k + 1))) wr ∧ Below w.heap.size w wr) (fun i _ => xs.length - (intOf i).toNat)
          case atStart => exact ⟨0, by omega, rfl, hB2, Hb2.out⟩
          case round =>
            obtain ⟨m, hm, rfl, hB, hb⟩ := hrel
            by_cases hlt : m + 1 < k
            · have hmx : m + 1 < xs.length := by rw [HL.out]; exact hlt
              have e1 : wr.cell? ⟨b, off + 1 + m, none⟩ = some (.string xs[m + 1]) := by
                rw [hb.cell (p := ⟨b, off + 1 + m, none⟩) hbw, show off + 1 + m = off + (m + 1) by omega]; exact HC.out (m + 1) hmx
              have hft := flat_take xs (m + 1) hmx
              have hl1 := HLe.out (m + 2)
              rw [hft, List.length_append, size_bl] at hl1
              have HF := Lib.hid hft
              have Hb := Lib.hid hb
              have hl2 : (flat (xs.take (m + 1))).length ≤ 1099511627776 := by omega
              have hl3 : xs[m + 1].size ≤ 1099511627776 := by omega
              have hmi : (m : Int) + 1 < (k : Int) := by omega
              clear hft hl1 hb
              generalize xs[m + 1] = x at *
              go_wp2_with fail
              refine (bldWrite w.heap.size (flat (xs.take (m + 1))) ⟨#[]⟩ wr hB (by show _ + 0 ≤ _; omega)).mono ?_
              rintro e w3 ⟨rfl, hB3, hb3⟩
              rw [show bl (⟨#[]⟩ : ByteArray) = [] from rfl, List.append_nil] at hB3
              have Hb3 := Lib.hid hb3
              clear hb3 hB
              go_wp2_with fail
              refine (bldWrite w.heap.size (flat (xs.take (m + 1))) x w3 hB3 (by omega)).mono ?_
              rintro e w4 ⟨rfl, hB4, hb4⟩
              rw [← HF.out] at hB4
              go_wp2_with fail
              go_roundw
              case rel => exact ⟨m + 1, by omega, by go_num, hB4, (Hb.out.trans Hb3.out).trans hb4⟩
              case measure => simp [intOf]; omega
            · have hmk : m + 1 = k := by have := HL.out; omega
              have hall : xs.take (m + 1) = xs := List.take_of_length_le (by rw [HL.out]; omega)
              rw [hall] at hB
              have hmi : ¬ (m : Int) + 1 < (k : Int) := by omega
              have Hb := Lib.hid hb
              clear hall hb
              go_wp2_with fail
              refine (bldString w.heap.size (flat xs) wr hB).mono ?_
              rintro e w5 ⟨rfl, hb5⟩
              go_wp2_with fail
              go_ret
              exact ⟨rfl, Hb.out.trans hb5⟩
end Go.Proofs.Ytmjamjadfnbkdaa
end

section
open Go Go.RowKit Go.Proofs Go.Joins Go.ChangeShapes Go.WideShapes
namespace Go.Proofs.Ytmjamjadfnbkdaa
open Hub
section
variable {H : Type} {enc : TypeId × Value → H} {w : World} {base : Nat} {spare : Nat → Bool} {held : Bool}
theorem add_offS {w : World} {a : Addr} {i : Nat} {v : Value} (h : w.cell? (a.add i) = some v) : w.cell? ⟨a.block, a.off + i, none⟩ = some v := by
  obtain ⟨b, o, spot⟩ := a
  have hs := World.cell?_spot h
  by_cases hi : i = 0
  · subst hi
    simp only [Addr.add, if_true] at h hs
    subst hs
    exact h
  · simp only [Addr.add, hi, if_false] at h
    exact h
theorem spot_noneS {w : World} {a : Addr} {v : Value} (h : w.cell? (a.add 0) = some v) : a = ⟨a.block, a.off, none⟩ := by
  obtain ⟨b, o, spot⟩ := a
  have hs := World.cell?_spot h
  cases spot with
  | none => rfl
  | some s => simp [Addr.add] at hs
theorem cells_str : Try.prog.cellsOf 9 = 1 := by kernel_rfl
theorem open_trods {fuel : Nat} {v : Value} {x : DataW H × List MemPlace} (h : DataW.trod enc Try.prog w base spare held fuel 23 [v] = some x) :
    ∃ l : List ByteArray, StrsAt 0 w.heap.size w v l ∧ l.length ≤ maxLen ∧ ∀ x ∈ l, x.size ≤ maxLen := by
  rcases open_strings Try.underlying23 Try.underlying9 cells_str h with ⟨hcs, _⟩ | ⟨a, len, cap, zs, hcs, _, hl, hm, hz, _, hcell, hwz⟩
  · simp only [List.cons.injEq, and_true] at hcs
    subst hcs
    exact ⟨[], StrsAt.nil _ _ _, Nat.zero_le _, fun x hx => by simp at hx⟩
  · simp only [List.cons.injEq, and_true] at hcs
    subst hcs
    have hlz : len ≤ zs.length := by rw [hz]; split <;> omega
    have hlen : (zs.take len).length = len := by rw [List.length_take]; omega
    refine ⟨zs.take len, ⟨some a, cap, by rw [hlen], by omega, fun hne => ?_⟩, by omega, fun x hx => hwz x (List.mem_of_mem_take hx)⟩
    have h0 : 0 < len := by
      rcases Nat.eq_zero_or_pos len with h | h
      · exfalso; apply hne; rw [h]; rfl
      · exact h
    have hsp := spot_noneS (hcell 0 (by omega))
    refine ⟨a.block, a.off, by rw [← hsp], Nat.zero_le _, World.block_lt_of_cell? w ⟨a.block, a.off + 0, none⟩ (add_offS (hcell 0 (by omega))), fun i hi => ?_⟩
    rw [hlen] at hi
    rw [add_offS (hcell i (by omega))]
    simp [List.getD, List.getElem?_eq_getElem (show i < zs.length by omega)]
theorem open_strs {r : Reach} {b0 : Nat} {v : Value} {d : DataW H} {p : List MemPlace} (hv : Value.okWide Try.prog w r b0 23 v) (h : DataW.Trod enc Try.prog w base spare held 23 v d p) :
    ∃ l : List ByteArray, StrsAt 0 w.heap.size w v l ∧ l.length ≤ maxLen ∧ ∀ x ∈ l, x.size ≤ maxLen := by
  obtain ⟨fuel, hf⟩ := h
  obtain ⟨a, len, cap, rfl⟩ := okWide_slice Try.underlying23 hv
  exact open_trods (by simpa [Value.cells] using hf)
end
end Go.Proofs.Ytmjamjadfnbkdaa
end
