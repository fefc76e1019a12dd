/-
  The plain text of layer 9, continued: what is decoded; no program in sight.
-/
import Derived.Test.YtiicjbhlcmmijaaFrm
namespace Go.Proofs.Ytiicjbhlcmmijaa
namespace Hub

/-- A frame as a value. -/
def Fr.val (f : Fr) : Value := .agg #[.int .i64 f.kind, .int .i64 f.frm, .int .i64 f.to, .int .i64 f.src, .int .i64 f.tgt, .int .i64 f.seq, .int .i64 f.hops, .bool f.urg, .string f.dat]
def zeroFr : Fr := { kind := 0, frm := 0, to := 0, src := 0, tgt := 0, seq := 0, hops := 0, urg := false, dat := { data := #[] } }
/-- The byte with a number. -/
def at_ (l : List UInt8) (i : Nat) : Int := ((l.getD i 0).toNat : Int)
theorem at_bounds (l : List UInt8) (i : Nat) : 0 ≤ at_ l i ∧ at_ l i ≤ 255 := by
  have := (l.getD i 0).toNat_lt
  unfold at_; omega
theorem at_bl (s : ByteArray) (i : Nat) (h : i < s.size) : at_ (bl s) i = (s[i].toNat : Int) := by
  unfold at_; rw [show (bl s).getD i 0 = s[i] from by simp [List.getD, List.getElem?_eq_getElem (show i < (bl s).length by rw [size_bl]; exact h)]; rfl]
def fieldsD (l : List UInt8) : Fr :=
  { kind := at_ l 0 % 128, frm := at_ l 1, to := at_ l 2, src := at_ l 3, tgt := at_ l 4, seq := 256 * at_ l 5 + at_ l 6, hops := at_ l 7, urg := decide (128 ≤ at_ l 0), dat := mk ((l.drop 9).take (l.length - 11)) }
/-- What Decode returns. -/
def decD (l : List UInt8) : Fr × Int :=
  if l.length < 11 then (zeroFr, 5) else
  if ((crc16 (l.take (l.length - 2))).toNat : Int) ≠ 256 * at_ l (l.length - 2) + at_ l (l.length - 1) then (zeroFr, 6) else
  if at_ l 8 ≠ (l.length : Int) - 11 then (zeroFr, 4) else
  if check (fieldsD l) = 0 then (fieldsD l, 0) else (zeroFr, check (fieldsD l))
theorem decD_five (s : ByteArray) (h : s.size < 11) : decD (bl s) = (zeroFr, 5) := by rw [decD, if_pos (by rw [size_bl]; exact h)]
theorem decD_six (s : ByteArray) (h : ¬ s.size < 11) (hc : ((crc16 (bl (s.extract 0 (s.size - 2)))).toNat : Int) ≠ 256 * at_ (bl s) (s.size - 2) + at_ (bl s) (s.size - 1)) : decD (bl s) = (zeroFr, 6) := by
  rw [bl_take] at hc
  rw [decD, size_bl, if_neg h, if_pos hc]
theorem decD_four (s : ByteArray) (h : ¬ s.size < 11) (hc : ((crc16 (bl (s.extract 0 (s.size - 2)))).toNat : Int) = 256 * at_ (bl s) (s.size - 2) + at_ (bl s) (s.size - 1)) (h8 : at_ (bl s) 8 ≠ (s.size : Int) - 11) : decD (bl s) = (zeroFr, 4) := by
  rw [bl_take] at hc
  rw [decD, size_bl, if_neg h, if_neg (not_not_intro hc), if_pos h8]
theorem decD_rest (s : ByteArray) (h : ¬ s.size < 11) (hc : ((crc16 (bl (s.extract 0 (s.size - 2)))).toNat : Int) = 256 * at_ (bl s) (s.size - 2) + at_ (bl s) (s.size - 1)) (h8 : at_ (bl s) 8 = (s.size : Int) - 11) :
    decD (bl s) = if check (fieldsD (bl s)) = 0 then (fieldsD (bl s), 0) else (zeroFr, check (fieldsD (bl s))) := by
  rw [bl_take] at hc
  rw [decD, size_bl, if_neg h, if_neg (not_not_intro hc), if_neg (not_not_intro h8)]
theorem dat_eq (s : ByteArray) : s.extract 9 (s.size - 2) = (fieldsD (bl s)).dat := by
  apply bl_inj
  show _ = bl (mk _)
  rw [bl_mk, bl_extract, size_bl]; congr 1
end Hub
end Go.Proofs.Ytiicjbhlcmmijaa
