/-
  The plain text of layer 9: frames, their check, their bytes and what is decoded; no program in sight.
-/
import Derived.Test.YtiicjbhlcmmijaaLib
namespace Go.Proofs.Ytiicjbhlcmmijaa
namespace Hub

structure Fr where
  kind : Int
  frm : Int
  to : Int
  src : Int
  tgt : Int
  seq : Int
  hops : Int
  urg : Bool
  dat : ByteArray
def nodeB (n : Int) : Bool := decide (0 ≤ n ∧ n ≤ 250)
def targetB (n : Int) : Bool := decide ((0 ≤ n ∧ n ≤ 250) ∨ n = 255)
theorem nodeB_yes {n : Int} (h : nodeB n = true) : 0 ≤ n ∧ n ≤ 250 := of_decide_eq_true h
theorem nodeB_no {n : Int} (h : nodeB n = false) : ¬ (0 ≤ n ∧ n ≤ 250) := of_decide_eq_false h
theorem targetB_yes {n : Int} (h : targetB n = true) : (0 ≤ n ∧ n ≤ 250) ∨ n = 255 := of_decide_eq_true h
theorem targetB_no {n : Int} (h : targetB n = false) : ¬ ((0 ≤ n ∧ n ≤ 250) ∨ n = 255) := of_decide_eq_false h

def inRange (f : Fr) : Prop := (0 ≤ f.frm ∧ f.frm ≤ 250) ∧ (0 ≤ f.src ∧ f.src ≤ 250) ∧ ((0 ≤ f.to ∧ f.to ≤ 250) ∨ f.to = 255) ∧ ((0 ≤ f.tgt ∧ f.tgt ≤ 250) ∨ f.tgt = 255) ∧ 0 ≤ f.seq ∧ f.seq ≤ 65535 ∧ 0 ≤ f.hops ∧ f.hops ≤ 15
def badForm (f : Fr) : Prop := f.frm = f.to ∨ ((f.kind = 1 ∨ f.kind = 4) ∧ (f.to ≠ 255 ∨ f.tgt ≠ 255)) ∨ (f.kind = 3 ∧ (f.dat.size ≠ 0 ∨ f.to = 255))
instance (f : Fr) : Decidable (inRange f) := by unfold inRange; infer_instance
instance (f : Fr) : Decidable (badForm f) := by unfold badForm; infer_instance
/-- Check's error number. -/
def check (f : Fr) : Int :=
  if f.kind < 1 ∨ 4 < f.kind then 7 else
  if ¬ inRange f then 2 else
  if 109 < f.dat.size then 3 else
  if badForm f then 4 else 0
theorem toList_nil (s : ByteArray) : (s.toList = []) ↔ s.size = 0 := by
  rw [toList_bl, ← size_bl, List.length_eq_zero_iff]
theorem toList_isEmpty (s : ByteArray) : s.toList.isEmpty = decide (s.size = 0) := by
  rw [toList_bl, ← size_bl]; cases bl s <;> simp

/-- A number's last byte. -/
def b8 (n : Int) : UInt8 := UInt8.ofNat (n % 256).toNat
theorem b8_toNat (n : Int) : ((b8 n).toNat : Int) = n % 256 := by unfold b8; simp; omega
theorem b8_in {n : Int} (h0 : 0 ≤ n) (h1 : n ≤ 255) : ((b8 n).toNat : Int) = n := by rw [b8_toNat]; omega
theorem b8_num {n : Int} (h0 : 0 ≤ n) (h1 : n ≤ 255) : UInt8.ofNat n.toNat = b8 n := by unfold b8; congr 2; omega
def hdr (f : Fr) : List UInt8 := [b8 (f.kind + if f.urg then 128 else 0), b8 f.frm, b8 f.to, b8 f.src, b8 f.tgt, b8 (f.seq / 256), b8 (f.seq % 256), b8 f.hops, b8 f.dat.size]
def body (f : Fr) : List UInt8 := hdr f ++ bl f.dat
/-- The two bytes of a checksum. -/
def two (n : Nat) : List UInt8 := [UInt8.ofNat (n / 256), UInt8.ofNat (n % 256)]
def withSum (l : List UInt8) : List UInt8 := l ++ two (crc16 l).toNat
/-- What Encode returns. -/
def encD (f : Fr) : List UInt8 × Int := if check f = 0 then (withSum (body f), 0) else ([], check f)
theorem check_zero {f : Fr} (h : check f = 0) : 1 ≤ f.kind ∧ f.kind ≤ 4 ∧ inRange f ∧ f.dat.size ≤ 109 ∧ ¬ badForm f := by
  unfold check at h
  by_cases h1 : f.kind < 1 ∨ 4 < f.kind
  · rw [if_pos h1] at h; omega
  · rw [if_neg h1] at h
    by_cases h2 : inRange f
    · rw [if_neg (not_not_intro h2)] at h
      by_cases h3 : 109 < f.dat.size
      · rw [if_pos h3] at h; omega
      · rw [if_neg h3] at h
        by_cases h4 : badForm f
        · rw [if_pos h4] at h; omega
        · exact ⟨by omega, by omega, h2, by omega, h4⟩
    · rw [if_pos h2] at h; omega
theorem hdr_vals (f : Fr) (h : check f = 0) (k : Int) (hk : k = f.kind + if f.urg then 128 else 0) : vals (hdr f) = [.int .u8 k, .int .u8 f.frm, .int .u8 f.to, .int .u8 f.src, .int .u8 f.tgt, .int .u8 (f.seq / 256), .int .u8 (f.seq % 256), .int .u8 f.hops, .int .u8 f.dat.size] := by
  subst hk
  obtain ⟨h1, h2, ⟨r1, r2, r3, r4, r5, r6, r7, r8⟩, h3, _⟩ := check_zero h
  have hk1 : 0 ≤ f.kind + (if f.urg then 128 else 0) := by split <;> omega
  have hk2 : f.kind + (if f.urg then 128 else 0) ≤ 255 := by split <;> omega
  simp only [vals, hdr, List.map_cons, List.map_nil]
  rw [b8_in hk1 hk2, b8_in (n := f.frm) (by omega) (by omega), b8_in (n := f.to) (by omega) (by omega), b8_in (n := f.src) (by omega) (by omega), b8_in (n := f.tgt) (by omega) (by omega),
    b8_in (n := f.seq / 256) (by omega) (by omega), b8_in (n := f.seq % 256) (by omega) (by omega), b8_in (n := f.hops) (by omega) (by omega), b8_in (n := (f.dat.size : Int)) (by omega) (by omega)]
theorem body_str (f : Fr) (h : check f = 0) (k : Int) (hk : k = f.kind + if f.urg then 128 else 0) :
    strOfNums [k, f.frm, f.to, f.src, f.tgt] ++ mk (two f.seq.toNat) ++ strOfNums [f.hops, (f.dat.size : Int)] ++ f.dat = mk (body f) := by
  subst hk
  obtain ⟨h1, h2, ⟨r1, r2, r3, r4, r5, r6, r7, r8⟩, h3, _⟩ := check_zero h
  have hk1 : 0 ≤ f.kind + (if f.urg then 128 else 0) := by split <;> omega
  have hk2 : f.kind + (if f.urg then 128 else 0) ≤ 255 := by split <;> omega
  apply bl_inj
  simp only [bl_append, bl_mk, strOfNums_mk, List.map_cons, List.map_nil, body, hdr, two]
  rw [b8_num hk1 hk2, b8_num (n := f.frm) (by omega) (by omega), b8_num (n := f.to) (by omega) (by omega), b8_num (n := f.src) (by omega) (by omega), b8_num (n := f.tgt) (by omega) (by omega), b8_num (n := f.hops) (by omega) (by omega), b8_num (n := (f.dat.size : Int)) (by omega) (by omega)]
  rw [show UInt8.ofNat (f.seq.toNat / 256) = b8 (f.seq / 256) from by rw [← b8_num (by omega) (by omega)]; congr 1; omega, show UInt8.ofNat (f.seq.toNat % 256) = b8 (f.seq % 256) from by rw [← b8_num (by omega) (by omega)]; congr 1; omega]
  rfl
end Hub
end Go.Proofs.Ytiicjbhlcmmijaa
