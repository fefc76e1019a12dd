/-
  Fragments: the pieces of a message: their bytes, their check, their data. Plain laws.
-/
import Derived.Test.YtmjamjadfnbkdaaFrc
open Go Go.RowKit Go.Proofs
namespace Go.Proofs.Ytmjamjadfnbkdaa
namespace Hub
/-- The data of the i-th piece of a message. -/
def dataF (s : ByteArray) (i : Nat) : ByteArray := s.extract (64 * i) (min s.size (64 * (i + 1)))
theorem bl_dataF (s : ByteArray) (i : Nat) : bl (dataF s i) = ((bl s).drop (64 * i)).take (min s.size (64 * (i + 1)) - 64 * i) := by unfold dataF; exact bl_extract _ _ _
theorem dataF_size (s : ByteArray) (i : Nat) : (dataF s i).size = min s.size (64 * (i + 1)) - 64 * i := by
  unfold dataF; rw [ByteArray.size_extract]; omega
theorem bl_pieceF (s : ByteArray) (id : Int) (n i : Nat) : bl (pieceF s id n i) = UInt8.ofNat id.toNat :: UInt8.ofNat i :: UInt8.ofNat n :: bl (dataF s i) := by
  unfold pieceF; rw [bl_append, strOfNums_mk, bl_mk]; rfl
theorem pieceF_size (s : ByteArray) (id : Int) (n i : Nat) : (pieceF s id n i).size = 3 + (dataF s i).size := by
  rw [← size_bl, bl_pieceF, List.length_cons, List.length_cons, List.length_cons, size_bl]; omega
theorem byte_of {n : Nat} (h : n ≤ 255) : ((UInt8.ofNat n).toNat : Int) = (n : Int) := by
  rw [UInt8.toNat_ofNat']; omega
theorem pieceF_b0 {s : ByteArray} {id : Int} {n i : Nat} (h0 : 0 ≤ id) (h1 : id ≤ 255) : byI (pieceF s id n i) 0 = id := by
  unfold byI; rw [bl_pieceF]
  show ((UInt8.ofNat id.toNat).toNat : Int) = id
  rw [byte_of (by omega)]; omega
theorem pieceF_b1 {s : ByteArray} {id : Int} {n i : Nat} (h : i ≤ 255) : byI (pieceF s id n i) 1 = (i : Int) := by
  unfold byI; rw [bl_pieceF]; exact byte_of h
theorem pieceF_b2 {s : ByteArray} {id : Int} {n i : Nat} (h : n ≤ 255) : byI (pieceF s id n i) 2 = (n : Int) := by
  unfold byI; rw [bl_pieceF]; exact byte_of h
theorem pieceF_data (s : ByteArray) (id : Int) (n i : Nat) : (pieceF s id n i).extract 3 (pieceF s id n i).size = dataF s i := by
  apply bl_inj; rw [bl_drop, bl_pieceF]; rfl
theorem cntS_zero' {s : ByteArray} (h : ¬ s.size = 0) : cntS s = (s.size + 63) / 64 := by unfold cntS; rw [if_neg h]
theorem fitsF_data {s : ByteArray} (hs : s.size ≤ 1000) {i : Nat} (hi : i < cntS s) : fitsF (i : Int) (cntS s : Int) ((dataF s i).size : Int) = true := by
  rw [dataF_size]
  have h1 := cntS_pos s
  by_cases h0 : s.size = 0
  · have hc := cntS_zero s h0
    unfold fitsF
    rw [hc, if_pos (by omega), if_pos (by omega), decide_eq_true_eq]; omega
  · have hc := cntS_zero' h0
    generalize cntS s = c at *
    unfold fitsF
    by_cases e : (i : Int) = (c : Int) - 1
    · rw [if_pos e]
      by_cases e1 : c = 1
      · rw [if_pos (by omega), decide_eq_true_eq]; omega
      · rw [if_neg (by omega)]
        by_cases e2 : c = 16
        · rw [if_pos (by omega), Bool.and_eq_true, decide_eq_true_eq, decide_eq_true_eq]; omega
        · rw [if_neg (by omega), Bool.and_eq_true, decide_eq_true_eq, decide_eq_true_eq]; omega
    · rw [if_neg e, decide_eq_true_eq]; omega
theorem pieceF_chk {s : ByteArray} {id : Int} (hs : s.size ≤ 1000) {i : Nat} (hi : i < cntS s) : chkF (pieceF s id (cntS s) i) = 0 := by
  have h1 := cntS_pos s
  have h2 := cntS_le s hs
  have hsz := pieceF_size s id (cntS s) i
  unfold chkF
  rw [if_neg (by omega), pieceF_b2 (by omega), pieceF_b1 (by omega)]
  rw [show ((pieceF s id (cntS s) i).size : Int) - 3 = ((dataF s i).size : Int) by omega, fitsF_data hs hi]
  rw [if_neg (by simp; omega)]
theorem dataF_le (s : ByteArray) (i : Nat) : (dataF s i).size ≤ 64 := by rw [dataF_size]; omega
/-- The data of the first k pieces is the beginning of the message. -/
theorem data_take (s : ByteArray) (k : Nat) : ((List.range k).map (dataF s)).flatMap bl = (bl s).take (64 * k) := by
  induction k with
  | zero => simp
  | succ k ih =>
    rw [List.range_succ, List.map_append, List.flatMap_append, ih, List.map_singleton, List.flatMap_singleton, bl_dataF]
    have hl : (bl s).length = s.size := size_bl s
    rw [show 64 * (k + 1) = 64 * k + 64 by omega, List.take_add]
    congr 1
    by_cases h : 64 * k + 64 ≤ s.size
    · rw [show min s.size (64 * k + 64) - 64 * k = 64 by omega]
    · rw [List.take_of_length_le (by rw [List.length_drop]; omega), List.take_of_length_le (by rw [List.length_drop]; omega)]
theorem cntS_cover (s : ByteArray) : s.size ≤ 64 * cntS s := by unfold cntS; split <;> omega
theorem data_all (s : ByteArray) : mk (((List.range (cntS s)).map (dataF s)).flatMap bl) = s := by
  rw [data_take, List.take_of_length_le (by rw [size_bl]; exact cntS_cover s), mk_bl]
theorem data_next (s : ByteArray) (k : Nat) : mk ((bl s).take (64 * k)) ++ dataF s k = mk ((bl s).take (64 * (k + 1))) := by
  apply bl_inj
  rw [bl_append, bl_mk, bl_mk, ← data_take, ← data_take, List.range_succ, List.map_append, List.flatMap_append, List.map_singleton, List.flatMap_singleton]
theorem pcsN_at (s : ByteArray) (id : Int) (n k i : Nat) (h : i < (pcsN s id n k).length) : (pcsN s id n k)[i] = pieceF s id n i := by
  have hk : i < ((List.range k).map (pieceF s id n)).length := h
  show ((List.range k).map (pieceF s id n))[i]'hk = _
  rw [List.getElem_map, List.getElem_range]
theorem splitF_ok {s : ByteArray} {id : Int} (hs : s.size ≤ 1000) (h0 : 0 ≤ id) (h1 : id ≤ 255) : splitF s id = (pcsN s id (cntS s) (cntS s), 0) := by
  unfold splitF; rw [if_neg (by omega), if_neg (by omega)]
end Hub
end Go.Proofs.Ytmjamjadfnbkdaa
