/-
  The plain text of layer 50: descriptions of images, their encodings, blocks and stores; no program in sight.
-/
import Derived.Test.YtbbfbeacgnimpaaWirR
open Go Go.RowKit Go.Proofs
namespace Go.Proofs.Ytbbfbeacgnimpaa
namespace Hub
/-- A description. -/
structure Fw where
  ven : Int
  ver : Int
  sums : List Int
def noFw : Fw := ⟨0, 0, []⟩
def namedF (ven ver : Int) : Bool := decide (0 ≤ ven) && decide (ven ≤ 255) && decide (1 ≤ ver) && decide (ver ≤ 65535)
def sumsOk : List Int → Bool
  | [] => true
  | n :: l => decide (0 ≤ n) && decide (n ≤ 4294967295) && sumsOk l
def chkF (f : Fw) : Int := if namedF f.ven f.ver = false then 2 else if f.sums.length < 1 ∨ 64 < f.sums.length then 3 else if sumsOk f.sums = false then 2 else 0
def encFw (f : Fw) : List UInt8 := enc f.ven ++ (enc f.ver ++ encL f.sums)
/-- What is read of a description, and what the reader is then. -/
def rdFw (s : List UInt8) : Fw × Rs := (⟨(rInt ⟨s, 0⟩).1, (rInt (rInt ⟨s, 0⟩).2).1, (rInts 64 (rInt (rInt ⟨s, 0⟩).2).2).1⟩, (rInts 64 (rInt (rInt ⟨s, 0⟩).2).2).2)
def decFw (s : List UInt8) : Fw × Int :=
  if rEnd (rdFw s).2 ≠ 0 then (noFw, rEnd (rdFw s).2) else if chkF (rdFw s).1 ≠ 0 then (noFw, chkF (rdFw s).1) else ((rdFw s).1, 0)
theorem sumsOk_iff (l : List Int) : sumsOk l = true ↔ ∀ n ∈ l, 0 ≤ n ∧ n ≤ 4294967295 := by
  induction l with
  | nil => simp [sumsOk]
  | cons a l ih => simp [sumsOk, ih, and_assoc]
theorem chkF_zero {f : Fw} (h : chkF f = 0) : namedF f.ven f.ver = true ∧ 1 ≤ f.sums.length ∧ f.sums.length ≤ 64 ∧ sumsOk f.sums = true := by
  rw [chkF] at h
  split at h
  · simp at h
  · rename_i h1
    split at h
    · simp at h
    · rename_i h2
      split at h
      · simp at h
      · rename_i h3; exact ⟨by simpa using h1, by omega, by omega, by simpa using h3⟩
theorem chkF_of {f : Fw} (h1 : namedF f.ven f.ver = true) (h2 : 1 ≤ f.sums.length) (h3 : f.sums.length ≤ 64) (h4 : sumsOk f.sums = true) : chkF f = 0 := by
  rw [chkF, if_neg (by simp [h1]), if_neg (by omega), if_neg (by simp [h4])]
theorem chkF_vals (f : Fw) : chkF f = 0 ∨ chkF f = 2 ∨ chkF f = 3 := by
  rw [chkF]; split
  · exact .inr (.inl rfl)
  · split
    · exact .inr (.inr rfl)
    · split
      · exact .inr (.inl rfl)
      · exact .inl rfl
theorem namedF_bounds {a b : Int} (h : namedF a b = true) : 0 ≤ a ∧ a ≤ 255 ∧ 1 ≤ b ∧ b ≤ 65535 := by
  simp [namedF] at h; omega
theorem dec_enc (f : Fw) (h : chkF f = 0) : decFw (encFw f) = (f, 0) := by
  obtain ⟨h1, h2, h3, h4⟩ := chkF_zero h
  have hb := namedF_bounds h1
  have hi : IntB f.sums := fun x hx => by have := (sumsOk_iff _).1 h4 x hx; omega
  have e1 := rInt_enc f.ven (enc f.ver ++ encL f.sums) (by omega) (by omega)
  have e2 := rInt_enc f.ver (encL f.sums) (by omega) (by omega)
  have e3 := rInts_enc f.sums [] 64 (by omega) (by omega) hi
  rw [List.append_nil] at e3
  have e : rdFw (encFw f) = (f, ⟨[], 0⟩) := by
    simp only [rdFw, encFw, e1, e2, e3]
  rw [decFw, e]
  simp [rEnd, h]
theorem rEnd_zero {r : Rs} (h : rEnd r = 0) : r.err = 0 ∧ r.rest = [] := by
  rw [rEnd] at h
  split at h
  · contradiction
  · rename_i h1
    split at h
    · simp at h
    · rename_i h2; exact ⟨by omega, List.length_eq_zero_iff.1 (by omega)⟩
theorem enc_dec (s : List UInt8) (h : (decFw s).2 = 0) : encFw (decFw s).1 = s ∧ chkF (decFw s).1 = 0 := by
  rw [decFw] at h ⊢
  split at h
  · rename_i h1; exact absurd h h1
  · rename_i h1
    split at h
    · rename_i h2; exact absurd h h2
    · rename_i h2
      rw [if_neg h1, if_neg h2]
      have hz : chkF (rdFw s).1 = 0 := by simpa using h2
      refine ⟨?_, hz⟩
      obtain ⟨k1, k2⟩ := rEnd_zero (r := (rdFw s).2) (by simpa using h1)
      obtain ⟨a1, a2⟩ := rInts_canon 64 (rInt (rInt ⟨s, 0⟩).2).2 k1
      obtain ⟨b1, b2⟩ := rInt_canon _ a1
      obtain ⟨c1, c2⟩ := rInt_canon _ b1
      have k2' : (rInts 64 (rInt (rInt ⟨s, 0⟩).2).2).2.rest = [] := k2
      rw [k2', List.append_nil] at a2
      show enc (rInt ⟨s, 0⟩).1 ++ (enc (rInt (rInt ⟨s, 0⟩).2).1 ++ encL (rInts 64 (rInt (rInt ⟨s, 0⟩).2).2).1) = s
      rw [← a2, ← b2]; exact c2.symm
theorem dec_ints (s : List UInt8) : IntB (decFw s).1.sums ∧ (decFw s).1.sums.length ≤ 64 := by
  have h := rInts_short 64 (rInt (rInt ⟨s, 0⟩).2).2
  rw [decFw]
  split
  · exact ⟨fun x hx => by simp [noFw] at hx, by simp [noFw]⟩
  · split
    · exact ⟨fun x hx => by simp [noFw] at hx, by simp [noFw]⟩
    · exact ⟨h.1, by have := h.2; show (rInts 64 (rInt (rInt ⟨s, 0⟩).2).2).1.length ≤ 64; omega⟩

/-! ### Blocks -/
def sumB (b : ByteArray) : Int := ((crc32 (bl b)).toNat : Int)
theorem sumB_bounds (b : ByteArray) : 0 ≤ sumB b ∧ sumB b ≤ 4294967295 := by have := (crc32 (bl b)).isLt; unfold sumB; omega
/-- What a block of a valid description is: 0, or the error. -/
def verB (l : List Int) (i : Int) (b : ByteArray) : Int :=
  if i < 0 ∨ (l.length : Int) ≤ i then 2 else if b.size = 0 ∨ 64 < b.size ∨ (b.size < 64 ∧ i ≠ l.length - 1) then 3 else if sumB b ≠ l.getD i.toNat 0 then 6 else 0
def verF (f : Fw) (i : Int) (b : ByteArray) : Int := if chkF f ≠ 0 then chkF f else verB f.sums i b
def haveL (n : Nat) (h : List Bool) (b : List ByteArray) : List Bool := if h.length = n ∧ b.length = n then h else List.replicate n false
def dataL (n : Nat) (h : List Bool) (b : List ByteArray) : List ByteArray := if h.length = n ∧ b.length = n then b else List.replicate n ByteArray.empty
theorem haveL_length (n : Nat) (h : List Bool) (b : List ByteArray) : (haveL n h b).length = n := by
  rw [haveL]; split
  · rename_i x; exact x.1
  · simp
theorem dataL_length (n : Nat) (h : List Bool) (b : List ByteArray) : (dataL n h b).length = n := by
  rw [dataL]; split
  · rename_i x; exact x.2
  · simp
def putF (f : Fw) (h : List Bool) (b : List ByteArray) (i : Int) (x : ByteArray) : List Bool × List ByteArray × Int :=
  if verF f i x ≠ 0 then ([], [], verF f i x) else ((haveL f.sums.length h b).set i.toNat true, (dataL f.sums.length h b).set i.toNat x, 0)
/-- The numbers below k that are missing. -/
def missN (n : Nat) (h : List Bool) (k : Nat) : List Int := List.map (fun i : Nat => (i : Int)) ((List.range k).filter (fun i : Nat => !(decide (h.length = n) && h.getD i false)))
def missF (f : Fw) (h : List Bool) : List Int := if chkF f ≠ 0 then [] else missN f.sums.length h f.sums.length
theorem missN_succ (n : Nat) (h : List Bool) (k : Nat) : missN n h (k + 1) = if (decide (h.length = n) && h.getD k false) = true then missN n h k else missN n h k ++ [(k : Int)] := by
  simp only [missN, List.range_succ, List.filter_append, List.map_append]
  split
  · rename_i x; rw [List.filter_cons_of_neg (by simp only [x]; simp)]; simp
  · rename_i x; rw [List.filter_cons_of_pos (by simp only [Bool.not_eq_true] at x; simp only [x]; rfl)]; simp
theorem missN_length (n : Nat) (h : List Bool) (k : Nat) : (missN n h k).length ≤ k := by
  rw [missN, List.length_map]; exact Nat.le_trans (List.length_filter_le _ _) (by simp)
theorem missN_mem (n : Nat) (h : List Bool) (k : Nat) (x : Int) : x ∈ missN n h k ↔ ∃ i : Nat, i < k ∧ x = i ∧ ¬ (h.length = n ∧ h.getD i false = true) := by
  simp only [missN, List.mem_map, List.mem_filter, List.mem_range]
  constructor
  · rintro ⟨i, ⟨h1, h2⟩, rfl⟩; exact ⟨i, h1, rfl, fun ⟨a, b⟩ => by rw [decide_eq_true a, b] at h2; simp at h2⟩
  · rintro ⟨i, h1, rfl, h2⟩; exact ⟨i, ⟨h1, by by_cases a : h.length = n <;> cases b : h.getD i false <;> simp_all⟩, rfl⟩
theorem missN_int (n : Nat) (h : List Bool) (k : Nat) (hk : k ≤ 1099511627776) : IntB (missN n h k) := by
  intro x hx
  obtain ⟨i, h1, rfl, _⟩ := (missN_mem n h k x).1 hx
  omega
/-- The first error among stored blocks. -/
def firstBad (l : List Int) : Nat → List ByteArray → Int
  | _, [] => 0
  | i, b :: r => if verB l i b ≠ 0 then verB l i b else firstBad l (i + 1) r
def wholeF (f : Fw) (h : List Bool) (b : List ByteArray) : List UInt8 × Int :=
  if chkF f ≠ 0 then ([], chkF f) else if false ∈ haveL f.sums.length h b then ([], 5) else
  if firstBad f.sums 0 (dataL f.sums.length h b) ≠ 0 then ([], firstBad f.sums 0 (dataL f.sums.length h b)) else ((dataL f.sums.length h b).flatMap bl, 0)
theorem firstBad_step (l : List Int) (r : List ByteArray) (k : Nat) (h : k < r.length) : firstBad l k (r.drop k) = if verB l k r[k] ≠ 0 then verB l k r[k] else firstBad l (k + 1) (r.drop (k + 1)) := by
  rw [List.drop_eq_getElem_cons h]; rfl
theorem firstBad_all (l : List Int) (r : List ByteArray) : ∀ k, (∀ i (h : i < r.length), verB l ((k + i : Nat) : Int) r[i] = 0) → firstBad l k r = 0 := by
  induction r with
  | nil => intro k _; rfl
  | cons b r ih =>
    intro k h
    have h0 := h 0 (by simp)
    simp only [Nat.add_zero, List.getElem_cons_zero] at h0
    rw [firstBad, if_neg (by simp [h0])]
    refine ih (k + 1) fun i hi => ?_
    have := h (i + 1) (by simpa using hi)
    rw [List.getElem_cons_succ] at this
    rw [show k + 1 + i = k + (i + 1) from by omega]; exact this
/-- The blocks of an image. -/
def blk (s : ByteArray) (i : Nat) : ByteArray := s.extract (64 * i) (min (64 * (i + 1)) s.size)
def nblk (s : ByteArray) : Nat := (s.size + 63) / 64
def blksN (s : ByteArray) (k : Nat) : List ByteArray := (List.range k).map (blk s)
def blks (s : ByteArray) : List ByteArray := blksN s (nblk s)
def makeF (ven ver : Int) (s : ByteArray) : Fw × List ByteArray × Int :=
  if namedF ven ver = false then (noFw, [], 2) else if s.size = 0 then (noFw, [], 5) else if 4096 < s.size then (noFw, [], 3) else (⟨ven, ver, (blks s).map sumB⟩, blks s, 0)
theorem blksN_succ (s : ByteArray) (k : Nat) : blksN s (k + 1) = blksN s k ++ [blk s k] := by simp [blksN, List.range_succ]
theorem blksN_length (s : ByteArray) (k : Nat) : (blksN s k).length = k := by simp [blksN]
theorem blks_length (s : ByteArray) : (blks s).length = nblk s := blksN_length s _
theorem blks_get (s : ByteArray) (i : Nat) (h : i < (blks s).length) : (blks s)[i] = blk s i := by simp [blks, blksN]
theorem blk_size (s : ByteArray) (i : Nat) : (blk s i).size = min (64 * (i + 1)) s.size - 64 * i := by
  rw [blk, ByteArray.size_extract]; omega
theorem blk_flat (s : ByteArray) (k : Nat) : (blksN s k).flatMap bl = (bl s).take (64 * k) := by
  induction k with
  | zero => simp [blksN]
  | succ k ih =>
    rw [blksN_succ, List.flatMap_append, ih, List.flatMap_cons, List.flatMap_nil, List.append_nil, blk, bl_extract, Nat.mul_add, Nat.mul_one, List.take_add]
    congr 1
    by_cases h : 64 * k + 64 ≤ s.size
    · rw [Nat.min_eq_left h, Nat.add_sub_cancel_left]
    · rw [List.take_of_length_le (by rw [List.length_drop, size_bl]; omega), List.take_of_length_le (by rw [List.length_drop, size_bl]; omega)]
theorem blks_flat (s : ByteArray) : (blks s).flatMap bl = bl s := by
  rw [blks, blk_flat, List.take_of_length_le (by rw [size_bl, nblk]; omega)]
theorem verB_blk (s : ByteArray) (i : Nat) (hi : i < nblk s) : verB ((blks s).map sumB) i (blk s i) = 0 := by
  have hs := blk_size s i
  have hl : ((blks s).map sumB).length = nblk s := by rw [List.length_map, blks_length]
  have hn : nblk s = (s.size + 63) / 64 := rfl
  rw [verB, hl, if_neg (by omega), if_neg (by omega)]
  have hg : ((blks s).map sumB).getD (i : Int).toNat 0 = sumB (blk s i) := by
    rw [Int.toNat_natCast, List.getD_eq_getElem?_getD, List.getElem?_map, List.getElem?_eq_getElem (by rw [blks_length]; exact hi), blks_get]; rfl
  rw [hg, if_neg (by simp)]
theorem sumsOk_blks (s : ByteArray) (k : Nat) : sumsOk ((blksN s k).map sumB) = true := by
  rw [sumsOk_iff]
  intro n hn
  obtain ⟨b, _, rfl⟩ := List.mem_map.1 hn
  exact sumB_bounds b
theorem makeF_ok (ven ver : Int) (s : ByteArray) (hn : namedF ven ver = true) (h0 : s.size ≠ 0) (h1 : s.size ≤ 4096) :
    makeF ven ver s = (⟨ven, ver, (blks s).map sumB⟩, blks s, 0) ∧ chkF ⟨ven, ver, (blks s).map sumB⟩ = 0 := by
  refine ⟨by rw [makeF, if_neg (by simp [hn]), if_neg h0, if_neg (by omega)], chkF_of hn ?_ ?_ (sumsOk_blks s _)⟩
  · simp only [List.length_map, blks_length, nblk]; omega
  · simp only [List.length_map, blks_length, nblk]; omega
end Hub
end Go.Proofs.Ytbbfbeacgnimpaa
