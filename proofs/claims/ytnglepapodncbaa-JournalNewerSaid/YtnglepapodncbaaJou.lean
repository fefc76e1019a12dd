/-
  The plain text of layer 52: journals, their headers and records, what is read of them; no program in sight.
-/
import Derived.Test.YtnglepapodncbaaWirR
open Go Go.RowKit Go.Proofs
namespace Go.Proofs.Ytnglepapodncbaa
namespace Hub
def sumJ (p : List UInt8) (n : Nat) : List UInt8 := sum4 (crc32 (p ++ enc n)).toNat
def recJ (p : List UInt8) (n : Nat) : List UInt8 := encT p ++ sumJ p n
def magicJ : List UInt8 := [72, 74, 49]
def headJ (g : Int) : List UInt8 × Int := if g < 1 ∨ 1099511627776 < g then ([], 2) else (magicJ ++ enc g, 0)
/-- The generation, the offset after the header, the error. -/
def topJ (j : List UInt8) : Int × Int × Int :=
  if 1048576 < j.length then (0, 0, 3) else if j.take 3 ≠ magicJ.take j.length then (0, 0, 4) else if j.length < 3 then (0, 0, 5) else
  if (rInt ⟨j.drop 3, 0⟩).2.err ≠ 0 then (0, 0, (rInt ⟨j.drop 3, 0⟩).2.err) else
  if (rInt ⟨j.drop 3, 0⟩).1 < 1 ∨ 1099511627776 < (rInt ⟨j.drop 3, 0⟩).1 then (0, 0, 4) else
  ((rInt ⟨j.drop 3, 0⟩).1, (j.length : Int) - (rInt ⟨j.drop 3, 0⟩).2.rest.length, 0)
/-- The payload of the record with the number n at the beginning of s, its length, the error. -/
def oneJ (s : List UInt8) (n : Nat) : List UInt8 × Int × Int :=
  if (rText 262144 ⟨s, 0⟩).2.err ≠ 0 then ([], 0, (rText 262144 ⟨s, 0⟩).2.err) else
  if (rText 262144 ⟨s, 0⟩).2.rest.length < 4 then ([], 0, 5) else
  if (rText 262144 ⟨s, 0⟩).2.rest.take 4 ≠ sumJ (rText 262144 ⟨s, 0⟩).1 n then ([], 0, 6) else
  ((rText 262144 ⟨s, 0⟩).1, (s.length : Int) - (rText 262144 ⟨s, 0⟩).2.rest.length + 4, 0)
theorem sum4_length (n : Nat) : (sum4 n).length = 4 := rfl
theorem encT_pos (s : List UInt8) : 0 < (encT s).length := by
  have := enc_pos s.length
  rw [encT, List.length_append]; omega
theorem rInt_errs (r : Rs) (h : r.err = 0) : (rInt r).2.err = 0 ∨ (rInt r).2.err = 4 ∨ (rInt r).2.err = 5 := by
  rw [rInt, if_neg (by simpa using h)]
  split
  · exact vi_err _ _ _
  · exact .inl rfl
theorem rText_rest (m : Int) (r : Rs) (h : (rText m r).2.err = 0) : (rText m r).2.rest.length + (encT (rText m r).1).length = r.rest.length := by
  have h2 := congrArg List.length (rText_canon m r h).2
  rw [List.length_append] at h2; omega
/-- A record that is read: the string begins with it, and it is not empty. -/
theorem oneJ_rec {s : List UInt8} {n : Nat} (h : (oneJ s n).2.2 = 0) : ∃ t, s = recJ (oneJ s n).1 n ++ t ∧ (oneJ s n).2.1 = ((recJ (oneJ s n).1 n).length : Int) ∧ (oneJ s n).1.length ≤ 262144 := by
  have hsh := rText_short 262144 ⟨s, 0⟩
  rw [oneJ] at h ⊢
  split at h
  · rename_i h1; exact absurd h h1
  · rename_i h1
    split at h
    · simp at h
    · rename_i h2
      split at h
      · simp at h
      · rename_i h3
        have h3' := Classical.not_not.1 h3
        rw [if_neg h1, if_neg h2, if_neg h3]
        have hc := (rText_canon 262144 ⟨s, 0⟩ (by simpa using h1)).2
        have hr := rText_rest 262144 ⟨s, 0⟩ (by simpa using h1)
        simp only at hc hr ⊢
        refine ⟨(rText 262144 ⟨s, 0⟩).2.rest.drop 4, ?_, ?_, by omega⟩
        · rw [recJ, ← h3', List.append_assoc, List.take_append_drop]; exact hc
        · rw [recJ, List.length_append, sumJ, sum4_length]; omega
theorem recJ_length (p : List UInt8) (n : Nat) : (recJ p n).length = (encT p).length + 4 := by rw [recJ, List.length_append, sumJ, sum4_length]
theorem oneJ_size {s : List UInt8} {n : Nat} (h : (oneJ s n).2.2 = 0) : ∃ k : Nat, (oneJ s n).2.1 = k ∧ 5 ≤ k ∧ k ≤ s.length := by
  obtain ⟨t, h1, h2, _⟩ := oneJ_rec h
  refine ⟨_, h2, ?_, ?_⟩
  · have := encT_pos (oneJ s n).1
    rw [recJ_length]; omega
  · have := congrArg List.length h1
    rw [List.length_append] at this; omega
/-- A record that was written is read. -/
theorem oneJ_read (p t : List UInt8) (n : Nat) (hp : p.length ≤ 262144) : oneJ (recJ p n ++ t) n = (p, ((recJ p n).length : Int), 0) := by
  have e := rText_enc p (sumJ p n ++ t) 262144 (by omega) (by omega)
  rw [← List.append_assoc, ← recJ] at e
  have hl : (sumJ p n).length = 4 := rfl
  rw [oneJ, e, if_neg (by simp), if_neg (by simp only [List.length_append]; omega), if_neg (by simp only [← hl, List.take_left']; simp)]
  simp only [Prod.mk.injEq, true_and, and_true, List.length_append, recJ_length, hl]; omega
/-- The records from the n-th on: the payloads, where they end, the error. -/
def scanN (s : List UInt8) (n : Nat) : List (List UInt8) × Int × Int :=
  if s.length = 0 then ([], 0, 0) else
  if h2 : (oneJ s n).2.2 ≠ 0 then ([], 0, (oneJ s n).2.2) else
  ((oneJ s n).1 :: (scanN (s.drop (oneJ s n).2.1.toNat) (n + 1)).1, (oneJ s n).2.1 + (scanN (s.drop (oneJ s n).2.1.toNat) (n + 1)).2.1, (scanN (s.drop (oneJ s n).2.1.toNat) (n + 1)).2.2)
termination_by s.length
decreasing_by
  all_goals
    obtain ⟨k, h3, h4, h5⟩ := oneJ_size (Classical.not_not.1 h2)
    rw [h3, Int.toNat_natCast, List.length_drop]; omega
def scanJ (j : List UInt8) : Int × List (List UInt8) × Int × Int :=
  if (topJ j).2.2 ≠ 0 then (0, [], 0, (topJ j).2.2) else
  ((topJ j).1, (scanN (j.drop (topJ j).2.1.toNat) 0).1, (topJ j).2.1 + (scanN (j.drop (topJ j).2.1.toNat) 0).2.1, (scanN (j.drop (topJ j).2.1.toNat) 0).2.2)
theorem scanN_nil (n : Nat) : scanN [] n = ([], 0, 0) := by rw [scanN]; simp
theorem scanN_bad {s : List UInt8} {n : Nat} (h : s.length ≠ 0) (h2 : (oneJ s n).2.2 ≠ 0) : scanN s n = ([], 0, (oneJ s n).2.2) := by rw [scanN, if_neg h, dif_pos h2]
theorem scanN_good {s : List UInt8} {n : Nat} (h : s.length ≠ 0) (h2 : (oneJ s n).2.2 = 0) : scanN s n =
    ((oneJ s n).1 :: (scanN (s.drop (oneJ s n).2.1.toNat) (n + 1)).1, (oneJ s n).2.1 + (scanN (s.drop (oneJ s n).2.1.toNat) (n + 1)).2.1, (scanN (s.drop (oneJ s n).2.1.toNat) (n + 1)).2.2) := by
  rw [scanN, if_neg h, dif_neg (by simp [h2])]
/-- The records l from the number n on, as bytes. -/
def recsJ : List (List UInt8) → Nat → List UInt8
  | [], _ => []
  | p :: l, n => recJ p n ++ recsJ l (n + 1)
def shortJ (l : List (List UInt8)) : Prop := ∀ p ∈ l, p.length ≤ 262144
theorem recsJ_append (l m : List (List UInt8)) : ∀ n, recsJ (l ++ m) n = recsJ l n ++ recsJ m (n + l.length) := by
  induction l with
  | nil => intro n; rfl
  | cons p l ih => intro n; show recJ p n ++ recsJ (l ++ m) (n + 1) = recJ p n ++ recsJ l (n + 1) ++ _; rw [ih, List.append_assoc, List.length_cons, show n + 1 + l.length = n + (l.length + 1) from by omega]
/-- What is read is what stands there. -/
theorem scanN_recs (k : Nat) : ∀ s n, s.length ≤ k → ∃ t, s = recsJ (scanN s n).1 n ++ t ∧ (scanN s n).2.1 = ((recsJ (scanN s n).1 n).length : Int) ∧ shortJ (scanN s n).1 ∧ ((scanN s n).2.2 = 0 ↔ t = []) := by
  induction k with
  | zero =>
    intro s n h
    obtain rfl : s = [] := List.length_eq_zero_iff.1 (by omega)
    rw [scanN_nil]
    exact ⟨[], rfl, rfl, fun p hp => by simp at hp, by simp⟩
  | succ k ih =>
    intro s n h
    by_cases h0 : s.length = 0
    · obtain rfl := List.length_eq_zero_iff.1 h0
      rw [scanN_nil]
      exact ⟨[], rfl, rfl, fun p hp => by simp at hp, by simp⟩
    · by_cases h2 : (oneJ s n).2.2 = 0
      · obtain ⟨t, e1, e2, e3⟩ := oneJ_rec h2
        obtain ⟨m, f1, f2, f3⟩ := oneJ_size h2
        have hm : m = (recJ (oneJ s n).1 n).length := by omega
        have key : ∀ R : List UInt8, s = R ++ t → s.drop R.length = t := fun R h => by rw [h, List.drop_left' rfl]
        have hd : s.drop (oneJ s n).2.1.toNat = t := by
          rw [f1, Int.toNat_natCast, hm]
          exact key _ e1
        have hl := congrArg List.length e1
        rw [List.length_append] at hl
        rw [scanN_good h0 h2, hd]
        generalize (oneJ s n).1 = p at *
        obtain ⟨u, g1, g2, g3, g4⟩ := ih t (n + 1) (by omega)
        refine ⟨u, ?_, ?_, ?_, g4⟩
        · show s = recJ p n ++ recsJ (scanN t (n + 1)).1 (n + 1) ++ u
          rw [List.append_assoc, ← g1]; exact e1
        · show (oneJ s n).2.1 + (scanN t (n + 1)).2.1 = ((recJ p n ++ recsJ (scanN t (n + 1)).1 (n + 1)).length : Int)
          rw [List.length_append, g2, e2]; omega
        · intro x hx
          rcases List.mem_cons.1 hx with rfl | hx
          · exact e3
          · exact g3 x hx
      · rw [scanN_bad h0 h2]
        refine ⟨s, rfl, rfl, fun p hp => by simp at hp, ⟨fun h => absurd h h2, fun h => by subst h; simp at h0⟩⟩
/-- What was written is read, whatever follows. -/
theorem scanN_read (l : List (List UInt8)) : ∀ (t : List UInt8) (n : Nat), shortJ l → scanN (recsJ l n ++ t) n = (l ++ (scanN t (n + l.length)).1, ((recsJ l n).length : Int) + (scanN t (n + l.length)).2.1, (scanN t (n + l.length)).2.2) := by
  induction l with
  | nil => intro t n _; simp [recsJ]
  | cons p l ih =>
    intro t n h
    have e := oneJ_read p (recsJ l (n + 1) ++ t) n (h p (by simp))
    have hs : recsJ (p :: l) n ++ t = recJ p n ++ (recsJ l (n + 1) ++ t) := by rw [recsJ, List.append_assoc]
    have hr := recJ_length p n
    rw [hs, scanN_good (by rw [List.length_append]; omega) (by rw [e]), e]
    simp only [Int.toNat_natCast, List.drop_left']
    rw [ih t (n + 1) (fun x hx => h x (by simp [hx])), List.length_cons, show n + 1 + l.length = n + (l.length + 1) from by omega]
    simp only [recsJ, List.length_append, Prod.mk.injEq, List.cons_append, true_and, and_true]
    omega
end Hub
end Go.Proofs.Ytnglepapodncbaa
