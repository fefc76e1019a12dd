/-
  What is read without an error is written as the same bytes: the plain law.
-/
import Derived.Test.YtbbfbeacgnimpaaWirQ
open Go Go.RowKit Go.Proofs
namespace Go.Proofs.Ytbbfbeacgnimpaa
namespace Hub
theorem rInt_canon (r : Rs) (h : (rInt r).2.err = 0) : r.err = 0 ∧ r.rest = enc (rInt r).1 ++ (rInt r).2.rest := by
  by_cases he : r.err = 0
  · refine ⟨he, ?_⟩
    rw [rInt, if_neg (by simpa using he)] at h ⊢
    by_cases hv : (vi 0 0 r.rest).1 = 0
    · rw [if_neg (by simpa using hv)]
      exact vi_canon0 _ hv
    · rw [if_pos hv] at h
      exact absurd h hv
  · exact absurd h (rInt_err r he)
theorem rCount_canon (m : Int) (r : Rs) (h : (rCount m r).2.err = 0) : r.err = 0 ∧ r.rest = enc (rCount m r).1 ++ (rCount m r).2.rest := by
  rw [rCount] at h ⊢
  by_cases h1 : (rInt r).2.err = 0
  · rw [if_neg (by simpa using h1)] at h ⊢
    by_cases h2 : (rInt r).1 < 0
    · rw [if_pos h2] at h; simp at h
    · rw [if_neg h2] at h ⊢
      by_cases h3 : max m 0 < (rInt r).1
      · rw [if_pos h3] at h; simp at h
      · rw [if_neg h3]
        exact rInt_canon r h1
  · rw [if_pos h1] at h; exact absurd h h1
theorem rText_canon (m : Int) (r : Rs) (h : (rText m r).2.err = 0) : r.err = 0 ∧ r.rest = encT (rText m r).1 ++ (rText m r).2.rest := by
  have hn := rCount_nonneg m r
  rw [rText] at h ⊢
  by_cases h1 : (rCount m r).2.err = 0
  · obtain ⟨e1, e2⟩ := rCount_canon m r h1
    rw [if_neg (by simpa using h1)] at h ⊢
    by_cases h2 : ((rCount m r).2.rest.length : Int) < (rCount m r).1
    · rw [if_pos h2] at h; simp at h
    · rw [if_neg h2]
      refine ⟨e1, ?_⟩
      have hl : (((rCount m r).2.rest.take (rCount m r).1.toNat).length : Int) = (rCount m r).1 := by rw [List.length_take]; omega
      simp only [encT]
      rw [hl, List.append_assoc, List.take_append_drop]; exact e2
  · rw [if_pos h1] at h; exact absurd h h1
theorem rBool_canon (r : Rs) (h : (rBool r).2.err = 0) : r.err = 0 ∧ r.rest = encB (rBool r).1 ++ (rBool r).2.rest := by
  obtain ⟨rest, err⟩ := r
  rw [rBool] at h ⊢
  by_cases he : err = 0
  · refine ⟨he, ?_⟩
    rw [if_neg (by simpa using he)] at h ⊢
    cases rest with
    | nil => simp at h
    | cons c l =>
      simp only at h ⊢
      by_cases hc : 1 < c.toNat
      · rw [if_pos hc] at h; simp at h
      · rw [if_neg hc]
        simp only [encB]
        by_cases h1 : c.toNat = 1
        · rw [decide_eq_true h1, if_pos rfl]
          have : c = 1 := UInt8.toNat_inj.1 h1
          rw [this]; rfl
        · rw [decide_eq_false h1, if_neg (by simp)]
          have : c = 0 := UInt8.toNat_inj.1 (by rw [show (0 : UInt8).toNat = 0 from rfl]; omega)
          rw [this]; rfl
  · rw [if_pos he] at h; exact absurd h he
theorem rMany_canon (n : Nat) : ∀ r, (rMany n r).2.err = 0 → (0 < n → r.err = 0) ∧ r.rest = (rMany n r).1.flatMap enc ++ (rMany n r).2.rest := by
  induction n with
  | zero => intro r _; exact ⟨fun h => absurd h (by omega), rfl⟩
  | succ n ih =>
    intro r h
    have h' : (rMany n (rInt r).2).2.err = 0 := h
    have hr : (rInt r).2.err = 0 := Classical.byContradiction fun hb => by rw [rMany_bad n _ hb] at h'; exact hb h'
    obtain ⟨e1, e2⟩ := rInt_canon r hr
    obtain ⟨_, e3⟩ := ih (rInt r).2 h'
    refine ⟨fun _ => e1, ?_⟩
    show r.rest = ((rInt r).1 :: (rMany n (rInt r).2).1).flatMap enc ++ (rMany n (rInt r).2).2.rest
    rw [List.flatMap_cons, List.append_assoc, ← e3]; exact e2
theorem rInts_canon (m : Int) (r : Rs) (h : (rInts m r).2.err = 0) : r.err = 0 ∧ r.rest = encL (rInts m r).1 ++ (rInts m r).2.rest := by
  have hn := rCount_nonneg m r
  rw [rInts] at h ⊢
  by_cases h1 : (rMany (rCount m r).1.toNat (rCount m r).2).2.err = 0
  · rw [if_neg (by simpa using h1)]
    have hc : (rCount m r).2.err = 0 := Classical.byContradiction fun hb => by rw [rMany_bad _ _ hb] at h1; exact hb h1
    obtain ⟨e1, e2⟩ := rCount_canon m r hc
    obtain ⟨_, e3⟩ := rMany_canon _ _ h1
    refine ⟨e1, ?_⟩
    have hl : ((rMany (rCount m r).1.toNat (rCount m r).2).1.length : Int) = (rCount m r).1 := by rw [rMany_length]; omega
    rw [encL, hl, List.append_assoc, ← e3]; exact e2
  · rw [if_pos h1] at h; exact absurd h h1
theorem rMany_int (n : Nat) : ∀ r, IntB (rMany n r).1 := by
  induction n with
  | zero => intro r x hx; simp [rMany] at hx
  | succ n ih =>
    intro r x hx
    have hx' : x ∈ (rInt r).1 :: (rMany n (rInt r).2).1 := hx
    rcases List.mem_cons.1 hx' with rfl | h
    · exact rInt_bounds r
    · exact ih _ x h
theorem rInts_short (m : Int) (r : Rs) : IntB (rInts m r).1 ∧ ((rInts m r).1.length : Int) ≤ max m 0 := by
  have hn := rCount_nonneg m r
  have hle := rCount_le m r
  rw [rInts]
  split
  · exact ⟨fun x hx => by simp at hx, by simp; omega⟩
  · exact ⟨rMany_int _ _, by rw [rMany_length]; omega⟩
theorem rText_short (m : Int) (r : Rs) : ((rText m r).1.length : Int) ≤ max m 0 := by
  have hn := rCount_nonneg m r
  have hle := rCount_le m r
  rw [rText]
  split
  · simp; omega
  · split
    · simp; omega
    · rw [List.length_take]; omega
end Hub
end Go.Proofs.Ytbbfbeacgnimpaa
