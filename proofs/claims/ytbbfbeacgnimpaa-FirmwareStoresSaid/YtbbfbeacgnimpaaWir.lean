/-
  The plain text of layer 2: the encodings of numbers, strings and lists, and what a reader does; no program in sight.
-/
import Derived.Test.YtbbfbeacgnimpaaLib
namespace Go.Proofs.Ytbbfbeacgnimpaa
namespace Hub

/-- The zigzag form of a number, and back. -/
def zig (n : Int) : Nat := if 0 ≤ n then (2 * n).toNat else (-2 * n - 1).toNat
def unzig (z : Nat) : Int := if z % 2 = 1 then -1 - (z / 2 : Nat) else (z / 2 : Nat)
theorem unzig_zig (n : Int) : unzig (zig n) = n := by
  unfold unzig zig; split <;> split <;> omega
theorem zig_unzig (z : Nat) : zig (unzig z) = z := by
  unfold unzig zig; split <;> split <;> omega
theorem zig_lt (n : Int) (h0 : -9223372036854775808 ≤ n) (h1 : n ≤ 9223372036854775807) : zig n < 18446744073709551616 := by
  unfold zig; split <;> omega
theorem unzig_bounds (z : Nat) (h : z < 18446744073709551616) : -9223372036854775808 ≤ unzig z ∧ unzig z ≤ 9223372036854775807 := by
  unfold unzig; split <;> omega

/-- A number in groups of seven bits, the least significant one first. -/
def grp (z : Nat) : List UInt8 := if h : z < 128 then [UInt8.ofNat z] else UInt8.ofNat (z % 128 + 128) :: grp (z / 128)
termination_by z
decreasing_by omega
theorem grp_small (z : Nat) (h : z < 128) : grp z = [UInt8.ofNat z] := by rw [grp, dif_pos h]
theorem grp_big (z : Nat) (h : ¬ z < 128) : grp z = UInt8.ofNat (z % 128 + 128) :: grp (z / 128) := by rw [grp, dif_neg h]
theorem grp_length (k : Nat) : ∀ z, z < 128 ^ (k + 1) → (grp z).length ≤ k + 1 := by
  induction k with
  | zero => intro z h; rw [grp_small z (by omega)]; simp
  | succ k ih =>
    intro z h
    by_cases hz : z < 128
    · rw [grp_small z hz]; simp
    · rw [grp_big z hz, List.length_cons]
      have := ih (z / 128) (by rw [Nat.pow_succ] at h; omega)
      omega
theorem grp_pos (z : Nat) : 0 < (grp z).length := by
  by_cases hz : z < 128
  · rw [grp_small z hz]; simp
  · rw [grp_big z hz]; simp

def enc (n : Int) : List UInt8 := grp (zig n)
theorem enc_length (n : Int) (h0 : -9223372036854775808 ≤ n) (h1 : n ≤ 9223372036854775807) : (enc n).length ≤ 10 :=
  grp_length 9 _ (by have := zig_lt n h0 h1; omega)
theorem enc_pos (n : Int) : 0 < (enc n).length := grp_pos _
def encT (s : List UInt8) : List UInt8 := enc s.length ++ s
def encB (b : Bool) : List UInt8 := if b then [1] else [0]
def encL (l : List Int) : List UInt8 := enc l.length ++ l.flatMap enc

/-- The number at the beginning of a string, read from group i on, with the value z so far: the error's number, the value, what is left. -/
def vi : Nat → Nat → List UInt8 → Int × Nat × List UInt8
  | _, _, [] => (5, 0, [])
  | i, z, c :: l =>
    if (0 < i ∧ c.toNat = 0) ∨ (i = 9 ∧ 1 < c.toNat) then (4, 0, l) else
    if c.toNat < 128 then (0, z + c.toNat * 128 ^ i, l) else vi (i + 1) (z + (c.toNat - 128) * 128 ^ i) l

structure Rs where
  rest : List UInt8
  err : Int
/-- What the reading methods return and leave. -/
def rInt (r : Rs) : Int × Rs :=
  if r.err ≠ 0 then (0, r) else
  if (vi 0 0 r.rest).1 ≠ 0 then (0, { r with err := (vi 0 0 r.rest).1 }) else (unzig (vi 0 0 r.rest).2.1, { rest := (vi 0 0 r.rest).2.2, err := 0 })
def rCount (most : Int) (r : Rs) : Int × Rs :=
  if (rInt r).2.err ≠ 0 then (0, (rInt r).2) else
  if (rInt r).1 < 0 then (0, { (rInt r).2 with err := 4 }) else
  if max most 0 < (rInt r).1 then (0, { (rInt r).2 with err := 3 }) else rInt r
def rText (most : Int) (r : Rs) : List UInt8 × Rs :=
  if (rCount most r).2.err ≠ 0 then ([], (rCount most r).2) else
  if ((rCount most r).2.rest.length : Int) < (rCount most r).1 then ([], { (rCount most r).2 with err := 5 }) else
  ((rCount most r).2.rest.take (rCount most r).1.toNat, { rest := (rCount most r).2.rest.drop (rCount most r).1.toNat, err := 0 })
def rBool (r : Rs) : Bool × Rs :=
  if r.err ≠ 0 then (false, r) else
  match r.rest with
  | [] => (false, { r with err := 5 })
  | c :: l => if 1 < c.toNat then (false, { r with err := 4 }) else (decide (c.toNat = 1), { rest := l, err := 0 })
def rMany : Nat → Rs → List Int × Rs
  | 0, r => ([], r)
  | n + 1, r => ((rInt r).1 :: (rMany n (rInt r).2).1, (rMany n (rInt r).2).2)
def rInts (most : Int) (r : Rs) : List Int × Rs :=
  if (rMany (rCount most r).1.toNat (rCount most r).2).2.err ≠ 0 then ([], (rMany (rCount most r).1.toNat (rCount most r).2).2) else rMany (rCount most r).1.toNat (rCount most r).2
def rLeft (r : Rs) : Int := if r.err ≠ 0 then 0 else r.rest.length
def rEnd (r : Rs) : Int := if r.err ≠ 0 then r.err else if 0 < r.rest.length then 23 else 0
def rFail (e : Int) (r : Rs) : Rs := if r.err = 0 then { r with err := e } else r

/-! ### What is left never grows, and the errors -/
theorem vi_nil (i z : Nat) : vi i z [] = (5, 0, []) := by unfold vi; rfl
theorem vi_cons (i z : Nat) (c : UInt8) (l : List UInt8) : vi i z (c :: l) = if (0 < i ∧ c.toNat = 0) ∨ (i = 9 ∧ 1 < c.toNat) then (4, 0, l) else
    if c.toNat < 128 then (0, z + c.toNat * 128 ^ i, l) else vi (i + 1) (z + (c.toNat - 128) * 128 ^ i) l := by
  rw [vi]
theorem vi_rest (l : List UInt8) : ∀ i z, ∃ k, (vi i z l).2.2 = l.drop k ∧ k ≤ l.length ∧ ((vi i z l).1 = 0 → 0 < k) := by
  induction l with
  | nil => intro i z; rw [vi_nil]; exact ⟨0, rfl, Nat.le_refl _, fun h => by simp at h⟩
  | cons c l ih =>
    intro i z
    rw [vi_cons]
    split
    · exact ⟨1, rfl, by simp, fun h => by simp at h⟩
    · split
      · exact ⟨1, rfl, by simp, fun _ => by omega⟩
      · obtain ⟨k, h1, h2, h3⟩ := ih (i + 1) (z + (c.toNat - 128) * 128 ^ i)
        exact ⟨k + 1, by rw [h1]; rfl, by simp; omega, fun _ => by omega⟩
theorem vi_err (l : List UInt8) : ∀ i z, (vi i z l).1 = 0 ∨ (vi i z l).1 = 4 ∨ (vi i z l).1 = 5 := by
  induction l with
  | nil => intro i z; rw [vi_nil]; exact .inr (.inr rfl)
  | cons c l ih =>
    intro i z
    rw [vi_cons]
    split
    · exact .inr (.inl rfl)
    · split
      · exact .inl rfl
      · exact ih _ _
theorem vi_lt (l : List UInt8) : ∀ i z, i ≤ 9 → z < 128 ^ i → (vi i z l).2.1 < 18446744073709551616 := by
  induction l with
  | nil => intro i z _ _; rw [vi_nil]; decide
  | cons c l ih =>
    intro i z hi hz
    rw [vi_cons]
    have hc := c.toNat_lt
    split
    · show 0 < _; decide
    · rename_i hn
      split
      · rename_i h7
        show z + c.toNat * 128 ^ i < _
        by_cases h9 : i = 9
        · subst h9
          have : c.toNat ≤ 1 := by omega
          have : c.toNat * 128 ^ 9 ≤ 1 * 128 ^ 9 := Nat.mul_le_mul_right _ this
          omega
        · have h1 : c.toNat * 128 ^ i ≤ 127 * 128 ^ i := Nat.mul_le_mul_right _ (by omega)
          have h2 : 128 ^ (i + 1) ≤ 128 ^ 9 := Nat.pow_le_pow_right (by decide) (by omega)
          rw [Nat.pow_succ] at h2
          omega
      · have h9 : i ≠ 9 := by omega
        refine ih (i + 1) _ (by omega) ?_
        have h1 : (c.toNat - 128) * 128 ^ i ≤ 127 * 128 ^ i := Nat.mul_le_mul_right _ (by omega)
        rw [Nat.pow_succ]
        omega
/-- A number that was written is read back, whatever stands behind it. -/
theorem vi_grp (m : List UInt8) (k : Nat) : ∀ (i z y : Nat), i + k = 9 → y < 2 * 128 ^ k → (0 < i → 0 < y) → vi i z (grp y ++ m) = (0, z + y * 128 ^ i, m) := by
  induction k with
  | zero =>
    intro i z y hi hy h0
    have hi9 : i = 9 := by omega
    subst hi9
    have h0' := h0 (by decide)
    obtain rfl : y = 1 := by omega
    have e1 : (UInt8.ofNat 1).toNat = 1 := rfl
    rw [grp_small 1 (by decide), List.singleton_append, vi_cons, e1, if_neg (by omega), if_pos (by omega)]
  | succ k ih =>
    intro i z y hi hy h0
    by_cases hs : y < 128
    · rw [grp_small y hs, List.singleton_append, vi_cons]
      have e : (UInt8.ofNat y).toNat = y := by simp; omega
      rw [e, if_neg (by omega), if_pos hs]
    · rw [grp_big y hs, List.cons_append, vi_cons]
      have e : (UInt8.ofNat (y % 128 + 128)).toNat = y % 128 + 128 := by simp; omega
      rw [e, if_neg (by omega), if_neg (by omega), ih (i + 1) _ (y / 128) (by omega) (by rw [Nat.pow_succ] at hy; omega) (by omega)]
      have : z + (y % 128 + 128 - 128) * 128 ^ i + y / 128 * 128 ^ (i + 1) = z + y * 128 ^ i := by
        rw [Nat.pow_succ]
        generalize 128 ^ i = p
        have h1 : y = y % 128 + y / 128 * 128 := by omega
        have h2 : y * p = y % 128 * p + y / 128 * (p * 128) := by
          conv => lhs; rw [h1]
          rw [Nat.add_mul, Nat.mul_assoc (y / 128) 128 p, Nat.mul_comm 128 p]
        rw [Nat.add_sub_cancel, h2, Nat.add_assoc]
      rw [this]
theorem vi_enc (n : Int) (m : List UInt8) (h0 : -9223372036854775808 ≤ n) (h1 : n ≤ 9223372036854775807) : vi 0 0 (enc n ++ m) = (0, zig n, m) := by
  rw [enc, vi_grp m 9 0 0 (zig n) rfl (by have := zig_lt n h0 h1; omega) (by omega)]; simp
/-- What was read is written as the same bytes. -/
theorem vi_canon (l : List UInt8) : ∀ i z, i ≤ 9 → z < 128 ^ i → (vi i z l).1 = 0 → ∃ y, (vi i z l).2.1 = z + y * 128 ^ i ∧ (0 < i → 0 < y) ∧ l = grp y ++ (vi i z l).2.2 := by
  induction l with
  | nil => intro i z _ _ h; rw [vi_nil] at h; simp at h
  | cons c l ih =>
    intro i z hi hz
    rw [vi_cons]
    have hc := c.toNat_lt
    split
    · intro h; simp at h
    · rename_i hn
      split
      · rename_i h7
        intro _
        exact ⟨c.toNat, rfl, fun h => by omega, by rw [grp_small _ h7]; simp⟩
      · intro h
        have h9 : i ≠ 9 := by omega
        have hz' : z + (c.toNat - 128) * 128 ^ i < 128 ^ (i + 1) := by
          have h1 : (c.toNat - 128) * 128 ^ i ≤ 127 * 128 ^ i := Nat.mul_le_mul_right _ (by omega)
          rw [Nat.pow_succ]; omega
        obtain ⟨y, h1, h2, h3⟩ := ih (i + 1) _ (by omega) hz' h
        refine ⟨(c.toNat - 128) + 128 * y, ?_, fun _ => by have := h2 (by omega); omega, ?_⟩
        · rw [h1, Nat.pow_succ, Nat.add_mul, Nat.mul_comm (128 ^ i) 128, ← Nat.mul_assoc, Nat.mul_comm 128 y]; omega
        · have := h2 (by omega)
          rw [grp_big _ (by omega)]
          have e1 : ((c.toNat - 128) + 128 * y) % 128 + 128 = c.toNat := by omega
          have e2 : ((c.toNat - 128) + 128 * y) / 128 = y := by omega
          rw [e1, e2, List.cons_append, ← h3]; simp
theorem vi_canon0 (l : List UInt8) (h : (vi 0 0 l).1 = 0) : l = enc (unzig (vi 0 0 l).2.1) ++ (vi 0 0 l).2.2 := by
  obtain ⟨y, h1, _, h3⟩ := vi_canon l 0 0 (by decide) (by decide) h
  have : (vi 0 0 l).2.1 = y := by rw [h1]; simp
  rw [enc, zig_unzig, this]; exact h3
theorem rInt_bad (r : Rs) (h : r.err ≠ 0) : rInt r = (0, r) := by rw [rInt, if_pos h]
theorem rCount_nonneg (m : Int) (r : Rs) : 0 ≤ (rCount m r).1 := by
  rw [rCount]
  split
  · exact Int.le_refl _
  · split
    · exact Int.le_refl _
    · split
      · exact Int.le_refl _
      · omega
theorem rMany_succ (n : Nat) : ∀ r, rMany (n + 1) r = ((rMany n r).1 ++ [(rInt (rMany n r).2).1], (rInt (rMany n r).2).2) := by
  induction n with
  | zero => intro r; rfl
  | succ n ih =>
    intro r
    have e : rMany (n + 1 + 1) r = ((rInt r).1 :: (rMany (n + 1) (rInt r).2).1, (rMany (n + 1) (rInt r).2).2) := rfl
    have e2 : rMany (n + 1) r = ((rInt r).1 :: (rMany n (rInt r).2).1, (rMany n (rInt r).2).2) := rfl
    rw [e, ih, e2]; rfl
theorem rMany_length (n : Nat) : ∀ r, (rMany n r).1.length = n := by
  induction n with
  | zero => intro r; rfl
  | succ n ih => intro r; show ((rInt r).1 :: (rMany n (rInt r).2).1).length = _; rw [List.length_cons, ih]
theorem rInt_rest (r : Rs) : ∃ k, (rInt r).2.rest = r.rest.drop k ∧ k ≤ r.rest.length ∧ ((rInt r).2.err = 0 → 0 < k) := by
  rw [rInt]
  split
  · rename_i h; exact ⟨0, rfl, Nat.zero_le _, fun h' => absurd h' h⟩
  · rename_i h
    obtain ⟨k, h1, h2, h3⟩ := vi_rest r.rest 0 0
    split
    · rename_i h4; exact ⟨0, rfl, Nat.zero_le _, fun h' => absurd h' h4⟩
    · rename_i h4; exact ⟨k, h1, h2, fun _ => h3 (by omega)⟩
theorem rInt_le (r : Rs) : (rInt r).2.rest.length ≤ r.rest.length := by
  obtain ⟨k, h1, _, _⟩ := rInt_rest r; rw [h1, List.length_drop]; omega
theorem rInt_lt (r : Rs) (h : (rInt r).2.err = 0) : (rInt r).2.rest.length < r.rest.length := by
  obtain ⟨k, h1, h2, h3⟩ := rInt_rest r
  have := h3 h
  rw [h1, List.length_drop]; omega
theorem rInt_bounds (r : Rs) : -9223372036854775808 ≤ (rInt r).1 ∧ (rInt r).1 ≤ 9223372036854775807 := by
  rw [rInt]
  split
  · exact ⟨by simp, by simp⟩
  · split
    · exact ⟨by simp, by simp⟩
    · exact unzig_bounds _ (vi_lt r.rest 0 0 (by decide) (by decide))
theorem rInt_err (r : Rs) (h : r.err ≠ 0) : (rInt r).2.err ≠ 0 := by rw [rInt_bad r h]; exact h
theorem rMany_bad (n : Nat) : ∀ r, r.err ≠ 0 → (rMany n r).2 = r := by
  induction n with
  | zero => intro r _; rfl
  | succ n ih => intro r h; show (rMany n (rInt r).2).2 = r; rw [rInt_bad r h]; exact ih r h
theorem rMany_split (a b : Nat) : ∀ r, (rMany (a + b) r).2 = (rMany b (rMany a r).2).2 := by
  induction a with
  | zero => intro r; rw [Nat.zero_add]; rfl
  | succ a ih =>
    intro r
    rw [Nat.add_right_comm]
    show (rMany (a + b) (rInt r).2).2 = (rMany b (rMany a (rInt r).2).2).2
    exact ih _
theorem rCount_le (m : Int) (r : Rs) : (rCount m r).1 ≤ max m 0 := by
  rw [rCount]
  split
  · show (0 : Int) ≤ _; omega
  · split
    · show (0 : Int) ≤ _; omega
    · split
      · show (0 : Int) ≤ _; omega
      · omega
theorem rCount_max (m : Int) (r : Rs) : (rCount m r).1 ≤ 9223372036854775807 := by
  have h := rInt_bounds r
  rw [rCount]
  split
  · show (0 : Int) ≤ _; omega
  · split
    · show (0 : Int) ≤ _; omega
    · split
      · show (0 : Int) ≤ _; omega
      · omega
/-- What is left when one reads numbers till there is an error. -/
def rTill : Nat → Rs → Rs
  | 0, r => r
  | n + 1, r => if r.err ≠ 0 then r else rTill n (rInt r).2
theorem rTill_many (n : Nat) : ∀ r, (rMany n r).2 = rTill n r := by
  induction n with
  | zero => intro r; rfl
  | succ n ih =>
    intro r
    show (rMany n (rInt r).2).2 = _
    rw [rTill]
    split
    · rename_i h; rw [rInt_bad r h]; exact rMany_bad n r h
    · exact ih _
theorem rTill_err (n : Nat) : ∀ r, r.rest.length < n → (rTill n r).err ≠ 0 := by
  induction n with
  | zero => intro r h; omega
  | succ n ih =>
    intro r h
    rw [rTill]
    split
    · assumption
    · rename_i hr
      by_cases he : (rInt r).2.err = 0
      · exact ih _ (by have := rInt_lt r he; omega)
      · cases n with
        | zero => exact he
        | succ n => rw [rTill, if_pos he]; exact he
end Hub
end Go.Proofs.Ytbbfbeacgnimpaa
