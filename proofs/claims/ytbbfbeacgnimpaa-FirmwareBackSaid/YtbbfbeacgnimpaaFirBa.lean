/-
  Plain facts: the blocks of an image, stored in any order, are the image.
-/
import Derived.Test.YtbbfbeacgnimpaaFir
open Go Go.RowKit Go.Proofs
namespace Go.Proofs.Ytbbfbeacgnimpaa
namespace Hub
def idxB (n b : Nat) (d : Bool) (m : Nat) : Nat := if d then n - 1 - (m + b) % n else (m + b) % n
theorem idxB_lt {n : Nat} (b : Nat) (d : Bool) (m : Nat) (h : 0 < n) : idxB n b d m < n := by
  have := Nat.mod_lt (m + b) h
  unfold idxB; split <;> omega
theorem rot_all {n : Nat} (b j : Nat) (hj : j < n) : ∃ m, m < n ∧ (m + b) % n = j := by
  have hn : 0 < n := by omega
  have hr := Nat.mod_lt b hn
  refine ⟨(j + n - b % n) % n, Nat.mod_lt _ hn, ?_⟩
  rw [Nat.add_mod, Nat.mod_mod]
  generalize b % n = r at *
  by_cases h : r ≤ j
  · have e : (j + n - r) % n = j - r := by
      rw [show j + n - r = j - r + n by omega, Nat.add_mod_right]
      exact Nat.mod_eq_of_lt (by omega)
    rw [e, show j - r + r = j by omega]
    exact Nat.mod_eq_of_lt hj
  · have e : (j + n - r) % n = j + n - r := Nat.mod_eq_of_lt (by omega)
    rw [e, show j + n - r + r = j + n by omega, Nat.add_mod_right]
    exact Nat.mod_eq_of_lt hj
theorem idxB_all {n : Nat} (b : Nat) (d : Bool) (j : Nat) (hj : j < n) : ∃ m, m < n ∧ idxB n b d m = j := by
  cases d with
  | false => obtain ⟨m, h1, h2⟩ := rot_all b j hj; exact ⟨m, h1, by simp [idxB, h2]⟩
  | true =>
    obtain ⟨m, h1, h2⟩ := rot_all (n := n) b (n - 1 - j) (by omega)
    refine ⟨m, h1, ?_⟩
    show n - 1 - (m + b) % n = j
    omega
def BackInv (s : ByteArray) (n b : Nat) (d : Bool) (k : Nat) (H : List Bool) (B : List ByteArray) : Prop :=
  H.length = n ∧ B.length = n ∧ (∀ m, m < k → H.getD (idxB n b d m) false = true) ∧ ∀ j, j < n → H.getD j false = true → B.getD j ByteArray.empty = blk s j
theorem back_start (s : ByteArray) (n b : Nat) (d : Bool) : BackInv s n b d 0 (List.replicate n false) (List.replicate n ByteArray.empty) := by
  refine ⟨by simp, by simp, fun m h => by omega, fun j hj h => ?_⟩
  rw [List.getD_eq_getElem?_getD, List.getElem?_replicate, if_pos hj] at h
  simp at h
theorem getD_set {α : Type} (l : List α) (i j : Nat) (x z : α) (hi : i < l.length) : (l.set i x).getD j z = if i = j then x else l.getD j z := by
  rw [List.getD_eq_getElem?_getD, List.getD_eq_getElem?_getD, List.getElem?_set]
  by_cases h : i = j
  · rw [if_pos h, if_pos hi, if_pos h]; rfl
  · rw [if_neg h, if_neg h]
theorem back_step {s : ByteArray} {n b : Nat} {d : Bool} {k : Nat} {H : List Bool} {B : List ByteArray} (h : BackInv s n b d k H B) (hn : 0 < n) :
    BackInv s n b d (k + 1) (H.set (idxB n b d k) true) (B.set (idxB n b d k) (blk s (idxB n b d k))) := by
  obtain ⟨h1, h2, h3, h4⟩ := h
  have hi := idxB_lt b d k hn
  refine ⟨by rw [List.length_set]; exact h1, by rw [List.length_set]; exact h2, fun m hm => ?_, fun j hj => ?_⟩
  · rw [getD_set _ _ _ _ _ (by omega)]
    by_cases e : idxB n b d k = idxB n b d m
    · rw [if_pos e]
    · rw [if_neg e]
      exact h3 m (by
        rcases Nat.lt_or_ge m k with h | h
        · exact h
        · exact absurd (by rw [show m = k by omega]) e)
  · rw [getD_set _ _ _ _ _ (by omega), getD_set _ _ _ _ _ (by omega)]
    by_cases e : idxB n b d k = j
    · rw [if_pos e, if_pos e]; subst e; intro _; rfl
    · rw [if_neg e, if_neg e]; exact h4 j hj
theorem back_end {s : ByteArray} {b : Nat} {d : Bool} {H : List Bool} {B : List ByteArray} (h : BackInv s (nblk s) b d (nblk s) H B) : (∀ j, j < nblk s → H.getD j false = true) ∧ false ∉ H ∧ B = blks s := by
  obtain ⟨h1, h2, h3, h4⟩ := h
  have ha : ∀ j, j < nblk s → H.getD j false = true := fun j hj => by
    obtain ⟨m, hm, e⟩ := idxB_all b d j hj
    rw [← e]; exact h3 m hm
  refine ⟨ha, fun hf => ?_, ?_⟩
  · obtain ⟨j, hj, e⟩ := List.getElem_of_mem hf
    have := ha j (by omega)
    rw [List.getD_eq_getElem?_getD, List.getElem?_eq_getElem hj, Option.getD_some, e] at this
    simp at this
  · apply List.ext_getElem
    · rw [h2, blks_length]
    · intro j hj1 hj2
      have := h4 j (by omega) (ha j (by omega))
      rw [List.getD_eq_getElem?_getD, List.getElem?_eq_getElem hj1, Option.getD_some] at this
      rw [this, blks_get]
theorem back_whole {s : ByteArray} {f : Fw} {b : Nat} {d : Bool} {H : List Bool} {B : List ByteArray} (hf : f.sums = (blks s).map sumB) (hz : chkF f = 0) (h : BackInv s (nblk s) b d (nblk s) (haveL (nblk s) H B) (dataL (nblk s) H B)) :
    wholeF f H B = (bl s, 0) := by
  obtain ⟨_, h2, h3⟩ := back_end h
  have hl : f.sums.length = nblk s := by rw [hf, List.length_map, blks_length]
  have hb : firstBad f.sums 0 (blks s) = 0 := firstBad_all _ _ 0 (fun i hi => by
    rw [blks_length] at hi
    rw [hf, Nat.zero_add, blks_get]; exact verB_blk s i hi)
  rw [wholeF, if_neg (by simp [hz]), hl, if_neg h2, h3, hb, if_neg (by simp), blks_flat]
theorem back_miss {s : ByteArray} {f : Fw} {b : Nat} {d : Bool} {H : List Bool} {B : List ByteArray} (hf : f.sums = (blks s).map sumB) (hz : chkF f = 0) (h1 : H.length = nblk s) (h2 : B.length = nblk s) (h : BackInv s (nblk s) b d (nblk s) (haveL (nblk s) H B) (dataL (nblk s) H B)) :
    missF f H = [] := by
  have hh : haveL (nblk s) H B = H := by rw [haveL, if_pos ⟨h1, h2⟩]
  rw [hh] at h
  obtain ⟨ha, _, _⟩ := back_end h
  have hl : f.sums.length = nblk s := by rw [hf, List.length_map, blks_length]
  rw [missF, if_neg (by simp [hz]), hl]
  apply List.eq_nil_iff_forall_not_mem.2
  intro x hx
  obtain ⟨i, hi, _, hno⟩ := (missN_mem _ _ _ _).1 hx
  exact hno ⟨h1, ha i hi⟩
theorem back_small {s : ByteArray} {b : Nat} {d : Bool} {H : List Bool} {B : List ByteArray} (h1 : H.length = nblk s) (h2 : B.length = nblk s) (h : BackInv s (nblk s) b d (nblk s) (haveL (nblk s) H B) (dataL (nblk s) H B)) :
    ∀ y ∈ B, y.size ≤ 64 := by
  have hd : dataL (nblk s) H B = B := by rw [dataL, if_pos ⟨h1, h2⟩]
  have e := (back_end h).2.2
  rw [hd] at e
  subst e
  intro y hy
  obtain ⟨i, hi, rfl⟩ := List.getElem_of_mem hy
  rw [blks_get, blk_size]; omega
theorem back_put {s : ByteArray} {f : Fw} {b : Nat} {d : Bool} {k : Nat} {H : List Bool} {B : List ByteArray} (hf : f.sums = (blks s).map sumB) (hz : chkF f = 0) (hn : 0 < nblk s) (h : BackInv s (nblk s) b d k (haveL (nblk s) H B) (dataL (nblk s) H B)) :
    verF f (idxB (nblk s) b d k) (blk s (idxB (nblk s) b d k)) = 0 ∧ (putF f H B (idxB (nblk s) b d k) (blk s (idxB (nblk s) b d k))).2.2 = 0 ∧
    (putF f H B (idxB (nblk s) b d k) (blk s (idxB (nblk s) b d k))).1.length = nblk s ∧ (putF f H B (idxB (nblk s) b d k) (blk s (idxB (nblk s) b d k))).2.1.length = nblk s ∧
    BackInv s (nblk s) b d (k + 1) (haveL (nblk s) (putF f H B (idxB (nblk s) b d k) (blk s (idxB (nblk s) b d k))).1 (putF f H B (idxB (nblk s) b d k) (blk s (idxB (nblk s) b d k))).2.1)
      (dataL (nblk s) (putF f H B (idxB (nblk s) b d k) (blk s (idxB (nblk s) b d k))).1 (putF f H B (idxB (nblk s) b d k) (blk s (idxB (nblk s) b d k))).2.1) := by
  have hi := idxB_lt b d k hn
  have hv : verF f (idxB (nblk s) b d k) (blk s (idxB (nblk s) b d k)) = 0 := by
    rw [verF, if_neg (by simp [hz]), hf]; exact verB_blk s _ hi
  have hl : f.sums.length = nblk s := by rw [hf, List.length_map, blks_length]
  have hs := back_step h hn
  have hp : putF f H B (idxB (nblk s) b d k) (blk s (idxB (nblk s) b d k)) = ((haveL (nblk s) H B).set (idxB (nblk s) b d k) true, (dataL (nblk s) H B).set (idxB (nblk s) b d k) (blk s (idxB (nblk s) b d k)), 0) := by
    rw [putF, if_neg (by simp [hv]), hl, Int.toNat_natCast]
  have e1 : ((haveL (nblk s) H B).set (idxB (nblk s) b d k) true).length = nblk s := by rw [List.length_set, haveL_length]
  have e2 : ((dataL (nblk s) H B).set (idxB (nblk s) b d k) (blk s (idxB (nblk s) b d k))).length = nblk s := by rw [List.length_set, dataL_length]
  rw [hp]
  refine ⟨hv, rfl, e1, e2, ?_⟩
  have q1 : haveL (nblk s) ((haveL (nblk s) H B).set (idxB (nblk s) b d k) true) ((dataL (nblk s) H B).set (idxB (nblk s) b d k) (blk s (idxB (nblk s) b d k))) = (haveL (nblk s) H B).set (idxB (nblk s) b d k) true := by
    rw [haveL, if_pos ⟨e1, e2⟩]
  have q2 : dataL (nblk s) ((haveL (nblk s) H B).set (idxB (nblk s) b d k) true) ((dataL (nblk s) H B).set (idxB (nblk s) b d k) (blk s (idxB (nblk s) b d k))) = (dataL (nblk s) H B).set (idxB (nblk s) b d k) (blk s (idxB (nblk s) b d k)) := by
    rw [dataL, if_pos ⟨e1, e2⟩]
  rw [q1, q2]
  exact hs
theorem back_zero (s : ByteArray) (n b : Nat) (d : Bool) (hn : 0 < n) : BackInv s n b d 0 (haveL n [] []) (dataL n [] []) := by
  rw [haveL, dataL, if_neg (by simp; omega), if_neg (by simp; omega)]
  exact back_start s n b d
end Hub
end Go.Proofs.Ytbbfbeacgnimpaa
