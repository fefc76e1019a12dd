/-
  What is read of a prefix of a journal: the plain law.
-/
import Derived.Test.YtnglepapodncbaaJouP
open Go Go.RowKit Go.Proofs
namespace Go.Proofs.Ytnglepapodncbaa
namespace Hub
theorem vi_pre (m : Nat) : ∀ (i z y k : Nat), i + m = 9 → y < 2 * 128 ^ m → (0 < i → 0 < y) → k < (grp y).length → (vi i z ((grp y).take k)).1 = 5 := by
  induction m with
  | zero =>
    intro i z y k _ hy _ hk
    rw [grp_small y (by omega)] at hk ⊢
    obtain rfl : k = 0 := by simp at hk; omega
    rw [List.take_zero, vi_nil]
  | succ m ih =>
    intro i z y k hi hy h0 hk
    by_cases hs : y < 128
    · rw [grp_small y hs] at hk ⊢
      obtain rfl : k = 0 := by simp at hk; omega
      rw [List.take_zero, vi_nil]
    · rw [grp_big y hs] at hk ⊢
      cases k with
      | zero => rw [List.take_zero, vi_nil]
      | succ k =>
        rw [List.take_succ_cons, vi_cons]
        have e : (UInt8.ofNat (y % 128 + 128)).toNat = y % 128 + 128 := by simp; omega
        rw [e, if_neg (by omega), if_neg (by omega)]
        exact ih (i + 1) _ (y / 128) k (by omega) (by rw [Nat.pow_succ] at hy; omega) (by omega) (by rw [List.length_cons] at hk; omega)
theorem rInt_pre (n : Int) (k : Nat) (h0 : -9223372036854775808 ≤ n) (h1 : n ≤ 9223372036854775807) (hk : k < (enc n).length) : (rInt ⟨(enc n).take k, 0⟩).2.err = 5 := by
  have h := vi_pre 9 0 0 (zig n) k rfl (by have := zig_lt n h0 h1; omega) (by omega) hk
  rw [enc] at *
  rw [rInt, if_neg (by simp), if_pos (by rw [h]; simp)]
  exact h
theorem topJ_pre {g : Int} {k : Nat} (h0 : 1 ≤ g) (h1 : g ≤ 1099511627776) (hk : k < (hdJ g).length) : topJ ((hdJ g).take k) = (0, 0, 5) := by
  have hel := enc_length g (by omega) (by omega)
  have hlen : (hdJ g).length = 3 + (enc g).length := by rw [hdJ, List.length_append]; rfl
  have hkl : ((hdJ g).take k).length = k := by rw [List.length_take]; omega
  by_cases h3 : k < 3
  · have e : (hdJ g).take k = magicJ.take k := by rw [hdJ, List.take_append_of_le_length (by show k ≤ 3; omega)]
    refine topJ_short (by omega) ?_ (by omega)
    rw [hkl, List.take_of_length_le (by omega), e]; simp
  · have e : (hdJ g).take k = magicJ ++ (enc g).take (k - 3) := by
      rw [hdJ, List.take_append, List.take_of_length_le (show magicJ.length ≤ k by show 3 ≤ k; omega)]; rfl
    have hd : ((hdJ g).take k).drop 3 = (enc g).take (k - 3) := by rw [e]; rfl
    have ht : ((hdJ g).take k).take 3 = magicJ := by rw [e]; rfl
    have hr := rInt_pre g (k - 3) (by omega) (by omega) (by omega)
    rw [topJ_err (by omega) (by rw [ht, hkl, List.take_of_length_le (show magicJ.length ≤ k by show 3 ≤ k; omega)]; simp) (by omega) (by rw [hd, hr]; simp), hd, hr]
theorem oneJ_pre {p t r : List UInt8} {n : Nat} (hp : p.length ≤ 262144) (h : t ++ r = recJ p n) (hr : r ≠ []) : (oneJ t n).2.2 ≠ 0 := by
  intro he
  obtain ⟨u, e1, _, e3⟩ := oneJ_rec he
  have h1 := oneJ_read p [] n hp
  have h2 := oneJ_read (oneJ t n).1 (u ++ r) n e3
  rw [List.append_nil, ← h] at h1
  have e4 : recJ (oneJ t n).1 n ++ (u ++ r) = t ++ r := by rw [← List.append_assoc, ← e1]
  rw [e4, h1] at h2
  have e5 : p = (oneJ t n).1 := congrArg (·.1) h2
  have l1 := congrArg List.length e1
  have l2 := congrArg List.length h
  rw [← e5, List.length_append] at l1
  rw [List.length_append] at l2
  have : 0 < r.length := List.length_pos_iff.2 hr
  omega
/-- Where the k-th record ends. -/
def endJ (g : Int) (l : List (List UInt8)) (k : Nat) : Nat := (hdJ g ++ recsJ (l.take k) 0).length
theorem recsJ_split (l : List (List UInt8)) (k : Nat) : recsJ l 0 = recsJ (l.take k) 0 ++ recsJ (l.drop k) (min k l.length) := by
  conv => lhs; rw [← List.take_append_drop k l]
  rw [recsJ_append, List.length_take, Nat.zero_add]
theorem endJ_succ (g : Int) (l : List (List UInt8)) (k : Nat) (hk : k < l.length) : endJ g l (k + 1) = endJ g l k + (recJ l[k] k).length := by
  rw [endJ, endJ, List.take_succ_eq_append_getElem hk, recsJ_append, List.length_append, List.length_append, List.length_append, Nat.zero_add, List.length_take]
  rw [Nat.min_eq_left (by omega)]
  simp [recsJ]; omega
/-- What is read of the first 'cut' bytes, when the record W is the first that is not complete. -/
theorem scanJ_pre {g : Int} {l : List (List UInt8)} {cut W : Nat} (h0 : 1 ≤ g) (h1 : g ≤ 1099511627776) (hs : shortJ l) (hl : (hdJ g ++ recsJ l 0).length ≤ 1048576) (hW : W ≤ l.length)
    (hc0 : endJ g l W ≤ cut) (hc1 : W < l.length → cut < endJ g l (W + 1)) (hc2 : cut ≤ (hdJ g ++ recsJ l 0).length) :
    ∃ e, scanJ ((hdJ g ++ recsJ l 0).take cut) = (g, l.take W, (endJ g l W : Int), e) ∧ (e = 0 ↔ endJ g l W = cut) := by
  have hsp := recsJ_split l W
  rw [Nat.min_eq_left hW] at hsp
  have htk : (hdJ g ++ recsJ l 0).take cut = hdJ g ++ (recsJ (l.take W) 0 ++ (recsJ (l.drop W) W).take (cut - endJ g l W)) := by
    rw [hsp, ← List.append_assoc, List.take_append, ← List.append_assoc]
    rw [List.take_of_length_le (show (hdJ g ++ recsJ (l.take W) 0).length ≤ cut from hc0)]; rfl
  have hsw : shortJ (l.take W) := fun p hp => hs p (List.mem_of_mem_take hp)
  have hll : (hdJ g ++ (recsJ (l.take W) 0 ++ (recsJ (l.drop W) W).take (cut - endJ g l W))).length ≤ 1048576 := by rw [← htk, List.length_take]; omega
  have hr := scanJ_read (t := (recsJ (l.drop W) W).take (cut - endJ g l W)) h0 h1 hsw hll
  have hlW : (l.take W).length = W := by rw [List.length_take]; omega
  rw [htk, hr, hlW]
  have hE : ((hdJ g).length : Int) + ((recsJ (l.take W) 0).length : Int) = (endJ g l W : Int) := by rw [endJ, List.length_append]; omega
  by_cases hcut : endJ g l W = cut
  · rw [hcut, Nat.sub_self, List.take_zero, scanN_nil]
    refine ⟨0, ?_, by simp⟩
    simp only [List.append_nil, Int.add_zero]
    rw [hE, hcut]
  · have hWl : W < l.length := by
      rcases Nat.lt_or_ge W l.length with h | h
      · exact h
      · exfalso
        have e : W = l.length := by omega
        rw [endJ, e, List.take_length] at hcut hc0
        omega
    have hsu := endJ_succ g l W hWl
    have hc1' := hc1 hWl
    have hdr : recsJ (l.drop W) W = recJ l[W] W ++ recsJ (l.drop (W + 1)) (W + 1) := by rw [List.drop_eq_getElem_cons hWl]; rfl
    have ht : (recsJ (l.drop W) W).take (cut - endJ g l W) = (recJ l[W] W).take (cut - endJ g l W) := by
      rw [hdr, List.take_append_of_le_length (by omega)]
    rw [ht]
    have hbad := oneJ_pre (p := l[W]) (t := (recJ l[W] W).take (cut - endJ g l W)) (r := (recJ l[W] W).drop (cut - endJ g l W)) (n := W) (hs _ (List.getElem_mem hWl)) (List.take_append_drop _ _) (by
      intro e
      have := congrArg List.length e
      rw [List.length_drop, List.length_nil] at this
      omega)
    rw [scanN_bad (by rw [List.length_take]; omega) hbad]
    refine ⟨(oneJ ((recJ l[W] W).take (cut - endJ g l W)) W).2.2, ?_, ?_⟩
    · simp only [List.append_nil, Int.add_zero]
      rw [hE]
    · exact ⟨fun h => absurd h hbad, fun h => absurd h hcut⟩
theorem scanJ_head {g : Int} {l : List (List UInt8)} {cut : Nat} (h0 : 1 ≤ g) (h1 : g ≤ 1099511627776) (hc : cut < (hdJ g).length) : scanJ ((hdJ g ++ recsJ l 0).take cut) = (0, [], 0, 5) := by
  rw [List.take_append_of_le_length (by omega), scanJ, topJ_pre h0 h1 hc, if_pos (by simp)]
/-- A record is added. -/
theorem addJ_recs {g : Int} {l : List (List UInt8)} {p : List UInt8} (h0 : 1 ≤ g) (h1 : g ≤ 1099511627776) (hs : shortJ l) (hp : p.length ≤ 262144) (hl : (hdJ g ++ recsJ (l ++ [p]) 0).length ≤ 1048576) :
    addJ (hdJ g ++ recsJ l 0) p = (hdJ g ++ recsJ (l ++ [p]) 0, 0) := by
  have e : hdJ g ++ recsJ (l ++ [p]) 0 = hdJ g ++ recsJ l 0 ++ recJ p l.length := by rw [recsJ_append, Nat.zero_add, List.append_assoc]; simp [recsJ]
  have hw := scanJ_whole h0 h1 hs (by rw [e, List.length_append] at hl; omega)
  rw [addJ, hw, if_neg (by simp), if_neg (by omega)]
  simp only
  rw [← e, if_neg (by omega)]
theorem recsJ_size (l : List (List UInt8)) (h : ∀ p ∈ l, p.length ≤ 5000) : ∀ n, (recsJ l n).length ≤ 5014 * l.length := by
  induction l with
  | nil => intro n; simp [recsJ]
  | cons p l ih =>
    intro n
    have h1 := recJ_le p n (by have := h p (by simp); omega)
    have h2 := ih (fun x hx => h x (by simp [hx])) (n + 1)
    have h3 := h p (by simp)
    rw [recsJ, List.length_append, List.length_cons]; omega
end Hub
end Go.Proofs.Ytnglepapodncbaa
