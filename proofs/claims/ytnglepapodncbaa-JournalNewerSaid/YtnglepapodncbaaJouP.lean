/-
  Journals: what was written is read; the chapter's example. Plain laws.
-/
import Derived.Test.YtnglepapodncbaaJouE
open Go Go.RowKit Go.Proofs
namespace Go.Proofs.Ytnglepapodncbaa
namespace Hub
def hdJ (g : Int) : List UInt8 := magicJ ++ enc g
theorem topJ_read {g : Int} {t : List UInt8} (h0 : 1 ≤ g) (h1 : g ≤ 1099511627776) (hl : (hdJ g ++ t).length ≤ 1048576) : topJ (hdJ g ++ t) = (g, ((hdJ g).length : Int), 0) := by
  have e : hdJ g ++ t = magicJ ++ (enc g ++ t) := by rw [hdJ, List.append_assoc]
  have hlen : (hdJ g).length = 3 + (enc g).length := by rw [hdJ, List.length_append]; rfl
  have hr := rInt_enc g t (by omega) (by omega)
  have hd : (hdJ g ++ t).drop 3 = enc g ++ t := by rw [e]; rfl
  have htk : (hdJ g ++ t).take 3 = magicJ := by rw [e]; rfl
  have hge : 3 ≤ (hdJ g ++ t).length := by rw [List.length_append]; omega
  have h2 : ¬ (hdJ g ++ t).take 3 ≠ magicJ.take (hdJ g ++ t).length := by
    rw [htk, List.take_of_length_le (show magicJ.length ≤ _ from hge)]; simp
  rw [topJ_good (by omega) h2 (by omega) (by rw [hd, hr]; simp) (by rw [hd, hr]; simp only; omega), hd, hr]
  simp only [List.length_append, Prod.mk.injEq, true_and, and_true]
  omega
theorem scanJ_read {g : Int} {l : List (List UInt8)} {t : List UInt8} (h0 : 1 ≤ g) (h1 : g ≤ 1099511627776) (hs : shortJ l) (hl : (hdJ g ++ (recsJ l 0 ++ t)).length ≤ 1048576) :
    scanJ (hdJ g ++ (recsJ l 0 ++ t)) = (g, l ++ (scanN t l.length).1, ((hdJ g).length : Int) + (((recsJ l 0).length : Int) + (scanN t l.length).2.1), (scanN t l.length).2.2) := by
  have ht := topJ_read h0 h1 hl
  have hn := scanN_read l t 0 hs
  rw [Nat.zero_add] at hn
  rw [scanJ, ht, if_neg (by simp)]
  simp only [Int.toNat_natCast, List.drop_left', hn]
theorem scanJ_whole {g : Int} {l : List (List UInt8)} (h0 : 1 ≤ g) (h1 : g ≤ 1099511627776) (hs : shortJ l) (hl : (hdJ g ++ recsJ l 0).length ≤ 1048576) :
    scanJ (hdJ g ++ recsJ l 0) = (g, l, ((hdJ g ++ recsJ l 0).length : Int), 0) := by
  have h := scanJ_read (t := []) h0 h1 hs (by rw [List.append_nil]; exact hl)
  rw [List.append_nil, scanN_nil, List.append_nil] at h
  rw [h, List.length_append]; simp
/-- A journal with a right header is its header, its records, and a rest that is no record. -/
theorem scanJ_form (j : List UInt8) (h : (scanJ j).1 ≠ 0) : ∃ t, 1 ≤ (scanJ j).1 ∧ (scanJ j).1 ≤ 1099511627776 ∧ j.length ≤ 1048576 ∧ shortJ (scanJ j).2.1 ∧
    j = hdJ (scanJ j).1 ++ (recsJ (scanJ j).2.1 0 ++ t) ∧ (scanJ j).2.2.1 = ((hdJ (scanJ j).1 ++ recsJ (scanJ j).2.1 0).length : Int) ∧ ((scanJ j).2.2.2 = 0 ↔ t = []) := by
  by_cases he : (topJ j).2.2 = 0
  · have hsc : scanJ j = ((topJ j).1, (scanN (j.drop (topJ j).2.1.toNat) 0).1, (topJ j).2.1 + (scanN (j.drop (topJ j).2.1.toNat) 0).2.1, (scanN (j.drop (topJ j).2.1.toNat) 0).2.2) := by rw [scanJ, if_neg (by simpa using he)]
    have hg : ∃ g r, 1 ≤ g ∧ g ≤ 1099511627776 ∧ j.length ≤ 1048576 ∧ j = hdJ g ++ r ∧ (topJ j).1 = g ∧ (topJ j).2.1 = ((hdJ g).length : Int) := by
      rw [topJ] at he ⊢
      split at he
      · simp at he
      · rename_i h1
        split at he
        · simp at he
        · rename_i h2
          split at he
          · simp at he
          · rename_i h3
            split at he
            · rename_i h4; exact absurd he h4
            · rename_i h4
              split at he
              · simp at he
              · rename_i h5
                rw [if_neg h1, if_neg h2, if_neg h3, if_neg h4, if_neg h5]
                have hc := (rInt_canon ⟨j.drop 3, 0⟩ (by simpa using h4)).2
                simp only at hc
                have htk : j.take 3 = magicJ := by rw [Classical.not_not.1 h2, List.take_of_length_le (show magicJ.length ≤ _ by show 3 ≤ _; omega)]
                have hj : j = hdJ (rInt ⟨j.drop 3, 0⟩).1 ++ (rInt ⟨j.drop 3, 0⟩).2.rest := by
                  rw [hdJ, List.append_assoc, ← hc, ← htk, List.take_append_drop]
                have hl := congrArg List.length hj
                rw [List.length_append] at hl
                exact ⟨_, _, by omega, by omega, by omega, hj, rfl, by simp only; omega⟩
    obtain ⟨g, r, g1, g2, g3, g4, g5, g6⟩ := hg
    rw [hsc, g5, g6, Int.toNat_natCast]
    have hd : j.drop (hdJ g).length = r := by
      have key : ∀ x : List UInt8, j = x ++ r → j.drop x.length = r := fun x h => by rw [h, List.drop_left' rfl]
      exact key _ g4
    rw [hd]
    obtain ⟨t, e1, e2, e3, e4⟩ := scanN_recs _ r 0 (Nat.le_refl _)
    refine ⟨t, g1, g2, g3, e3, ?_, ?_, e4⟩
    · rw [← e1]; exact g4
    · simp only [e2, List.length_append]; omega
  · exfalso; apply h; rw [scanJ, if_pos he]
theorem scanJ_none (j : List UInt8) (h : (scanJ j).1 = 0) : (scanJ j).2.2.1 = 0 := by
  by_cases he : (topJ j).2.2 = 0
  · exfalso
    have hsc : (scanJ j).1 = (topJ j).1 := by rw [scanJ, if_neg (by simpa using he)]
    rw [hsc] at h
    rw [topJ] at he h
    split at he
    · simp at he
    · rename_i h1
      split at he
      · simp at he
      · rename_i h2
        split at he
        · simp at he
        · rename_i h3
          split at he
          · rename_i h4; exact absurd he h4
          · rename_i h4
            split at he
            · simp at he
            · rename_i h5
              rw [if_neg h1, if_neg h2, if_neg h3, if_neg h4, if_neg h5] at h
              simp only at h; omega
  · rw [scanJ, if_pos he]
/-! ### The chapter's example -/
theorem enc_one : enc 1 = [2] := by
  rw [enc, show zig 1 = 2 from rfl, grp_small 2 (by decide)]; rfl
def exH : List UInt8 := [72, 74, 49, 2]
theorem hdJ_one : hdJ 1 = exH := by rw [hdJ, enc_one]; rfl
theorem headJ_one : headJ 1 = (exH, 0) := by rw [headJ_yes (by decide) (by decide), enc_one]; rfl
def exR : List UInt8 := recJ [97] 0
theorem exR_eq : ∃ a b c d : UInt8, exR = [2, 97, a, b, c, d] := by
  refine ⟨byteAt (crc32 ([97] ++ enc ((0 : Nat) : Int))).toNat 3, byteAt (crc32 ([97] ++ enc ((0 : Nat) : Int))).toNat 2, byteAt (crc32 ([97] ++ enc ((0 : Nat) : Int))).toNat 1, byteAt (crc32 ([97] ++ enc ((0 : Nat) : Int))).toNat 0, ?_⟩
  have e : encT [97] = [2, 97] := by rw [encT, show (([97] : List UInt8).length : Int) = 1 from rfl, enc_one]; rfl
  rw [exR, recJ, e]; rfl
theorem scanJ_exH : scanJ exH = (1, [], 4, 0) := by
  have h := scanJ_whole (g := 1) (l := []) (by decide) (by decide) (fun p hp => by simp at hp) (by rw [hdJ_one]; decide)
  rw [hdJ_one] at h
  exact h
theorem short_a : shortJ [[97]] := fun p hp => by simp at hp; subst hp; decide
theorem recs_a : recsJ [[97]] 0 = exR := by rw [recsJ, recsJ, List.append_nil]; rfl
theorem ex_length : (exH ++ exR).length = 10 := by obtain ⟨a, b, c, d, h⟩ := exR_eq; rw [h]; rfl
theorem addJ_ex : addJ exH [97] = (exH ++ exR, 0) := by
  have hl := ex_length
  rw [addJ, scanJ_exH, if_neg (by simp), if_neg (by decide)]
  have e : exH ++ recJ [97] ([] : List (List UInt8)).length = exH ++ exR := rfl
  simp only [e, hl]
  rfl
theorem scanJ_ex : scanJ (exH ++ exR) = (1, [[97]], 10, 0) := by
  have hl := ex_length
  have h := scanJ_whole (g := 1) (l := [[97]]) (by decide) (by decide) short_a (by rw [hdJ_one, recs_a, hl]; decide)
  rw [hdJ_one, recs_a, hl] at h
  exact h
theorem scanJ_ex9 : scanJ ((exH ++ exR).take 9) = (1, [], 4, 5) := by
  obtain ⟨a, b, c, d, h⟩ := exR_eq
  have e : (exH ++ exR).take 9 = hdJ 1 ++ (recsJ [] 0 ++ [2, 97, a, b, c]) := by rw [h, hdJ_one]; rfl
  have h1 := scanJ_read (g := 1) (l := []) (t := [2, 97, a, b, c]) (by decide) (by decide) (fun p hp => by simp at hp) (by rw [hdJ_one]; simp [recsJ, exH])
  have hr := rText_enc [97] [a, b, c] 262144 (by decide) (by decide)
  have e2 : encT [97] = [2, 97] := by rw [encT, show (([97] : List UInt8).length : Int) = 1 from rfl, enc_one]; rfl
  rw [e2] at hr
  have ho : oneJ [2, 97, a, b, c] 0 = ([], 0, 5) := by
    have hr' : rText 262144 ⟨[2, 97, a, b, c], 0⟩ = ([97], ⟨[a, b, c], 0⟩) := hr
    rw [oneJ, hr', if_neg (by simp), if_pos (by simp)]
  have hs : scanN [2, 97, a, b, c] ([] : List (List UInt8)).length = ([], 0, 5) := by
    show scanN [2, 97, a, b, c] 0 = _
    rw [scanN_bad (by simp) (by rw [ho]; simp), ho]
  rw [hs, hdJ_one] at h1
  rw [e, hdJ_one, h1]; rfl
theorem cutJ_ex9 : cutJ ((exH ++ exR).take 9) = exH := by
  obtain ⟨a, b, c, d, h⟩ := exR_eq
  rw [cutJ, scanJ_ex9, h]; rfl
end Hub
end Go.Proofs.Ytnglepapodncbaa
