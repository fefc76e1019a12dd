/-
  Fragments: the pieces of one message, added in any order, and of two messages, added in turn. Plain laws.
-/
import Derived.Test.YtmjamjadfnbkdaaFub
open Go Go.RowKit Go.Proofs
namespace Go.Proofs.Ytmjamjadfnbkdaa
namespace Hub
theorem Good.nil : Good [] := ⟨fun p hp => by simp at hp, List.Pairwise.nil, by simp⟩
theorem Good.one {p : Pk} (h : validF p = true) : Good [p] := ⟨fun q hq => by rw [List.mem_singleton.1 hq]; exact h, List.pairwise_singleton _ _, by simp⟩
/-- What the list holds when the pieces of sn have arrived, and not all. -/
def Held (s : ByteArray) (src id' : Int) (L : List Pk) (sn : List Bool) : Prop :=
  (L = [] ∧ sn = List.replicate (cntS s) false) ∨ (∃ since, 0 ≤ since ∧ since ≤ 1099511627776 ∧ 2 ≤ cntS s ∧ sn.length = cntS s ∧ true ∈ sn ∧ L = [stP s src id' (cntS s) since sn])
theorem Held.len {s : ByteArray} {src id' : Int} {L : List Pk} {sn : List Bool} (h : Held s src id' L sn) : sn.length = cntS s := by
  rcases h with ⟨_, rfl⟩ | ⟨_, _, _, _, h, _⟩
  · simp
  · exact h
/-- A piece of one message is added. -/
theorem held_add {s : ByteArray} {src id' now : Int} {L : List Pk} {sn : List Bool} {k : Nat} (hs : s.size ≤ 1000) (h0 : 0 ≤ id') (h1 : id' ≤ 255) (h : Held s src id' L sn) (ha : sn.all id = false) (hk : k < cntS s) :
    ((sn.set k true).all id = true ∧ addF L src now (pieceF s id' (cntS s) k) = (([], s, true), 0)) ∨
    ((sn.set k true).all id = false ∧ ∃ L', addF L src now (pieceF s id' (cntS s) k) = ((L', ByteArray.empty, false), 0) ∧ L'.length = 1 ∧ Held s src id' L' (sn.set k true)) := by
  have hp := cntS_pos s
  rcases h with ⟨rfl, rfl⟩ | ⟨since, s0, s1, hn, hl, hm, rfl⟩
  · by_cases hn : cntS s = 1
    · left
      obtain rfl : k = 0 := by omega
      refine ⟨by rw [hn]; rfl, ?_⟩
      have := add_single (src := src) (now := now) hs h0 h1 hn Good.nil (fun p hp => by simp at hp)
      rw [← hn] at this; rw [← this]
    · right
      have hn2 : 2 ≤ cntS s := by omega
      have ht : true ∈ (List.replicate (cntS s) false).set k true := List.mem_iff_getElem.2 ⟨k, by simpa using hk, List.getElem_set_self _⟩
      have hall : ((List.replicate (cntS s) false).set k true).all id = false := by
        rw [List.all_eq_false]
        obtain ⟨j, hj, hjk⟩ : ∃ j, j < cntS s ∧ j ≠ k := by
          by_cases e : k = 0
          · exact ⟨1, by omega, by omega⟩
          · exact ⟨0, by omega, by omega⟩
        refine ⟨false, List.mem_iff_getElem.2 ⟨j, by simpa using hj, ?_⟩, by simp⟩
        rw [List.getElem_set_ne (by omega), List.getElem_replicate]
      refine ⟨hall, _, add_first hs h0 h1 hn2 hk Good.nil (by simp) (fun p hp => by simp at hp), by simp, .inr ⟨limF now, limF_lo now, limF_hi now, hn2, by simp, ht, rfl⟩⟩
  · have hv := stP_valid (src := src) (since := since) hs h0 h1 hn s0 s1 hl hm ha
    have hA := add_more (A := []) (B := []) (src := src) (now := now) hs h0 h1 hn hk hl (Good.one hv)
    rw [List.nil_append] at hA
    cases hw : (sn.set k true).all id with
    | true =>
      left
      rw [hw] at hA
      exact ⟨rfl, hA⟩
    | false =>
      right
      rw [hw] at hA
      refine ⟨rfl, _, hA, by simp, .inr ⟨since, s0, s1, hn, by rw [List.length_set]; exact hl, ?_, rfl⟩⟩
      exact List.mem_iff_getElem.2 ⟨k, by rw [List.length_set]; omega, List.getElem_set_self _⟩
/-- The part of a message of which the first i pieces have arrived. -/
def partE (s : ByteArray) (src id' : Int) (i : Nat) : List Pk := if 0 < i ∧ i < cntS s then [stP s src id' (cntS s) 0 (seenN (cntS s) i)] else []
theorem partE_valid {s : ByteArray} {src id' : Int} {i : Nat} (hs : s.size ≤ 1000) (h0 : 0 ≤ id') (h1 : id' ≤ 255) : ∀ p ∈ partE s src id' i, validF p = true ∧ p.src = src ∧ p.id = id' := by
  intro p hp
  unfold partE at hp
  split at hp
  · next h =>
    rw [List.mem_singleton.1 hp]
    exact ⟨stP_valid hs h0 h1 (by omega) (by omega) (by omega) (seenN_len _ _) (seenN_mem h.1 (by omega)) (seenN_part h.2), rfl, rfl⟩
  · simp at hp
theorem partE_len (s : ByteArray) (src id' : Int) (i : Nat) : (partE s src id' i).length ≤ 1 := by unfold partE; split <;> simp
theorem partE_good {s t : ByteArray} {src id' src2 id2 : Int} {i j : Nat} (hs : s.size ≤ 1000) (ht : t.size ≤ 1000) (h0 : 0 ≤ id') (h1 : id' ≤ 255) (g0 : 0 ≤ id2) (g1 : id2 ≤ 255) (hne : ¬ (src = src2 ∧ id' = id2)) :
    Good (partE s src id' i ++ partE t src2 id2 j) := by
  refine ⟨fun p hp => ?_, ?_, ?_⟩
  · rcases List.mem_append.1 hp with hp | hp
    · exact (partE_valid hs h0 h1 p hp).1
    · exact (partE_valid ht g0 g1 p hp).1
  · rw [List.pairwise_append]
    refine ⟨?_, ?_, fun p hp q hq e => ?_⟩
    · unfold partE; split
      · exact List.pairwise_singleton _ _
      · exact List.Pairwise.nil
    · unfold partE; split
      · exact List.pairwise_singleton _ _
      · exact List.Pairwise.nil
    · obtain ⟨_, e1, e2⟩ := partE_valid hs h0 h1 p hp
      obtain ⟨_, e3, e4⟩ := partE_valid ht g0 g1 q hq
      exact hne ⟨by rw [← e1, ← e3]; exact e.1, by rw [← e2, ← e4]; exact e.2⟩
  · have := partE_len s src id' i
    have := partE_len t src2 id2 j
    rw [List.length_append]; omega
/-- The next piece of a message is added, beside the part of another. -/
theorem part_add {s t : ByteArray} {src id' src2 id2 : Int} {i j : Nat} (hs : s.size ≤ 1000) (ht : t.size ≤ 1000) (h0 : 0 ≤ id') (h1 : id' ≤ 255) (g0 : 0 ≤ id2) (g1 : id2 ≤ 255) (hne : ¬ (src = src2 ∧ id' = id2)) (hi : i < cntS s) (hj : i = 0 → partE t src2 id2 j = []) :
    addF (partE s src id' i ++ partE t src2 id2 j) src (i : Int) (pieceF s id' (cntS s) i) = ((partE s src id' (i + 1) ++ partE t src2 id2 j, if i + 1 = cntS s then s else ByteArray.empty, decide (i + 1 = cntS s)), 0) := by
  have hG := partE_good (i := i) (j := j) hs ht h0 h1 g0 g1 hne
  by_cases i0 : i = 0
  · subst i0
    rw [hj rfl, List.append_nil, List.append_nil]
    have e0 : partE s src id' 0 = [] := by unfold partE; rw [if_neg (by omega)]
    rw [e0]
    by_cases hn : cntS s = 1
    · have e1 : partE s src id' (0 + 1) = [] := by unfold partE; rw [if_neg (by omega)]
      have := add_single (src := src) (now := ((0 : Nat) : Int)) hs h0 h1 hn Good.nil (fun p hp => by simp at hp)
      rw [← hn] at this
      rw [this, e1, if_pos (by omega), decide_eq_true (by omega)]
    · have hn2 : 2 ≤ cntS s := by omega
      have e1 : partE s src id' (0 + 1) = [stP s src id' (cntS s) 0 (seenN (cntS s) 1)] := by unfold partE; rw [if_pos (by omega)]
      rw [add_first hs h0 h1 hn2 hi Good.nil (by simp) (fun p hp => by simp at hp), e1, if_neg (by omega), decide_eq_false (by omega), seenN_zero, seenN_set]
      rfl
  · have e0 : partE s src id' i = [stP s src id' (cntS s) 0 (seenN (cntS s) i)] := by unfold partE; rw [if_pos (by omega)]
    rw [e0] at hG ⊢
    have hA := add_more (A := []) (B := partE t src2 id2 j) (src := src) (now := (i : Int)) hs h0 h1 (by omega) hi (seenN_len _ _) (by simpa using hG)
    simp only [List.nil_append] at hA
    rw [List.singleton_append, hA, seenN_set]
    by_cases hl : i + 1 = cntS s
    · have e1 : partE s src id' (i + 1) = [] := by unfold partE; rw [if_neg (by omega)]
      rw [seenN_all (by omega), if_pos rfl, e1, if_pos hl, decide_eq_true hl, List.nil_append]
    · have e1 : partE s src id' (i + 1) = [stP s src id' (cntS s) 0 (seenN (cntS s) (i + 1))] := by unfold partE; rw [if_pos (by omega)]
      rw [seenN_part (by omega), if_neg (by decide), e1, if_neg hl, decide_eq_false hl]
      rfl
/-- The same, with the part of the other message ahead. -/
theorem part_add2 {s t : ByteArray} {src id' src2 id2 : Int} {i j : Nat} (hs : s.size ≤ 1000) (ht : t.size ≤ 1000) (h0 : 0 ≤ id') (h1 : id' ≤ 255) (g0 : 0 ≤ id2) (g1 : id2 ≤ 255) (hne : ¬ (src = src2 ∧ id' = id2)) (hi : i < cntS t) :
    addF (partE s src id' j ++ partE t src2 id2 i) src2 (i : Int) (pieceF t id2 (cntS t) i) = ((partE s src id' j ++ partE t src2 id2 (i + 1), if i + 1 = cntS t then t else ByteArray.empty, decide (i + 1 = cntS t)), 0) := by
  have hG := partE_good (i := j) (j := i) hs ht h0 h1 g0 g1 hne
  have hno : ∀ p ∈ partE s src id' j, ¬ (p.src = src2 ∧ p.id = id2) := fun p hp e => by
    obtain ⟨_, e1, e2⟩ := partE_valid hs h0 h1 p hp
    exact hne ⟨by rw [← e1]; exact e.1, by rw [← e2]; exact e.2⟩
  by_cases i0 : i = 0
  · subst i0
    have e0 : partE t src2 id2 0 = [] := by unfold partE; rw [if_neg (by omega)]
    rw [e0, List.append_nil] at hG ⊢
    by_cases hn : cntS t = 1
    · have e1 : partE t src2 id2 (0 + 1) = [] := by unfold partE; rw [if_neg (by omega)]
      have := add_single (src := src2) (now := ((0 : Nat) : Int)) ht g0 g1 hn hG hno
      rw [← hn] at this
      rw [this, e1, if_pos (by omega), decide_eq_true (by omega), List.append_nil]
    · have hn2 : 2 ≤ cntS t := by omega
      have e1 : partE t src2 id2 (0 + 1) = [stP t src2 id2 (cntS t) 0 (seenN (cntS t) 1)] := by unfold partE; rw [if_pos (by omega)]
      rw [add_first ht g0 g1 hn2 hi hG (by have := partE_len s src id' j; omega) hno, e1, if_neg (by omega), decide_eq_false (by omega), seenN_zero, seenN_set]
      rfl
  · have e0 : partE t src2 id2 i = [stP t src2 id2 (cntS t) 0 (seenN (cntS t) i)] := by unfold partE; rw [if_pos (by omega)]
    rw [e0] at hG ⊢
    rw [add_more (src := src2) (now := (i : Int)) ht g0 g1 (by omega) hi (seenN_len _ _) hG, seenN_set]
    by_cases hl : i + 1 = cntS t
    · have e1 : partE t src2 id2 (i + 1) = [] := by unfold partE; rw [if_neg (by omega)]
      rw [seenN_all (by omega), if_pos rfl, e1, if_pos hl, decide_eq_true hl]
    · have e1 : partE t src2 id2 (i + 1) = [stP t src2 id2 (cntS t) 0 (seenN (cntS t) (i + 1))] := by unfold partE; rw [if_pos (by omega)]
      rw [seenN_part (by omega), if_neg (by decide), e1, if_neg hl, decide_eq_false hl]
end Hub
end Go.Proofs.Ytmjamjadfnbkdaa
