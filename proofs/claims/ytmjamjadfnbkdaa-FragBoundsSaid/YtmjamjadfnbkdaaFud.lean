/-
  Fragments: one piece added from each of some sources: at most eight entries, of different sources; which of them are too old. Plain laws.
-/
import Derived.Test.YtmjamjadfnbkdaaFub
import Derived.Test.YtmjamjadfnbkdaaFso
open Go Go.RowKit Go.Proofs
namespace Go.Proofs.Ytmjamjadfnbkdaa
namespace Hub
/-- The entry of one piece. -/
def oneP (s : ByteArray) (src now : Int) : Pk := setF (newP src (byI s 0) (byI s 2) now) (byI s 1).toNat (s.extract 3 s.size)
/-- What the list holds after pieces at the times before m. -/
def Bound (s : ByteArray) (m : Nat) (L : List Pk) : Prop :=
  L.Pairwise otherKey ∧ L.length ≤ 8 ∧ (byI s 2 = 1 → L = []) ∧ ∀ p ∈ L, ∃ (src : Int) (t : Nat), t < m ∧ p = oneP s src t
section
variable {s : ByteArray} (hc : chkF s = 0) (h1 : byI s 2 ≠ 1)
include hc h1
theorem oneP_is (src now : Int) : ∃ c k : Nat, byI s 2 = (c : Int) ∧ byI s 1 = (k : Int) ∧ 2 ≤ c ∧ c ≤ 16 ∧ k < c ∧ fitsF k c ((s.extract 3 s.size).size : Int) = true ∧
    oneP s src now = ⟨src, byI s 0, c, limF now, (List.replicate c false).set k true, (List.replicate c ByteArray.empty).set k (s.extract 3 s.size)⟩ := by
  obtain ⟨z3, c1, c2, hix, hfit⟩ := chkF_zero hc
  have l1 := byI_lo s 1
  obtain ⟨k, hk⟩ := Int.eq_ofNat_of_zero_le l1
  obtain ⟨c, hcc⟩ := Int.eq_ofNat_of_zero_le (show 0 ≤ byI s 2 by omega)
  refine ⟨c, k, hcc, hk, by omega, by omega, by omega, ?_, ?_⟩
  · rw [hk, hcc] at hfit
    rw [ByteArray.size_extract]
    rw [show ((min s.size s.size - 3 : Nat) : Int) = (s.size : Int) - 3 by omega]
    exact hfit
  · unfold oneP
    rw [hk, Int.toNat_natCast]
    have hkl : k < (newP src (byI s 0) (byI s 2) now).hv.length := by rw [hcc]; simp [newP]; omega
    rw [setF_new hkl (by simp [newP])]
    rw [hcc]
    simp [newP]
theorem oneP_valid (src now : Int) : validF (oneP s src now) = true := by
  obtain ⟨c, k, hcc, hk, c2, c16, hkc, hfit, e⟩ := oneP_is hc h1 src now
  have l0 := byI_lo s 0
  have u0 := byI_hi s 0
  have t0 := limF_lo now
  have t1 := limF_hi now
  rw [e]
  generalize byI s 0 = b at *
  generalize limF now = t at *
  generalize s.extract 3 s.size = d at *
  have hhead : headOk ⟨src, b, (c : Int), t, (List.replicate c false).set k true, (List.replicate c ByteArray.empty).set k d⟩ = true := by
    unfold headOk
    dsimp only
    rw [decide_eq_true_eq, List.length_set, List.length_set, List.length_replicate, List.length_replicate]
    omega
  have hbody : bodyOk ⟨src, b, (c : Int), t, (List.replicate c false).set k true, (List.replicate c ByteArray.empty).set k d⟩ := by
    intro i hi
    dsimp only at hi ⊢
    rw [List.length_set, List.length_replicate] at hi
    rw [getD_at (by simpa using hi), getD_at (by simpa using hi), List.getElem_set, List.getElem_set]
    unfold entOk
    by_cases e : k = i
    · subst e; rw [if_pos rfl, if_pos rfl, if_pos rfl]; exact hfit
    · rw [if_neg e, if_neg e, List.getElem_replicate, List.getElem_replicate, if_neg (by decide)]; rfl
  have hmem : true ∈ (List.replicate c false).set k true := List.mem_iff_getElem.2 ⟨k, by simpa using hkc, List.getElem_set_self _⟩
  have hpart : ((List.replicate c false).set k true).all id = false := by
    rw [List.all_eq_false]
    obtain ⟨j, hj, hjk⟩ : ∃ j, j < c ∧ j ≠ k := by
      by_cases e : k = 0
      · exact ⟨1, by omega, by omega⟩
      · exact ⟨0, by omega, by omega⟩
    refine ⟨false, List.mem_iff_getElem.2 ⟨j, by simpa using hj, ?_⟩, by simp⟩
    rw [List.getElem_set_ne (by omega), List.getElem_replicate]
  have a1 : 0 < arrF ((List.replicate c false).set k true) := by unfold arrF; exact List.count_pos_iff.2 hmem
  have a2 := arr_full hpart
  rw [List.length_set, List.length_replicate] at a2
  unfold validF
  rw [hhead, decide_eq_true hbody]
  dsimp only
  rw [decide_eq_true a1, decide_eq_true (show (arrF ((List.replicate c false).set k true) : Int) < (c : Int) by omega)]
  rfl
theorem oneP_key (src now : Int) : (oneP s src now).src = src ∧ (oneP s src now).id = byI s 0 ∧ (oneP s src now).cnt = byI s 2 ∧ (oneP s src now).since = limF now := by
  obtain ⟨c, k, hcc, hk, c2, c16, hkc, hfit, e⟩ := oneP_is hc h1 src now
  rw [e, hcc]; exact ⟨rfl, rfl, rfl, rfl⟩
theorem oneP_part (src now : Int) : wholeP (oneP s src now) = false := by
  have hv := oneP_valid hc h1 src now
  cases e : wholeP (oneP s src now) with
  | false => rfl
  | true =>
    exfalso
    obtain ⟨n, _, _, g1, _, g2⟩ := validF_len hv
    unfold wholeP at e
    rw [List.all_eq_true] at e
    have e2 : arrF (oneP s src now).hv = (oneP s src now).hv.length := by
      unfold arrF
      rw [List.count_eq_length]
      intro b hb
      have := e b hb
      simpa using this.symm
    unfold validF at hv
    simp only [Bool.and_eq_true, decide_eq_true_eq] at hv
    have := hv.2
    omega
theorem oneP_again (src now : Int) : setF (oneP s src now) (byI s 1).toNat (s.extract 3 s.size) = oneP s src now := by
  obtain ⟨c, k, hcc, hk, c2, c16, hkc, hfit, e⟩ := oneP_is hc h1 src now
  rw [e, hk, Int.toNat_natCast]
  exact setF_old (by simpa using hkc) (by simp)
end
theorem Bound.nil (s : ByteArray) : Bound s 0 [] := ⟨List.Pairwise.nil, by simp, fun _ => rfl, fun p hp => by simp at hp⟩
theorem Bound.good {s : ByteArray} {m : Nat} {L : List Pk} (hc : chkF s = 0) (h : Bound s m L) : Good L := by
  obtain ⟨ha, hl, h1, hp⟩ := h
  refine ⟨fun p hpp => ?_, ha, hl⟩
  by_cases e : byI s 2 = 1
  · rw [h1 e] at hpp; simp at hpp
  · obtain ⟨src, t, _, rfl⟩ := hp p hpp
    exact oneP_valid hc e src t
/-- A piece is added. -/
theorem bound_add {s : ByteArray} {m : Nat} {L : List Pk} {src : Int} (hc : chkF s = 0) (h : Bound s m L) :
    ∃ L' t b, addF L src (m : Int) s = ((L', t, b), 0) ∧ Bound s (m + 1) L' := by
  have hG := h.good hc
  obtain ⟨ha, hl, h1, hp⟩ := h
  by_cases e : byI s 2 = 1
  · rw [h1 e, addF_one hc e, orderF_good (show Good [] from ⟨fun p hp => by simp at hp, List.Pairwise.nil, by simp⟩), stage_none (findF_miss (fun p hp => by simp at hp))]
    exact ⟨_, _, _, rfl, List.Pairwise.nil, by simp, fun _ => rfl, fun p hp => by simp at hp⟩
  · have hwide : ∀ p ∈ L, ∃ (src : Int) (t : Nat), t < m + 1 ∧ p = oneP s src t := fun p hpp => by
      obtain ⟨a, t, ht, he⟩ := hp p hpp
      exact ⟨a, t, by omega, he⟩
    rw [addF_go hc e, orderF_good hG]
    by_cases hf : findF L src (byI s 0) < 0
    · have hk := findF_neg hf
      have hno : ∀ p ∈ L, ¬ (p.src = src ∧ p.id = byI s 0) := by
        intro p hpp ⟨g1, g2⟩
        obtain ⟨j, hj, rfl⟩ := List.getElem_of_mem hpp
        have hmem := hpp
        unfold findF at hk
        cases e3 : L.findIdx? (keyIs src (byI s 0)) with
        | none =>
          rw [List.findIdx?_eq_none_iff] at e3
          have := e3 _ hmem
          simp [keyIs, g1, g2] at this
        | some k => rw [e3] at hk; simp only at hk; omega
      rw [stage_none hk]
      dsimp only
      rw [goF_new, finF_at (by simp)]
      have e2 : (room L ++ [newP src (byI s 0) (byI s 2) (m : Int)])[(room L).length]'(by simp) = newP src (byI s 0) (byI s 2) (m : Int) := by
        rw [List.getElem_append_right (Nat.le_refl _)]; simp
      rw [e2, show setF (newP src (byI s 0) (byI s 2) (m : Int)) (byI s 1).toNat (s.extract 3 s.size) = oneP s src (m : Int) from rfl]
      rw [if_neg (by rw [oneP_part hc e]; decide), List.set_append_right _ _ (Nat.le_refl _), Nat.sub_self, List.set_cons_zero]
      have hsub : (room L).Sublist L := by unfold room; split; exact List.eraseIdx_sublist _ _; exact List.Sublist.refl _
      have hrl : (room L).length < 8 := by unfold room; split; rw [List.length_eraseIdx, if_pos (by omega)]; omega; omega
      refine ⟨_, _, _, rfl, ?_, ?_, fun e' => absurd e' e, ?_⟩
      · rw [List.pairwise_append]
        refine ⟨ha.sublist hsub, List.pairwise_singleton _ _, fun p hpp q hq => ?_⟩
        rw [List.mem_singleton.1 hq]
        obtain ⟨k1, k2, _⟩ := oneP_key hc e src (m : Int)
        intro e4
        exact hno p (hsub.subset hpp) ⟨by rw [← k1]; exact e4.1, by rw [← k2]; exact e4.2⟩
      · rw [List.length_append, List.length_singleton]; omega
      · intro p hpp
        rcases List.mem_append.1 hpp with hpp | hpp
        · exact hwide p (hsub.subset hpp)
        · exact ⟨src, m, by omega, List.mem_singleton.1 hpp⟩
    · obtain ⟨j, hk, hj, k1, k2⟩ := findF_range hf
      obtain ⟨a, t, ht, he⟩ := hp L[j] (List.getElem_mem hj)
      have hcn : L[j].cnt = byI s 2 := by rw [he]; exact (oneP_key hc e a t).2.2.1
      rw [stage_same hk hj hcn]
      dsimp only
      rw [goF_old, finF_at hj, he, oneP_again hc e, if_neg (by rw [oneP_part hc e]; decide), ← he, List.set_getElem_self]
      exact ⟨_, _, _, rfl, ha, hl, fun e' => absurd e' e, hwide⟩
/-- None is too old for a great life, all are for none. -/
theorem bound_expire {s : ByteArray} {m : Nat} {L : List Pk} (hc : chkF s = 0) (h : Bound s m L) (hm : m ≤ 40) : expireF L 1000 0 = [] ∧ expireF L 1000 1099511627776 = L := by
  have hG := h.good hc
  obtain ⟨ha, hl, h1, hp⟩ := h
  have hs : ∀ p ∈ L, 0 ≤ p.since ∧ p.since ≤ 40 := by
    intro p hpp
    by_cases e : byI s 2 = 1
    · rw [h1 e] at hpp; simp at hpp
    · obtain ⟨a, t, ht, rfl⟩ := hp p hpp
      rw [(oneP_key hc e a t).2.2.2]
      unfold limF; omega
  unfold expireF
  rw [orderF_good hG]
  refine ⟨?_, ?_⟩
  · rw [List.filter_eq_nil_iff]
    intro p hpp
    have := hs p hpp
    rw [decide_eq_true_eq]
    unfold limF; omega
  · rw [List.filter_eq_self]
    intro p hpp
    have := hs p hpp
    rw [decide_eq_true_eq]
    unfold limF; omega
end Hub
end Go.Proofs.Ytmjamjadfnbkdaa
